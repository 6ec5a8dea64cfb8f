/- The layer: Go code as conditions, and that they are sound. Plain facts. No condition. -/
import Derived.Test.YtdmbjejhifjhbaaGreatDoorT02
import Derived.ChangeMaps
import Derived.Deep.LoopGhost
import Derived.JoinedCond
import Derived.KernelRfl
import Derived.Lib.AtoiErrMem
import Derived.Maps.RangeRun
import Derived.OpenShut
import Derived.ProofKit
import Derived.Scope
import Derived.Shelf.SlIter.Sorted
import Derived.Shelf.SlSortCmp.Whole1
import Derived.Shelf.Slices.CompactS
import Derived.Shelf.Slices.In.SortNone
import Derived.Shelf.Small.Strs
import Derived.Shelf.Sort.Plain
import Derived.Shelf.Strconv.Atoi
import Derived.Shelf.Strings.BuilderF
import Derived.WalkKit
import Derived.WideKeyArgs
set_option linter.all false
set_option maxRecDepth 100000
section
namespace Go.AL
variable [Tabs]
theorem eU:∀{cs:List AV} {j:Nat} {c:AV},cs[j]?=some c->∀i∈ids c,i∈ids.idsL cs
 |[],j,c,h,_,_=>by simp at h
 |a::r,0,c,h,i,hi=>by simp at h;subst h;simp[ids.idsL,hi]
 |a::r,j+1,c,h,i,hi=>by simp only[ids.idsL,NV];exact Or.inr (eU (by simpa using h) i hi)
theorem gJ(τ:Ty)(x:den τ):ids.idsL (cells τ x)=[]:=by
 cases τ with
 |st n=>cases n<;>rfl
 |_=>rfl
theorem H8(τ:Ty)(xs:List (den τ)):∀c∈bD τ xs,ids c=[]:=by
 intro c hc;simp only[bD,OF]at hc;obtain⟨x,_,hx⟩:=hc;obtain⟨j,hj⟩:=List.getElem?_of_mem hx
 cases hi:ids c with
 |nil=>rfl
 |cons a r=>have:=eU hj a (by rw[hi];simp);rw[gJ]at this;cases this
theorem pU{c:AV}{j:Nat}{c':AV}(hc:(aa c)[j]?=some c')(k:Nat)(hk:k∈ids c'):k∈ids c:=by
 cases c with
 |agg cs=>exact eU (cs:=cs) hc k hk
 |st n x=>have:=eU (cs:=cells (.st n) x) hc k hk;rw[gJ]at this;cases this
 |row τ xs=>rw[H8 τ xs c' (NQ hc)]at hk;cases hk
 |_=>
  cases j with|zero=>simp[aa]at hc;subst hc;exact hk|succ j=>simp[aa]at hc
theorem V.agree{Ω:Om}{e':Nat->Option CObj}{a:AV}{v:Value}(h:V Ω a v):(∀i∈ids a,e' i=Ω.e i)->V ⟨e',Ω.w,Ω.pub⟩ a v:=by
 have tok:∀{o:Option Nat} {n:Nat} {v:Value},(∀i,o=some i->e' i=Ω.e i)->ie Ω o n v->ie ⟨e',Ω.w,Ω.pub⟩ o n v:=by intro o n v hi ht id hid;obtain⟨m,base,cap,h1,h2,h3⟩:=ht id hid;exact⟨m,base,cap,by simp only;rw[hi id hid,h1],h2,h3⟩
 induction h with
 |undef v=>exact fun _=>.undef v
 |int k n h1 h2=>exact fun _=>.int k n h1 h2
 |bool b=>exact fun _=>.bool b
 |str s h=>exact fun _=>.str s h
 |lstNil τ o ht=>exact fun hi=>.lstNil τ o (tok (fun i e=>hi i (by subst e;simp[ids])) ht)
 |lstVoid τ a=>exact fun _=>.lstVoid τ a
 |lst τ xs o b off cap vals h1 h2 h3 h4 h5 ih=>intro hi;refine .lst τ xs o b off cap vals h1 h2 (tok (fun i e=>hi i (by subst e;simp[ids])) h3) h4 (fun i x hx j c hc=>ih i x hx j c hc (fun k hk=>?_));have:=eU hc k hk;rw[gJ]at this;cases this
 |nils=>exact fun _=>.nils
 |ptr id off b o len hb=>exact fun hi=>.ptr id off b o len (by simp only;rw[hi id (by simp[ids]),hb])
 |ptNone n=>exact fun _=>.ptNone n
 |ptSome n x v _ ih=>exact fun _=>.ptSome n x v (ih (fun k hk=>by simp[ids]at hk))
 |arr id n w b len cap a he h1 h2 h3 h4=>exact fun hi=>.arr id n w b len cap a (by simp only;rw[hi id (by simp[ids]),he]) h1 h2 h3 h4
 |aptr id i w off b o len he=>exact fun hi=>.aptr id i w off b o len (by simp only;rw[hi id (by simp[ids]),he])
 |bptr id b g he=>exact fun hi=>.bptr id b g (by simp only;rw[hi id (by simp[ids]),he])
 |iface t a v _ ih=>exact fun hi=>.iface t a v (ih (fun k hk=>hi k (by simp only[ids];exact hk)))
 |nilif=>exact fun _=>.nilif
 |lstp τ xs k b off cap vals h1 h2 h3 h4 h5 ih=>intro hi;refine .lstp τ xs k b off cap vals h1 h2 (tok (fun i e=>hi i (by cases e;simp[ids])) h3) h4 (fun i x hx j c hc=>ih i x hx j c hc (fun k hk=>?_));have:=eU hc k hk;rw[gJ]at this;cases this
 |tptr τ n k p hp=>intro hi;obtain⟨m,base,cap,h1,h2⟩:=hp;exact .tptr τ n k p ⟨m,base,cap,by simp only;rw[hi k (by simp[ids]),h1],h2⟩
 |st n x v _ ih=>exact fun hi=>.st n x v (ih (fun k hk=>by
   have e:ids (.agg (cells (.st n) x))=[]:=gJ (.st n) x;rw[e]at hk;cases hk))
 |cptr c b off vals h1 h2 ih=>exact fun hi=>.cptr c b off vals h1 (fun j c' hc=>ih j c' hc (fun k hk=>hi k (pU hc k hk)))
 |nilp=>exact fun _=>.nilp
 |agg cs vs hl _ ih=>exact fun hi=>.agg cs vs hl (fun j c v hc hv=>ih j c v hc hv (fun k hk=>hi k (by simp only[ids];exact eU hc k hk)))
 |tup cs vs hl _ ih=>exact fun hi=>.tup cs vs hl (fun j c v hc hv=>ih j c v hc hv (fun k hk=>hi k (by simp only[ids];exact eU hc k hk)))
 |fn f cs vs hl _ ih=>exact fun hi=>.fn f cs vs hl (fun j c v hc hv=>ih j c v hc hv (fun k hk=>hi k (by simp only[ids];exact eU hc k hk)))
theorem oH:∀(l:List (Nat×AV))(i:Nat),cx l i=.undef∨(i,cx l i)∈l
 |[],i=>Or.inl rfl
 |(j,v)::r,i=>by
  simp only[cx];by_cases h:j=i
  ·subst h;simp
  ·simp only[O7,h,ND];rcases oH r i with k|k
   ·exact Or.inl k
   ·exact Or.inr (Nn _ k)
theorem dT:∀(l:List (Nat×SObj))(i:Nat)(o:SObj),aE l i=some o->(i,o)∈l
 |[],i,o,h=>by simp[aE]at h
 |(j,v)::r,i,o,h=>by
  simp only[aE]at h;by_cases hj:j=i
  ·subst hj;simp at h;simp[h]
  ·simp only[O7,hj,ND]at h;exact Nn _ (dT r i o h)
theorem mR:∀(l:List (Nat×SObj))(i:Nat),aE l i=none->i∉l.map (·.1)
 |[],i,_=>by simp
 |(j,v)::r,i,h=>by
  simp only[aE]at h;by_cases hj:j=i
  ·subst hj;simp at h
  ·simp only[O7,hj,ND]at h;have:=mR r i h;simp only[Nj,Nw,Qj];exact⟨fun e=>hj e.symm,this⟩
theorem qF(l:List (Nat×AV))(p:Nat->Bool)(i:Nat):cx (l.filter fun x=>p x.1) i=if p i then cx l i else .undef:=by
 induction l with
 |nil=>simp[cx]
 |cons x r ih=>
  obtain⟨j,v⟩:=x;by_cases hp:p j=true
  ·rw[List.filter_cons_of_pos (by simpa using hp)];simp only[cx,ih];by_cases hj:j=i
   ·subst hj;simp[hp]
   ·simp[hj]
  ·rw[List.filter_cons_of_neg (by simpa using hp),ih];by_cases hj:j=i
   ·subst hj;simp[hp]
   ·simp[cx,hj]
theorem jI(l:List (Nat×SObj))(p:Nat->Bool)(i:Nat):aE (l.filter fun x=>p x.1) i=if p i then aE l i else none:=by
 induction l with
 |nil=>simp[aE]
 |cons x r ih=>
  obtain⟨j,v⟩:=x;by_cases hp:p j=true
  ·rw[List.filter_cons_of_pos (by simpa using hp)];simp only[aE,ih];by_cases hj:j=i
   ·subst hj;simp[hp]
   ·simp[hj]
  ·rw[List.filter_cons_of_neg (by simpa using hp),ih];by_cases hj:j=i
   ·subst hj;simp[hp]
   ·simp[aE,hj]
theorem Holds.forget{F:Fr}{s:AS}{s':St}{a:Act}{Ω:Om}{A:List Nat}(h:Holds F s a Ω)(hT:∀i,s'.abs.T i=.undef∨s'.abs.T i=s.T i)
 (hB:∀i,i∈A->s'.abs.B i=none)(hB':∀i,i∉A->s'.abs.B i=s.B i)(hn:fb A s'=true)(hA:∀i∈A,cU i=false) :
  ∃Ω',Ω'.w=Ω.w/\Holds F s'.abs a Ω':=by
 have hn':(∀x∈s'.t,∀i∈ids x.2,i∉A)/\(∀x∈s'.b,∀i∈AP x.2,i∉A):=by simp only[fb,N4,Ng]at hn;exact⟨fun x hx=>iU (hn.1 x hx),fun x hx=>iU (hn.2 x hx)⟩
 have he:∀i,i∉A->(fun i=>if i∈A then none else Ω.e i) i=Ω.e i:=fun i hi=>by simp[hi]
 refine⟨⟨fun i=>if i∈A then none else Ω.e i,Ω.w,Ω.pub⟩,rfl,fun i=>?_,h.size,h.defers,fun id o ho=>?_,fun id hid=>?_,fun i j ci cj b o hi hj hbi hbj=>?_,h.pubok,fun id c hc=>?_,?_⟩
 ·rcases oH s'.t i with k|k
  ·have:s'.abs.T i=.undef:=k;rw[this];exact .undef _
  ·rcases hT i with hu|hu
   ·rw[hu];exact .undef _
   ·refine V.agree (Ω:=Ω) ?_ (fun j hj=>he j (hn'.1 _ k j hj));have:=h.tmps i;rw[<-hu]at this;exact this
 ·have hid:id∉A:=fun hm=>by rw[hB id hm]at ho;cases ho
  have hs:=h.slots id o (by rw[<-hB' id hid];exact ho);have hm:=hn'.2 _ (dT _ _ _ ho)
  cases o with
  |box c=>obtain⟨b,off,h1,h2⟩:=hs;refine⟨b,off,by simp only[N3 hid,h1],fun j c' hc=>?_⟩;obtain⟨k1,k2,k3,v,k4,k5⟩:=h2 j c' hc;exact⟨k1,k2,k3,v,k4,k5.agree (fun j hj=>he j (hm j (pU hc j hj)))⟩
  |tail τ n=>obtain⟨base,cap,h1,h2⟩:=hs;exact⟨base,cap,by simp only[N3 hid,h1],h2⟩
  |bld t u l=>obtain⟨b,g,h1,h2,h3⟩:=hs;exact⟨b,g,by simp only[N3 hid,h1],h2,h3⟩
  |tailp τ n x=>obtain⟨b,cap,h1,h2,h3,h4,h5,h6,h7⟩:=hs;refine⟨b,cap,by simp only[N3 hid,h1],h2,h3,h4,h5,h6,fun j c hc=>?_⟩;obtain⟨v,g1,g2⟩:=h7 j c hc;refine⟨v,g1,g2.agree (fun i hi=>?_)⟩;have:=eU hc i hi;rw[gJ]at this;cases this
 ·by_cases hA:id∈A
  ·simp[hA]
  ·simp only[N3 hA];exact h.dom id (by rw[<-hB' id hA];exact hid)
 ·by_cases hi':i∈A
  ·simp[hi']at hi
  ·by_cases hj':j∈A
   ·simp[hj']at hj
   ·simp only[N3 hi']at hi;simp only[N3 hj']at hj;exact h.inj i j ci cj b o hi hj hbi hbj
 ·have hl:=F.dom0 id c hc;have hid:id∉A:=fun hm=>by rw[hA id hm]at hl;cases hl
  obtain⟨c',h1,h2⟩:=h.keep id c hc;exact⟨c',by simp only[N3 hid];exact h1,h2⟩
 ·exact⟨h.frame.os,h.frame.tape,h.frame.output,h.frame.size,h.frame.block,h.frame.cell,h.frame.kind,h.frame.pub,h.frame.old,h.frame.pcell⟩
theorem Lv{A:List Nat}{i:Nat}(h:i∈A):¬((!A.contains i)=true):=by simp[h]
theorem JW{A:List Nat}{i:Nat}(h:i∉A):(!A.contains i)=true:=by simp[h]
theorem yq{F:Fr}{ops:List Oper}{s s':St}{a:Act}{Ω:Om}(h:Holds F s.abs a Ω)(he:enter ops s=some s') :
  ∃Ω',Ω'.w=Ω.w/\Holds F s'.abs a Ω':=by
 simp only[enter]at he;generalize hA:((s.b.map (·.1)).filter fun i=>GL (xP ops) (De ops) i&&!cU i)=A at he;have hAl:∀i∈A,cU i=false:=by intro i hi;rw[<-hA]at hi;simp only[ON,N4,Np]at hi;exact hi.2.2
 split at he
 ·simp at he;subst he;exact⟨Ω,rfl,h⟩
 ·split at he
  ·rename_i hn;simp only[Xs]at he;subst he;refine h.forget (A:=A) (fun i=>?_) (fun i hi=>?_) (fun i hi=>?_) hn hAl
   ·have:=qF s.t (fun i=>!A.contains i) i;simp only[St.abs];rw[this];split<;>simp
   ·have:=jI s.b (fun i=>!A.contains i) i;simp only[St.abs];rw[this,N3 (Lv hi)]
   ·have:=jI s.b (fun i=>!A.contains i) i;simp only[St.abs];rw[this,N6 (JW hi)]
  ·simp at he
theorem oI{G:List Nat}:∀{cs ds:List AV},LeL G cs ds->cs.length=ds.length/\∀(j:Nat)(c d:AV),cs[j]?=some c->ds[j]?=some d->LeV G c d
 |[],[],_=>⟨rfl,fun j c d h=>by simp at h⟩
 |[],_::_,h=>by simp[LeL]at h
 |_::_,[],h=>by simp[LeL]at h
 |a::r,b::s,h=>by
  simp only[LeL]at h;obtain⟨h1,h2⟩:=oI h.2;refine⟨by simp[h1],fun j c d hc hd=>?_⟩
  cases j with|zero=>simp at hc hd;subst hc hd;exact h.1|succ j=>exact h2 j c d (by simpa using hc) (by simpa using hd)
theorem lY{G:List Nat}:∀{cs ds:List AV},xQ G cs ds->cs.length=ds.length/\∀(j:Nat)(c d:AV),cs[j]?=some c->ds[j]?=some d->LeF G c d
 |[],[],_=>⟨rfl,fun j c d h=>by simp at h⟩
 |[],_::_,h=>by simp[xQ]at h
 |_::_,[],h=>by simp[xQ]at h
 |a::r,b::s,h=>by
  simp only[xQ]at h;obtain⟨h1,h2⟩:=lY h.2;refine⟨by simp[h1],fun j c d hc hd=>?_⟩
  cases j with|zero=>simp at hc hd;subst hc hd;exact h.1|succ j=>exact h2 j c d (by simpa using hc) (by simpa using hd)
theorem V.leF{Ω:Om}{G:List Nat}(hG:∀k∈G,Ω.e k=some (.tail 0 none 0)){a:AV}{v:Value}(h:V Ω a v){b:AV}(hb:LeF G a b):V Ω b v:=by
 cases b with
 |undef=>exact .undef v
 |int k n=>cases a<;>simp[LeF]at hb;obtain⟨rfl,rfl⟩:=hb;exact h
 |bool b=>cases a<;>simp[LeF]at hb;subst hb;exact h
 |str b=>cases a<;>simp[LeF]at hb;subst hb;exact h
 |nilp=>cases a<;>simp[LeF]at hb;exact h
 |nilif=>cases a<;>simp[LeF]at hb;exact h
 |bptr i=>cases a<;>simp[LeF]at hb;subst hb;exact h
 |arr i n w=>cases a<;>simp[LeF]at hb;obtain⟨⟨rfl,rfl⟩,rfl⟩:=hb;exact h
 |aptr i n w o=>cases a<;>simp[LeF]at hb;obtain⟨⟨rfl,rfl,rfl⟩,rfl⟩:=hb;exact h
 |row τ xs=>cases h<;>simp[LeF]at hb
 |lstp τ xs k=>cases a<;>simp[LeF]at hb
 |tptr τ n k=>cases a<;>simp[LeF]at hb
 |iface t c=>cases a<;>simp[LeF]at hb
 |pt m y=>
  cases a with
  |pt n x=>
   simp only[LeF]at hb;split at hb
   ·rename_i x' hx;obtain⟨e,e2⟩:=rV hx;subst e;simp only at e2;subst e2;subst hb;exact h
   ·exact hb.elim
  |nilp=>simp[LeF]at hb;subst hb;cases h;exact .ptNone m
  |_=>simp[LeF]at hb
 |nils=>cases a<;>simp[LeF]at hb;exact h
 |ptr i o=>cases a<;>simp[LeF]at hb;obtain⟨rfl,rfl⟩:=hb;exact h
 |cptr c=>cases a<;>simp[LeF]at hb
 |agg c=>cases a<;>simp[LeF]at hb
 |tup c=>cases a<;>simp[LeF]at hb
 |fn f c=>cases a<;>simp[LeF]at hb
 |st m y=>
  cases a with
  |st n x=>
   simp only[LeF]at hb;split at hb
   ·rename_i x' hx;obtain⟨e,e2⟩:=lS hx;subst e;simp only at e2;subst e2;subst hb;exact h
   ·exact hb.elim
  |_=>simp[LeF]at hb
 |lst σ ys p=>
  cases a with
  |lst τ xs o=>
   simp only[LeF]at hb;obtain⟨k1,k2⟩:=hb
   have hp:∀id,p=some id->o=some id:=by
    intro id hid
    have:p=none∨p=o:=by
     rcases Pk (p=none∨p=o)with k|k
     ·exact k
     ·rw[N3 k]at k2;exact k2.elim
    rcases this with k|k
    ·rw[k]at hid;cases hid
    ·rw[<-k];exact hid
   split at k1
   ·rename_i xs' hx;obtain⟨e,e2⟩:=ke hx;subst e;simp only at e2;subst e2;subst k1
    cases h with
    |lstNil _ _ ht=>exact .lstNil _ p (fun id hid=>ht id (hp id hid))
    |lstVoid _ a=>
     cases p with|none=>exact .lstVoid _ a|some k=>exact absurd (hp k rfl) (by simp)
    |lst _ _ _ b' off cap vals h1 h2 h3 h4 h5=>exact .lst _ _ p b' off cap vals h1 h2 (fun id hid=>h3 id (hp id hid)) h4 h5
   ·exact k1.elim
  |nils=>
   simp only[LeF]at hb;obtain⟨h1,h2⟩:=hb;subst h2;cases h;refine .lstNil σ p (fun id hid=>?_);subst hid;simp only at h1
   have hk:id∈G:=by
    rcases Pk (G.contains id=true)with k|k
    ·simpa using k
    ·rw[N3 k]at h1;exact h1.elim
   exact⟨0,none,0,hG id hk,Nf _,fun _=>rfl⟩
  |_=>simp[LeF]at hb
theorem rr{G:List Nat}{a b:AV}(h:LeF G a b):LeV G a b:=by
 cases a<;>cases b<;>first|exact h|exact h.elim
theorem yr{G:List Nat}{c d:AV}(h0:xR c d)(h:LeV G c d):(aa c).length=(aa d).length/\
  ∀(j:Nat)(c' d':AV),(aa c)[j]?=some c'->(aa d)[j]?=some d'->(c'=d'∨LeV G c' d'):=by
 have one:∀{c d:AV},aa c=[c]->aa d=[d]->LeV G c d->(aa c).length=(aa d).length/\
   ∀(j:Nat)(c' d':AV),(aa c)[j]?=some c'->(aa d)[j]?=some d'->(c'=d'∨LeV G c' d'):=by
  intro c d hc hd h;rw[hc,hd];refine⟨rfl,fun j c' d' h1 h2=>?_⟩
  cases j with|zero=>simp at h1 h2;subst h1 h2;exact Or.inr h|succ j=>simp at h1
 cases c with
 |agg cs=>
  cases d with
  |agg ds=>obtain⟨l1,l2⟩:=oI (cs:=cs) (ds:=ds) h;exact⟨l1,fun j c' d' h1 h2=>Or.inr (l2 j c' d' h1 h2)⟩
  |st m y=>obtain⟨l1,l2⟩:=lY (cs:=cs) (ds:=cells (.st m) y) h;exact⟨l1,fun j c' d' h1 h2=>Or.inr (rr (l2 j c' d' h1 h2))⟩
  |undef=>exact h0.elim
  |_=>exact h.elim
 |st n x=>
  cases d with
  |agg ds=>obtain⟨l1,l2⟩:=lY (cs:=cells (.st n) x) (ds:=ds) h;exact⟨l1,fun j c' d' h1 h2=>Or.inr (rr (l2 j c' d' h1 h2))⟩
  |st m y=>
   have h':(match oj n m x with|some x=>x=y|none=>False):=h;split at h'
   ·rename_i x' hx;obtain⟨e,e2⟩:=lS hx;subst e;simp only at e2;subst e2;subst h';exact⟨rfl,fun j c' d' h1 h2=>Or.inl (by rw[h1]at h2;exact O1 h2)⟩
   ·exact h'.elim
  |undef=>exact h0.elim
  |_=>exact h.elim
 |row τ xs=>
  cases d with
  |row σ ys=>
   have h':(match lI τ σ xs with|some xs=>xs=ys|none=>False):=h;split at h'
   ·rename_i x' hx;obtain⟨e,e2⟩:=ke hx;subst e;simp only at e2;subst e2;subst h';exact⟨rfl,fun j c' d' h1 h2=>Or.inl (by rw[h1]at h2;exact O1 h2)⟩
   ·exact h'.elim
  |undef=>exact h0.elim
  |_=>exact h.elim
 |_=>
  cases d with|agg ds=>exact h.elim|st m y=>exact h.elim|row τ xs=>exact h.elim|_=>exact one rfl rfl h
theorem V.le{Ω:Om}{G:List Nat}(hG:∀k∈G,Ω.e k=some (.tail 0 none 0)){a:AV}{v:Value}(h:V Ω a v):∀{b:AV},LeV G a b->V Ω b v:=by
 have part:∀{cs ds:List AV} {vs:List Value},cs.length=ds.length->(∀(j:Nat)(c:AV)(v:Value),cs[j]?=some c->vs[j]?=some v->∀{b:AV},LeV G c b->V Ω b v)->
   (∀(j:Nat)(c d:AV),cs[j]?=some c->ds[j]?=some d->LeV G c d)->∀(j:Nat)(d:AV)(v:Value),ds[j]?=some d->vs[j]?=some v->V Ω d v:=by
  intro cs ds vs hl ih l2 j d v hd hv
  have:j<cs.length:=by
   rw[hl];rcases Nv j ds.length with k|k
   ·exact k
   ·rw[Nd k]at hd;cases hd
  exact ih j _ v (N9 this) hv (l2 j _ d (N9 this) hd)
 induction h with
 |undef v=>intro b hb;exact(V.undef v).leF hG (by cases b<;>exact hb)
 |int k n h1 h2=>intro b hb;exact(V.int k n h1 h2).leF hG (by cases b<;>exact hb)
 |bool b'=>intro b hb;exact(V.bool b').leF hG (by cases b<;>exact hb)
 |str s h=>intro b hb;exact(V.str s h).leF hG (by cases b<;>exact hb)
 |lstNil τ o ht=>intro b hb;exact(V.lstNil τ o ht).leF hG (by cases b<;>exact hb)
 |lstVoid τ a=>intro b hb;exact(V.lstVoid τ a).leF hG (by cases b<;>exact hb)
 |lst τ xs o b' off cap vals h1 h2 h3 h4 h5 ih=>intro b hb;exact(V.lst τ xs o b' off cap vals h1 h2 h3 h4 h5).leF hG (by cases b<;>exact hb)
 |nils=>intro b hb;exact V.nils.leF hG (by cases b<;>exact hb)
 |ptr id off b' o len hb'=>intro b hb;exact(V.ptr id off b' o len hb').leF hG (by cases b<;>exact hb)
 |nilp=>intro b hb;exact V.nilp.leF hG (by cases b<;>exact hb)
 |ptNone n=>intro b hb;exact(V.ptNone n).leF hG (by cases b<;>exact hb)
 |ptSome n x v hv _=>intro b hb;exact(V.ptSome n x v hv).leF hG (by cases b<;>exact hb)
 |arr id n w b' len cap a he h1 h2 h3 h4=>intro b hb;exact(V.arr id n w b' len cap a he h1 h2 h3 h4).leF hG (by cases b<;>exact hb)
 |aptr id i w off b' o len he=>intro b hb;exact(V.aptr id i w off b' o len he).leF hG (by cases b<;>exact hb)
 |bptr id b' g he=>intro b hb;exact(V.bptr id b' g he).leF hG (by cases b<;>exact hb)
 |nilif=>intro b hb;exact V.nilif.leF hG (by cases b<;>exact hb)
 |lstp τ xs k b' off cap vals h1 h2 h3 h4 h5 ih=>intro b hb;exact(V.lstp τ xs k b' off cap vals h1 h2 h3 h4 h5).leF hG (by cases b<;>exact hb)
 |tptr τ n k p hp=>intro b hb;exact(V.tptr τ n k p hp).leF hG (by cases b<;>exact hb)
 |iface t a v hv ih=>
  intro b hb
  cases b with
  |iface u d=>
   simp only[LeV]at hb;obtain⟨h0,hb⟩:=hb
   have htu:t=u:=by
    rcases Pk (t=u)with k|k
    ·exact k
    ·rw[N3 k]at h0;exact h0.elim
   subst htu;exact .iface t d v (ih hb)
  |undef=>exact .undef _
  |_=>exact hb.elim
 |st n x v hv ih=>
  intro b hb
  cases b with
  |agg ds=>
   obtain⟨vs,rfl,hvl⟩:=hv.agg_inv;obtain⟨l1,l2⟩:=lY (cs:=cells (.st n) x) (ds:=ds) hb;refine .agg ds vs (by rw[<-l1,hvl.1]) (fun j d u hd hu=>?_)
   have:j<(cells (.st n) x).length:=by
    rw[l1];rcases Nv j ds.length with k|k
    ·exact k
    ·rw[Nd k]at hd;cases hd
   exact(hvl.2 j _ u (N9 this) hu).leF hG (l2 j _ d (N9 this) hd)
  |_=>exact(V.st n x v hv).leF hG hb
 |cptr c b' off vals h1 h2 ih=>
  intro b hb
  cases b with
  |cptr d=>
   simp only[LeV]at hb;obtain⟨l1,l2⟩:=yr hb.1 hb.2
   have hc:∀(j:Nat)(d':AV),(aa d)[j]?=some d'->∃c',(aa c)[j]?=some c':=by
    intro j d' hd
    have:j<(aa c).length:=by
     rw[l1];rcases Nv j (aa d).length with k|k
     ·exact k
     ·rw[Nd k]at hd;cases hd
    exact⟨_,N9 this⟩
   refine .cptr d b' off vals (fun j d' hd=>?_) (fun j d' hd=>?_)
   ·obtain⟨c',hcj⟩:=hc j d' hd;exact h1 j c' hcj
   ·obtain⟨c',hcj⟩:=hc j d' hd;rcases l2 j c' d' hcj hd with rfl|k
    ·exact h2 j c' hcj
    ·exact ih j c' hcj k
  |pt m y=>
   cases c with
   |st n x=>
    have hb':(match oj n m x with|some x=>some x=y|none=>False):=hb;split at hb'
    ·rename_i x' hx;obtain⟨e,e2⟩:=lS hx;subst e;simp only at e2;subst e2;subst hb';exact .ptSome _ _ _ (.cptr _ b' off vals h1 h2)
    ·exact hb'.elim
   |_=>exact hb.elim
  |undef=>exact .undef _
  |_=>exact hb.elim
 |agg cs vs hl hv ih=>
  intro b hb
  cases b with
  |agg ds=>obtain⟨l1,l2⟩:=oI (cs:=cs) (ds:=ds) hb;exact .agg ds vs (by rw[<-l1,hl]) (part l1 ih l2)
  |st m y=>obtain⟨l1,l2⟩:=lY (cs:=cs) (ds:=cells (.st m) y) hb;exact .st m y _ (.agg _ vs (by rw[<-l1,hl]) (part l1 ih (fun j c d h1 h2=>rr (l2 j c d h1 h2))))
  |undef=>exact .undef _
  |_=>exact hb.elim
 |tup cs vs hl hv ih=>
  intro b hb
  cases b with
  |tup ds=>obtain⟨l1,l2⟩:=oI (cs:=cs) (ds:=ds) hb;exact .tup ds vs (by rw[<-l1,hl]) (part l1 ih l2)
  |undef=>exact .undef _
  |_=>exact hb.elim
 |fn f cs vs hl hv ih=>
  intro b hb
  cases b with
  |fn g ds=>
   simp only[LeV]at hb;obtain⟨h0,hb⟩:=hb
   have hfg:f=g:=by
    rcases Pk (f=g)with k|k
    ·exact k
    ·rw[N3 k]at h0;exact h0.elim
   subst hfg;obtain⟨l1,l2⟩:=oI hb;exact .fn f ds vs (by rw[<-l1,hl]) (part l1 ih l2)
  |undef=>exact .undef _
  |_=>exact hb.elim
theorem H9{G:List Nat}{s:St}:∀{l:List (Nat×AV)},LeT G s l->∀i,cx l i=.undef∨LeV G (cx s.t i) (cx l i)
 |[],_,i=>Or.inl rfl
 |(j,v)::r,h,i=>by
  simp only[LeT]at h;simp only[cx];by_cases hj:j=i
  ·subst hj;simp[h.1]
  ·simp only[O7,hj,ND];exact H9 h.2 i
theorem wD{G:List Nat}{s:St}:∀{l:List (Nat×SObj)},LeB G s l->∀i o,aE l i=some o->
  (∃c d,o=.box d/\aE s.b i=some (.box c)/\xR c d/\LeV G c d)∨
  (∃τ n,o=.tail τ n/\(aE s.b i=some (.tail τ n)∨(aE s.b i=none/\n=0)))∨
  (∃t u l,o=.bld t u l/\aE s.b i=some (.bld t u l))
 |[],_,i,o,ho=>by simp[aE]at ho
 |(j,.box d)::r,h,i,o,ho=>by
  simp only[LeB]at h;simp only[aE]at ho;by_cases hj:j=i
  ·subst hj;simp at ho;subst ho;have h1:=h.1;split at h1
   ·rename_i c hc;exact Or.inl ⟨c,d,rfl,hc,h1⟩
   ·exact h1.elim
  ·simp only[O7,hj,ND]at ho;exact wD h.2 i o ho
 |(j,.bld t u l)::r,h,i,o,ho=>by
  simp only[LeB]at h;simp only[aE]at ho;by_cases hj:j=i
  ·subst hj;simp at ho;subst ho;have h1:=h.1;split at h1
   ·rename_i t' u' l' hm;split at h1
    ·rename_i e;obtain⟨rfl,rfl⟩:=e;subst h1;exact Or.inr (Or.inr ⟨_,_,_,rfl,hm⟩)
    ·exact h1.elim
   ·exact h1.elim
  ·simp only[O7,hj,ND]at ho;exact wD h.2 i o ho
 |(j,.tail τ n)::r,h,i,o,ho=>by
  simp only[LeB]at h;simp only[aE]at ho;by_cases hj:j=i
  ·subst hj;simp at ho;subst ho;have h1:=h.1;split at h1
   ·rename_i σ m hm;split at h1
    ·rename_i e;subst e;subst h1;exact Or.inr (Or.inl ⟨_,_,rfl,Or.inl hm⟩)
    ·exact h1.elim
   ·rename_i hm;exact Or.inr (Or.inl ⟨τ,n,rfl,Or.inr ⟨hm,h1⟩⟩)
   ·exact h1.elim
  ·simp only[O7,hj,ND]at ho;exact wD h.2 i o ho
theorem Holds.begin{F:Fr}{s:AS}{a:Act}{Ω:Om}(h:Holds F s a Ω)(G:List Nat)(hG:∀k∈G,s.B k=none)(ty:Nat->Ty) :
  ∃Ω',Ω'.w=Ω.w/\Holds F ⟨s.T,fun i=>if i∈G then some (.tail (ty i) 0)else s.B i⟩ a Ω'/\∀k∈G,Ω'.e k=some (.tail 0 none 0):=by
 have hx:Ext Ω ⟨fun i=>if i∈G then some (.tail 0 none 0)else Ω.e i,Ω.w,Ω.pub⟩:=by
  refine⟨fun id c hc=>⟨c,?_,CLe.refl c⟩,fun _ _ p=>p,fun _ _ _=>rfl⟩;have:id∉G:=fun hm=>by rw[h.dom id (hG id hm)]at hc;cases hc
  simp[this,hc]
 refine⟨⟨fun i=>if i∈G then some (.tail 0 none 0)else Ω.e i,Ω.w,Ω.pub⟩,rfl,⟨fun i=>(h.tmps i).ext hx,h.size,h.defers,fun id o ho=>?_,fun id hid=>?_,fun i j ci cj b o hi hj hbi hbj=>?_,h.pubok,fun id c hc=>let ⟨c1,h1,l1⟩:=h.keep id c hc;let ⟨c2,h2,l2⟩:=hx.e id c1 h1;⟨c2,h2,l1.trans l2⟩,?_⟩,fun k hk=>by simp[hk]⟩
 ·by_cases hm:id∈G
  ·simp only[N6 hm,Xs]at ho;subst ho;exact⟨none,0,by simp[hm],Nf _,by unfold cm;omega,fun _=>rfl,fun b hb=>by simp at hb⟩
  ·simp only[N3 hm]at ho;exact(h.slots id o ho).keep hx (by simp[hm]) (fun _ _=>pK.of_blocks fun _ _ _=>⟨rfl,fun _ p=>p⟩)
 ·by_cases hm:id∈G
  ·simp[hm]at hid
  ·simp only[N3 hm]at hid⊢;exact h.dom id hid
 ·by_cases hi':i∈G
  ·simp only[N6 hi',Xs]at hi;subst hi;cases hbi
  ·by_cases hj':j∈G
   ·simp only[N6 hj',Xs]at hj;subst hj;cases hbj
   ·simp only[N3 hi']at hi;simp only[N3 hj']at hj;exact h.inj i j ci cj b o hi hj hbi hbj
 ·exact⟨h.frame.os,h.frame.tape,h.frame.output,h.frame.size,h.frame.block,h.frame.cell,h.frame.kind,h.frame.pub,h.frame.old,h.frame.pcell⟩
theorem dJ{b:Bool}{k:Prop}(h:chk b k):b=true/\k:=by
 cases b with|true=>exact⟨rfl,h⟩|false=>exact h.elim
theorem Dm{G:List Nat}{a b:AV}{k:Prop}(h:cF G a b k):LeF G a b/\k:=by
 unfold cF at h;split at h
 ·exact⟨by cases a<;>trivial,h⟩
 ·obtain⟨h1,h2,h3⟩:=dJ h;simp only[N8]at h1;exact⟨by simp only[LeF,h1,NS];exact h2,h3⟩
 ·exact h
 ·exact h
 ·split at h
  ·rename_i hc;obtain⟨h1,h2,h3⟩:=dJ h;simp only[N8]at h1;exact⟨by simp only[LeF,hc];exact⟨h2,by rw[N6 h1];trivial⟩,h3⟩
  ·exact h.elim
 ·split at h
  ·exact⟨by simp only[LeF];exact⟨trivial,h.1⟩,h.2⟩
  ·obtain⟨h1,h2,h3⟩:=dJ h;exact⟨by simp only[LeF,h1,NS];exact⟨trivial,h2⟩,h3⟩
 ·exact⟨trivial,h⟩
 ·exact⟨trivial,h⟩
 ·obtain⟨h1,h2⟩:=dJ h;simp only[N8]at h1;exact⟨by simp only[LeF];rw[N6 h1];trivial,h2⟩
 ·split at h
  ·rename_i hc;exact⟨by simp only[LeF,hc];exact h.1,h.2⟩
  ·exact h.elim
 ·split at h
  ·rename_i hc;exact⟨by simp only[LeF,hc];exact h.1,h.2⟩
  ·exact h.elim
 ·obtain⟨h1,h2,h3⟩:=dJ h;simp only[N8]at h1;exact⟨by simp only[LeF];rw[N6 h1];exact h2,h3⟩
 ·obtain⟨h1,h2,h3⟩:=dJ h;simp only[N8]at h1;exact⟨by simp only[LeF];rw[N6 h1];exact h2,h3⟩
 ·obtain⟨h1,h2⟩:=dJ h;simp only[N8]at h1;exact⟨by simp only[LeF];rw[N6 h1];trivial,h2⟩
 ·split at h
  ·rename_i hc;exact⟨by simp only[LeF,hc];exact h.1,h.2⟩
  ·exact h.elim
 ·exact⟨by simp only[LeF];exact h.1,h.2⟩
 ·exact⟨trivial,h⟩
 ·exact h.elim
theorem se{G:List Nat}{k:Prop}:∀{cs ds:List AV},cFs G cs ds k->xQ G cs ds/\k
 |[],[],h=>⟨trivial,h⟩
 |a::r,b::s,h=>let ⟨h1,h2⟩:=Dm (k:=cFs G r s k) h;let ⟨h3,h4⟩:=se h2;⟨⟨h1,h3⟩,h4⟩
 |[],_::_,h=>h.elim
 |_::_,[],h=>h.elim
theorem qG{c d:AV}(h:wb c d=true):xR c d:=by
 cases c<;>cases d<;>first|trivial|(simp[wb]at h)
mutual
theorem cV_spec{G:List Nat}:∀{a b:AV} {k:Prop},cV G a b k->LeV G a b/\k:=by
 intro a b k h;unfold cV at h;split at h
 ·rename_i c d;obtain⟨h1,h2⟩:=dJ h;obtain⟨h3,h4⟩:=cV_spec (a:=c) (b:=d) h2;exact⟨by simp only[LeV];exact⟨qG h1,h3⟩,h4⟩
 ·split at h
  ·rename_i hc;exact⟨by simp only[LeV,hc];exact h.1,h.2⟩
  ·exact h.elim
 ·rename_i t a u b;obtain⟨h1,h2⟩:=dJ h;obtain⟨h3,h4⟩:=cV_spec (a:=a) (b:=b) h2;exact⟨by simp only[LeV];exact⟨by rw[N6 (Nx h1)];trivial,h3⟩,h4⟩
 ·obtain⟨h1,h2⟩:=se h;exact⟨by simp only[LeV];exact h1,h2⟩
 ·obtain⟨h1,h2⟩:=se h;exact⟨by simp only[LeV];exact h1,h2⟩
 ·rename_i cs ds;obtain⟨h1,h2⟩:=cL_spec (cs:=cs) (ds:=ds) h;exact⟨by simp only[LeV];exact h1,h2⟩
 ·rename_i cs ds;obtain⟨h1,h2⟩:=cL_spec (cs:=cs) (ds:=ds) h;exact⟨by simp only[LeV];exact h1,h2⟩
 ·rename_i f cs g ds;obtain⟨h0,h⟩:=dJ h;obtain⟨h1,h2⟩:=cL_spec (cs:=cs) (ds:=ds) h;exact⟨by simp only[LeV];exact⟨by rw[N6 (Nx h0)];trivial,h1⟩,h2⟩
 ·obtain⟨h1,h2⟩:=Dm h;exact⟨rr h1,h2⟩
theorem cL_spec{G:List Nat}:∀{cs ds:List AV} {k:Prop},cL G cs ds k->LeL G cs ds/\k
 |[],[],k,h=>by simp only[cL]at h;exact⟨by simp only[LeL],h⟩
 |a::r,b::s,k,h=>by simp only[cL]at h;obtain⟨h1,h2⟩:=cV_spec (a:=a) (b:=b) h;obtain⟨h3,h4⟩:=cL_spec (cs:=r) (ds:=s) h2;exact⟨by simp only[LeL];exact⟨h1,h3⟩,h4⟩
 |[],_::_,k,h=>by simp only[cL]at h
 |_::_,[],k,h=>by simp only[cL]at h
end
theorem Dn{G:List Nat}{s:St}:∀{l:List (Nat×AV)} {k:Prop},cT G s l k->LeT G s l/\k
 |[],k,h=>⟨trivial,h⟩
 |(i,a)::r,k,h=>let ⟨h1,h2⟩:=cV_spec (k:=cT G s r k) h;let ⟨h3,h4⟩:=Dn h2;⟨⟨h1,h3⟩,h4⟩
theorem oJ{G:List Nat}{s:St}:∀{l:List (Nat×SObj)},cB G s l->LeB G s l
 |[],_=>trivial
 |(i,.box d)::r,h=>by
  simp only[cB]at h;simp only[LeB];split at h
  ·rename_i c hc;obtain⟨h1,h2⟩:=dJ h;obtain⟨h3,h4⟩:=cV_spec h2;exact⟨⟨qG h1,h3⟩,oJ h4⟩
  ·exact h.elim
 |(i,.tail τ n)::r,h=>by
  simp only[cB]at h;simp only[LeB];split at h
  ·rename_i σ m hc;obtain⟨h1,h2,h3⟩:=dJ h;simp only[N8]at h1;exact⟨by rw[N6 h1];exact h2,oJ h3⟩
  ·exact⟨h.1,oJ h.2⟩
  ·exact h.elim
 |(i,.bld t u l)::r,h=>by
  simp only[cB]at h;simp only[LeB];split at h
  ·rename_i t' u' l' hc;obtain⟨h1,h2,h3⟩:=dJ h;simp only[N8]at h1;exact⟨by rw[N6 h1];exact h2,oJ h3⟩
  ·exact h.elim
theorem iF{s s':St}(h:cS s s'):LeS s s':=by unfold cS at h;obtain⟨h1,h2⟩:=dJ h;obtain⟨h3,h4⟩:=Dn h2;exact⟨by rw[N6 h1];trivial,h3,oJ h4⟩
def JX:Option SObj->Ty
 |some (.tail τ _)=>τ
 |_=>.bool
theorem fc{F:Fr}{s s':St}{a:Act}{Ω:Om}(h:Holds F s.abs a Ω)(hle:LeS s s'):∃Ω',Ω'.w=Ω.w/\Holds F s'.abs a Ω':=by
 obtain⟨h0,h1,h2⟩:=hle
 have hn2:(fb ((au s.b).filter fun i=>!(au s'.b).contains i) s'&&((au s.b).filter fun i=>!(au s'.b).contains i).all (fun i=>!cU i))=true:=by
  rcases Pk ((fb ((au s.b).filter fun i=>!(au s'.b).contains i) s'&&((au s.b).filter fun i=>!(au s'.b).contains i).all (fun i=>!cU i))=true)with k|k
  ·exact k
  ·rw[N3 k]at h0;exact h0.elim
 obtain⟨hn,hnl⟩:=Bool.and_eq_true_iff.1 hn2;have hGs:∀k,k∈fZ s s'↔(k∈au s'.b/\aE s.b k=none):=by intro k;simp[fZ]
 obtain⟨Ω1,e1,h1',hg⟩:=h.begin (fZ s s') (fun k hk=>((hGs k).1 hk).2) (fun i=>JX (aE s'.b i))
 have hmid:Holds F ⟨s'.abs.T,fun i=>match aE s'.b i with|some o=>some o|none=>if i∈fZ s s' then some (.tail (JX (aE s'.b i)) 0)else s.abs.B i⟩ a Ω1:=by
  refine⟨fun i=>?_,h1'.size,h1'.defers,fun id o ho=>?_,fun id hid=>?_,h1'.inj,h1'.pubok,h1'.keep,h1'.frame⟩
  ·rcases H9 h1 i with k|k
   ·have:s'.abs.T i=.undef:=k;rw[this];exact .undef _
   ·exact(h1'.tmps i).le hg k
  ·simp only at ho
   cases hb:aE s'.b id with
   |none=>rw[hb]at ho;simp only at ho;refine h1'.slots id o ?_;simp only[hb];exact ho
   |some o'=>
    rw[hb]at ho;simp at ho;subst ho;rcases wD h2 id o' hb with⟨c,d,rfl,hcs,hl0,hl⟩|⟨τ,n,rfl,hcs⟩|⟨t,u,l,rfl,hcs⟩
    ·have hng:id∉fZ s s':=fun hm=>by rw[((hGs id).1 hm).2]at hcs;cases hcs
     obtain⟨b,off,k1,k2⟩:=h1'.slots id (.box c) (by simp only[N3 hng];exact hcs);obtain⟨l1,l2⟩:=yr hl0 hl;refine⟨b,off,by rw[<-l1];exact k1,fun j d' hd=>?_⟩
     have hj:j<(aa c).length:=by
      rw[l1];rcases Nv j (aa d).length with k|k
      ·exact k
      ·rw[Nd k]at hd;cases hd
     obtain⟨m1,m2,m3,v,m4,m5⟩:=k2 j _ (N9 hj);refine⟨m1,m2,m3,v,m4,?_⟩;rcases l2 j _ d' (N9 hj) hd with e|k
     ·rw[<-e];exact m5
     ·exact m5.le hg k
    ·rcases hcs with hcs|⟨hcs,rfl⟩
     ·have hng:id∉fZ s s':=fun hm=>by rw[((hGs id).1 hm).2]at hcs;cases hcs
      exact h1'.slots id (.tail τ n) (by simp only[N3 hng];exact hcs)
     ·have hin:id∈fZ s s':=(hGs id).2 ⟨O5.2 ⟨(id,.tail τ 0),dT _ _ _ hb,rfl⟩,hcs⟩;have:=h1'.slots id (.tail τ 0) (by simp only[N6 hin,hb,JX]);exact this
    ·have hng:id∉fZ s s':=fun hm=>by rw[((hGs id).1 hm).2]at hcs;cases hcs
     exact h1'.slots id (.bld t u l) (by simp only[N3 hng];exact hcs)
  ·refine h1'.dom id ?_;simp only at hid⊢
   cases hb:aE s'.b id with|none=>rw[hb]at hid;simpa[hb]using hid|some o'=>rw[hb]at hid;simp at hid
 have f1:∀i,i∈((au s.b).filter fun i=>!(au s'.b).contains i)->s'.abs.B i=none:=by
  intro i hi;simp at hi
  cases hb:aE s'.b i with|none=>exact hb|some o=>exact absurd (O5.2 ⟨(i,o),dT _ _ _ hb,rfl⟩) hi.2
 have f2:∀i,i∉((au s.b).filter fun i=>!(au s'.b).contains i)->
   s'.abs.B i=(match aE s'.b i with|some o=>some o|none=>if i∈fZ s s' then some (.tail (JX (aE s'.b i)) 0)else s.abs.B i):=by
  intro i hi;simp only[St.abs]
  cases hb:aE s'.b i with
  |some o=>rfl
  |none=>
   have hk:i∉au s'.b:=mR _ _ hb;have hng:i∉fZ s s':=fun hm=>hk ((hGs i).1 hm).1;simp only[N3 hng]
   cases hsb:aE s.b i with|none=>rfl|some o=>exfalso;apply hi;simp only[ON,Np,Ou,Ns];exact⟨O5.2 ⟨(i,o),dT _ _ _ hsb,rfl⟩,hk⟩
 obtain⟨Ω2,e2,h2'⟩:=hmid.forget (s':=s') (fun i=>Or.inr rfl) f1 f2 hn (fun i hi=>by
  have:=Ng.1 hnl i hi;simpa using this)
 exact⟨Ω2,e2.trans e1,h2'⟩
end Go.AL
end
section
namespace Go.AL
variable [Tabs]
section
variable {id:Nat} {c:AV}
theorem pV:∀(l:List AV)(j:Nat),(pubVs id c l)[j]?=(l[j]?).map (pubV id c)
 |[],j=>by simp[pubVs]
 |a::r,0=>by simp[pubVs]
 |a::r,j+1=>by simp only[pubVs,PG];exact pV r j
theorem kY:∀l:List AV,(pubVs id c l).length=l.length
 |[]=>rfl
 |a::r=>by simp[pubVs,kY r]
theorem sf(τ:Ty)(x:den τ):∀d∈cells τ x,pubV id c d=d:=by
 cases τ with
 |st n=>cases n<;>simp[cells,ej,iL,fN,gB,gD,gE,dH,gF,jX,iM,iN,iO,jY,jZ,j6,iP,mK,gG,k0,mL,ka,kb,iQ,pubV]
 |_=>simp[cells,pubV]
theorem Eh(τ:Ty)(xs:List (den τ)):∀d∈bD τ xs,pubV id c d=d:=by intro d hd;simp only[bD,OF]at hd;obtain⟨x,_,hx⟩:=hd;exact sf τ x d hx
theorem si(d:AV):(aa (pubV id c d)).length=(aa d).length/\∀(j:Nat)(a:AV),(aa d)[j]?=some a->(aa (pubV id c d))[j]?=some (pubV id c a):=by
 have one:∀{d:AV},aa d=[d]->aa (pubV id c d)=[pubV id c d]->(aa (pubV id c d)).length=(aa d).length/\
   ∀(j:Nat)(a:AV),(aa d)[j]?=some a->(aa (pubV id c d))[j]?=some (pubV id c a):=by
  intro d h1 h2;rw[h1,h2];refine⟨rfl,fun j a ha=>?_⟩
  cases j with|zero=>simp at ha;subst ha;rfl|succ j=>simp at ha
 cases d with
 |agg cs=>exact⟨kY cs,fun j a ha=>by show(pubVs id c cs)[j]?=_;rw[pV];have:cs[j]?=some a:=ha;rw[this];rfl⟩
 |st n x=>exact⟨rfl,fun j a ha=>by show(cells (.st n) x)[j]?=_;rw[sf (.st n) x a (NQ ha)];exact ha⟩
 |row τ xs=>exact⟨rfl,fun j a ha=>by show(bD τ xs)[j]?=_;rw[Eh τ xs a (NQ ha)];exact ha⟩
 |ptr i o=>
  refine one rfl ?_
  cases o with|zero=>simp only[pubV];split<;>rfl|succ o=>rfl
 |arr i n w=>
  refine one rfl ?_;simp only[pubV];split
  ·split
   ·split<;>rfl
   ·rfl
  ·rfl
 |_=>exact one rfl rfl
structure Fast(Ω:Om)(id:Nat)(c:AV)(b off:Nat)(vals:Nat->Value):Prop where
 e:Ω.e id=some (.box b off (aa c).length)
 at_:∀(j:Nat)(c':AV),(aa c)[j]?=some c'->Ω.pub b (off+j)/\Ω.w.cell? ⟨b,off+j,none⟩=some (vals j)/\V Ω c' (vals j)
theorem V.pubV{Ω:Om}{b off:Nat}{vals:Nat->Value}(hf:Fast Ω id c b off vals){a:AV}{v:Value}(h:V Ω a v):V Ω (AL.pubV id c a) v:=by
 have many:∀{cs:List AV} {vs:List Value},cs.length=vs.length->(∀(j:Nat)(d:AV)(v:Value),cs[j]?=some d->vs[j]?=some v->V Ω (AL.pubV id c d) v)->
   (pubVs id c cs).length=vs.length/\∀(j:Nat)(d:AV)(v:Value),(pubVs id c cs)[j]?=some d->vs[j]?=some v->V Ω d v:=by
  intro cs vs hl ih;refine⟨by rw[kY,hl],fun j d v hd hv=>?_⟩;rw[pV]at hd;simp only[NB]at hd;obtain⟨d0,hd0,rfl⟩:=hd;exact ih j d0 v hd0 hv
 induction h with
 |ptr i o b' p len he=>
  cases o with
  |succ o=>exact .ptr i (o+1) b' p len he
  |zero=>
   simp only[AL.pubV];split
   ·rename_i hi;subst hi;rw[hf.e]at he;simp at he;obtain⟨rfl,rfl,rfl⟩:=he;exact .cptr c b off vals (fun j c' hc=>⟨(hf.at_ j c' hc).1,(hf.at_ j c' hc).2.1⟩) (fun j c' hc=>(hf.at_ j c' hc).2.2)
   ·exact .ptr i 0 b' p len he
 |arr i n w b' len cap a he h1 h2 h3 h4=>
  simp only[AL.pubV];split
  ·rename_i hi;split
   ·rename_i τ xs;split
    ·rename_i hw;subst hi hw;have hfe:=hf.e;rw[hfe]at he;simp only[Xs,CObj.box.injEq]at he;obtain⟨rfl,rfl,rfl⟩:=he;have hn:n<=xs.length:=by have:(aa (.row τ xs)).length=xs.length *ag τ:=cp τ xs;rw[this]at h1;exact Nat.le_of_mul_le_mul_right h1 (kd τ)
     rcases h4 with rfl|⟨rfl,rfl,rfl⟩
     ·have hl:(xs.take n).length=n:=by simp;omega
      have hx':∀{i:Nat} {x:den τ},(xs.take n)[i]?=some x->xs[i]?=some x:=by
       intro i x hx;rw[NP]at hx;split at hx
       ·exact hx
       ·cases hx
      have:=V.lst (Ω:=Ω) τ (xs.take n) none b 0 cap (fun i j=>vals (i *ag τ+j)) (by omega) h3 (fun id hid=>by simp at hid) (fun i x hx j c' hc=>by
       have:=hf.at_ _ c' (j9 τ xs i x j c' (hx' hx) hc);exact⟨this.1,this.2.1⟩) (fun i x hx j c' hc=>(hf.at_ _ c' (j9 τ xs i x j c' (hx' hx) hc)).2.2)
      rw[hl]at this;exact this
     ·simp only[List.take_zero];exact .lstNil τ none (fun id hid=>by simp at hid)
    ·exact .arr i n w b' len cap a he h1 h2 h3 h4
   ·exact .arr i n w b' len cap a he h1 h2 h3 h4
  ·exact .arr i n w b' len cap a he h1 h2 h3 h4
 |cptr d b' o vs h1 h2 ih=>
  obtain⟨p1,p2⟩:=si (id:=id) (c:=c) d
  have back:∀(j:Nat)(d':AV),(aa (AL.pubV id c d))[j]?=some d'->∃d0,(aa d)[j]?=some d0/\d'=AL.pubV id c d0:=by
   intro j d' hd'
   have hj:j<(aa d).length:=by
    rw[<-p1];rcases Nv j (aa (AL.pubV id c d)).length with k|k
    ·exact k
    ·rw[Nd k]at hd';cases hd'
   have:=p2 j _ (N9 hj);rw[hd']at this;exact⟨_,N9 hj,O1 this⟩
  refine .cptr _ b' o vs (fun j d' hd'=>?_) (fun j d' hd'=>?_)
  ·obtain⟨d0,q1,_⟩:=back j d' hd';exact h1 j d0 q1
  ·obtain⟨d0,q1,rfl⟩:=back j d' hd';exact ih j d0 q1
 |agg cs vs hl _ ih=>obtain⟨q1,q2⟩:=many hl ih;exact .agg _ vs q1 q2
 |tup cs vs hl _ ih=>obtain⟨q1,q2⟩:=many hl ih;exact .tup _ vs q1 q2
 |fn f cs vs hl _ ih=>obtain⟨q1,q2⟩:=many hl ih;exact .fn f _ vs q1 q2
 |iface t a v _ ih=>exact .iface t _ v ih
 |undef v=>exact .undef v
 |int k n h1 h2=>exact .int k n h1 h2
 |bool b=>exact .bool b
 |str s h=>exact .str s h
 |lstNil τ o ht=>exact .lstNil τ o ht
 |lstVoid τ a=>exact .lstVoid τ a
 |lst τ xs o b' off' cap vals' h1 h2 h3 h4 h5 _=>exact .lst τ xs o b' off' cap vals' h1 h2 h3 h4 h5
 |nils=>exact .nils
 |nilp=>exact .nilp
 |ptNone n=>exact .ptNone n
 |ptSome n x v hv _=>exact .ptSome n x v hv
 |aptr i n w o b' p len he=>exact .aptr i n w o b' p len he
 |bptr i b g he=>exact .bptr i b g he
 |nilif=>exact .nilif
 |lstp τ xs k b' off' cap vals' h1 h2 h3 h4 h5 _=>exact .lstp τ xs k b' off' cap vals' h1 h2 h3 h4 h5
 |tptr τ n k p hp=>exact .tptr τ n k p hp
 |st n x v hv _=>exact .st n x v hv
end
theorem oK(f:AV->AV)(hf:f .undef=.undef):∀(l:List (Nat×AV))(i:Nat),cx (l.map fun x=>(x.1,f x.2)) i=f (cx l i)
 |[],i=>hf.symm
 |(j,v)::r,i=>by simp only[Nj,cx,oK f hf r i];by_cases h:j=i<;>simp[h]
theorem lZ(f:SObj->SObj):∀(l:List (Nat×SObj))(i:Nat),aE (l.map fun x=>(x.1,f x.2)) i=(aE l i).map f
 |[],i=>rfl
 |(j,v)::r,i=>by simp only[Nj,aE,lZ f r i];by_cases h:j=i<;>simp[h]
theorem Bn{F:Fr}{s s':St}{a:Act}{Ω:Om}{id:Nat}(h:Holds F s.abs a Ω)(hp:Ln id s=some s'):∃Ω',Ω'.w=Ω.w/\Holds F s'.abs a Ω':=by
 unfold Ln at hp;split at hp
 ·rename_i c hb;simp only at hp;split at hp
  ·rename_i hck;simp only[N4,Np]at hck;obtain⟨⟨hnn,hcid⟩,hnl⟩:=hck;simp only[Xs]at hp;subst hp;simp only[fb,N4,Ng]at hnn;obtain⟨b,off,e1,e2⟩:=h.slots id _ hb
   let Ω1:Om:=⟨Ω.e,Ω.w,fun b' o=>Ω.pub b' o∨(b'=b/\off<=o/\o<off+(aa c).length)⟩
   have hx1:Ext Ω Ω1:=⟨fun i c hc=>⟨c,hc,CLe.refl c⟩,fun _ _ p=>Or.inl p,fun _ _ _=>rfl⟩
   have hfast:Fast Ω1 id c b off (fun j=>(Ω.w.cell? ⟨b,off+j,none⟩).getD undef):=by
    refine⟨e1,fun j c' hc=>?_⟩;obtain⟨k1,k2,k3,v,k4,k5⟩:=e2 j c' hc
    have hj:j<(aa c).length:=by
     rcases Nv j (aa c).length with k|k
     ·exact k
     ·rw[Nd k]at hc;cases hc
    refine⟨Or.inr ⟨rfl,by omega,by omega⟩,?_,?_⟩
    ·show Ω.w.cell? _=_;rw[k4];rfl
    ·simp only[k4,Ol];exact k5.ext hx1
   have hag:∀{x:AV} {v:Value},V Ω1 x v->(∀i∈ids x,i≠id)->V ⟨fun i=>if i=id then none else Ω.e i,Ω1.w,Ω1.pub⟩ x v:=
    fun hv hi=>V.agree hv (fun i him=>by simp[hi i him,Ω1])
   have hin:∀b' o,(b'=b/\off<=o/\o<off+(aa c).length)->occ (.box b off (aa c).length) b' o:=fun b' o k=>k;refine⟨⟨fun i=>if i=id then none else Ω.e i,Ω.w,Ω1.pub⟩,rfl,⟨fun i=>?_,h.size,h.defers,fun id' o ho=>?_,fun id' hid=>?_,fun i j ci cj b' o hi hj=>?_,fun b' o hp=>?_,fun i x hx=>?_,?_⟩⟩
   ·simp only[St.abs];have e:=oK (pubV id c) rfl s.t i;rw[e];refine hag (V.pubV hfast ((h.tmps i).ext hx1)) (fun k hk=>?_);rcases oH s.t i with hu|hm
    ·rw[hu]at hk;simp[pubV,ids]at hk
    ·have:=iU (hnn.1 (i,pubV id c (cx s.t i)) (O5.2 ⟨_,hm,rfl⟩)) k hk;simpa using this
   ·simp only[St.abs]at ho;have e:=lZ (GM id c) (s.b.filter fun x=>!(x.1 ==id)) id';rw[e]at ho;have e':=jI s.b (fun i=>!(i ==id)) id';rw[e']at ho;by_cases hid:id'=id
    ·subst hid;simp at ho
    ·simp only[O7,hid,PM,NS,NB]at ho;rw[N6 (by simp[hid])]at ho;obtain⟨o0,ho0,rfl⟩:=ho;have hs:=h.slots id' o0 ho0;have apart:∀c0,Ω.e id'=some c0->∀b' o,occ c0 b' o->¬(b'=b/\off<=o/\o<off+(aa c).length):=by intro c0 hc0 b' o hoc hk;exact hid (h.inj id' id c0 _ b' o hc0 e1 hoc (hin b' o hk))
     cases o0 with
     |box d=>
      obtain⟨b2,off2,g1,g2⟩:=hs;obtain⟨p1,p2⟩:=si (id:=id) (c:=c) d;refine⟨b2,off2,by simp only[N3 hid];rw[g1,p1],fun j d' hd'=>?_⟩
      have hj:j<(aa d).length:=by
       rw[<-p1];rcases Nv j (aa (pubV id c d)).length with k|k
       ·exact k
       ·rw[Nd k]at hd';cases hd'
      have hd2:=p2 j _ (N9 hj);rw[hd']at hd2;obtain⟨m1,m2,m3,v,m4,m5⟩:=g2 j _ (N9 hj);refine⟨m1,fun hp=>?_,m3,v,m4,?_⟩
      ·rcases hp with hp|hp
       ·exact m2 hp
       ·exact apart _ g1 b2 (off2+j) ⟨rfl,by omega,by omega⟩ hp
      ·rw[O1 hd2];refine hag (V.pubV hfast (m5.ext hx1)) (fun k hk=>?_)
       have hmem:(id',GM id c (.box d))∈((s.b.filter fun x=>!(x.1 ==id)).map fun x=>(x.1,GM id c x.2)):=
        O5.2 ⟨(id',.box d),ON.2 ⟨dT _ _ _ ho0,by simp[hid]⟩,rfl⟩
       have:=iU (hnn.2 _ hmem) k (pU (c:=pubV id c d) (by rw[<-O1 hd2];exact hd') k hk);simpa using this
     |tail τ n=>
      obtain⟨base,cap,g1,g2,g3,g4,g5⟩:=hs;refine⟨base,cap,by simp only[N3 hid];exact g1,g2,g3,g4,fun b2 hb2=>?_⟩;obtain⟨m1,vs,ty,fz,m2,m3,m4,m5⟩:=g5 b2 hb2;refine⟨m1,vs,ty,fz,m2,m3,m4,fun o ho hp=>?_⟩;rcases hp with hp|hp
      ·exact m5 o ho hp
      ·exact apart _ g1 b2 o hb2 hp
     |bld t u l=>
      obtain⟨b2,g,g1,g2,g3⟩:=hs;refine⟨b2,g,by simp only[N3 hid];exact g1,fun b3 hb3 o=>⟨(g2 b3 hb3 o).1,fun hp=>?_⟩,g3⟩;rcases hp with hp|hp
      ·exact(g2 b3 hb3 o).2 hp
      ·exact apart _ g1 b3 o hb3 hp
     |tailp τ n x=>
      obtain⟨b2,cap,g1,g2,g3,g4,g5,g6,g7⟩:=hs;refine⟨b2,cap,by simp only[N3 hid];exact g1,g2,g3,g4,g5,fun o ho hp=>?_,fun j c' hc=>?_⟩
      ·rcases hp with hp|hp
       ·exact g6 o ho hp
       ·exact apart _ g1 b2 o rfl hp
      ·obtain⟨v,k1,k2⟩:=g7 j c' hc;refine⟨v,k1,hag (k2.ext hx1) (fun i hi=>?_)⟩;have:=eU hc i hi;rw[gJ]at this;cases this
   ·simp only[St.abs]at hid;by_cases hii:id'=id
    ·simp[hii]
    ·have e:=lZ (GM id c) (s.b.filter fun x=>!(x.1 ==id)) id';rw[e]at hid;have e':=jI s.b (fun i=>!(i ==id)) id';rw[e',N6 (by simp[hii])]at hid;simp only[N3 hii];exact h.dom id' (by show aE s.b id'=none;simpa using hid)
   ·intro h1 h2;simp only at hi hj;split at hi
    ·cases hi
    ·split at hj
     ·cases hj
     ·exact h.inj i j ci cj b' o hi hj h1 h2
   ·rcases hp with hp|⟨rfl,hp1,hp2⟩
    ·exact h.pubok b' o hp
    ·have hj:o-off<(aa c).length:=by omega
     obtain⟨_,_,_,v,hv,_⟩:=e2 (o-off) _ (N9 hj);exact⟨v,by rw[show off+(o-off)=o by omega]at hv;exact hv⟩
   ·have hl:=F.dom0 i x hx;have hne:i≠id:=fun e=>by subst e;rw[hnl]at hl;cases hl
    obtain⟨x',q1,q2⟩:=h.keep i x hx;exact⟨x',by simp only[N3 hne];exact q1,q2⟩
   ·refine⟨h.frame.os,h.frame.tape,h.frame.output,h.frame.size,h.frame.block,h.frame.cell,h.frame.kind,fun b' o hp=>?_,fun b' o hp=>Or.inl (h.frame.old b' o hp),h.frame.pcell⟩;rcases hp with hp|⟨rfl,hp1,hp2⟩
    ·exact h.frame.pub b' o hp
    ·have hj:o-off<(aa c).length:=by omega
     have:=(e2 (o-off) _ (N9 hj)).1;rw[show off+(o-off)=o by omega]at this;exact Or.inr this
  ·cases hp
 ·cases hp
theorem oL{F:Fr}{a:Act}:∀(l:List Nat) {s s':St} {Ω:Om},Holds F s.abs a Ω->rM l s=some s'->∃Ω',Ω'.w=Ω.w/\Holds F s'.abs a Ω'
 |[],s,s',Ω,h,hp=>by simp[rM]at hp;subst hp;exact⟨Ω,rfl,h⟩
 |i::r,s,s',Ω,h,hp=>by
  simp only[rM]at hp;split at hp
  ·rename_i s1 h1;obtain⟨Ω1,e1,k1⟩:=Bn h h1;obtain⟨Ω2,e2,k2⟩:=oL r k1 hp;exact⟨Ω2,e2.trans e1,k2⟩
  ·cases hp
end Go.AL
end
section
namespace Go.AL
variable [Tabs]
open Go.ChangeMaps (setBlock)
theorem Holds.weak{F:Fr}{s s':AS}{a:Act}{Ω:Om}(h:Holds F s a Ω)(hT:∀i,s'.T i=.undef∨s'.T i=s.T i)(hB:s'.B=s.B):Holds F s' a Ω:=
 ⟨fun i=>by
  rcases hT i with e|e
  ·rw[e];exact .undef _
  ·rw[e];exact h.tmps i,h.size,h.defers,by rw[hB];exact h.slots,by rw[hB];exact h.dom,h.inj,h.pubok,h.keep,h.frame⟩
section
variable {P:Program} {C:Cfg} {F:Fr}
theorem yt{ops:Array Oper}{Q:Exit->Act->World->Prop}{i:Nat}{rest:List Nat}{o:Oper}{a:Act}{w:World}(hi:ops[i]?=some o)(hg:o.guard=none)
 (h:o.wp P a w (wpOps P ops Q rest) Q):wpOps P ops Q (i::rest) a w:=by
 unfold wpOps;rw[hi];have:Region.wanted o (yielded ops a.tmps)=true:=by unfold Region.wanted;rw[hg]
 simp only[this,NS];exact .inl h
theorem Dp{a:Act}{n d i:Nat}{v:Value}(hs:a.tmps.size=n)(hd:d<n):(a.put (some d) v).tmps.getD i undef=if d=i then v else a.tmps.getD i undef:=by
 simp only[Act.put];by_cases h:d=i
 ·subst h;rw[N6 rfl];simp[Nz,hs,hd]
 ·rw[N3 h];simp[Nz,h]
end
end Go.AL
end
section
namespace Go.AL
variable [Tabs]
section
variable {k:Nat} {τ:Ty} {x:den τ}
theorem pW:∀(l:List AV)(j:Nat),(finVs k τ x l)[j]?=(l[j]?).map (finV k τ x)
 |[],j=>by simp[finVs]
 |a::r,0=>by simp[finVs]
 |a::r,j+1=>by simp only[finVs,PG];exact pW r j
theorem kZ:∀l:List AV,(finVs k τ x l).length=l.length
 |[]=>rfl
 |a::r=>by simp[finVs,kZ r]
theorem sj(σ:Ty)(y:den σ):∀d∈cells σ y,finV k τ x d=d:=by
 cases σ with
 |st n=>cases n<;>simp[cells,ej,iL,fN,gB,gD,gE,dH,gF,jX,iM,iN,iO,jY,jZ,j6,iP,mK,gG,k0,mL,ka,kb,iQ,finV]
 |_=>simp[cells,finV]
theorem qH(σ:Ty)(y:den σ):∀d∈cells σ y,lensV k d=[]:=by
 cases σ with
 |st n=>cases n<;>simp[cells,ej,iL,fN,gB,gD,gE,dH,gF,jX,iM,iN,iO,jY,jZ,j6,iP,mK,gG,k0,mL,ka,kb,iQ,lensV]
 |_=>simp[cells,lensV]
theorem Ei(σ:Ty)(ys:List (den σ)):∀d∈bD σ ys,finV k τ x d=d:=by intro d hd;simp only[bD,OF]at hd;obtain⟨y,_,hy⟩:=hd;exact sj σ y d hy
theorem Bp(σ:Ty)(ys:List (den σ)):∀d∈bD σ ys,lensV k d=[]:=by intro d hd;simp only[bD,OF]at hd;obtain⟨y,_,hy⟩:=hd;exact qH σ y d hy
theorem sk(d:AV):(aa (finV k τ x d)).length=(aa d).length/\∀(j:Nat)(a:AV),(aa d)[j]?=some a->(aa (finV k τ x d))[j]?=some (finV k τ x a):=by
 have one:∀{d:AV},aa d=[d]->aa (finV k τ x d)=[finV k τ x d]->(aa (finV k τ x d)).length=(aa d).length/\
   ∀(j:Nat)(a:AV),(aa d)[j]?=some a->(aa (finV k τ x d))[j]?=some (finV k τ x a):=by
  intro d h1 h2;rw[h1,h2];refine⟨rfl,fun j a ha=>?_⟩
  cases j with|zero=>simp at ha;subst ha;rfl|succ j=>simp at ha
 cases d with
 |agg cs=>exact⟨kZ cs,fun j a ha=>by show(finVs k τ x cs)[j]?=_;rw[pW];have:cs[j]?=some a:=ha;rw[this];rfl⟩
 |st n y=>exact⟨rfl,fun j a ha=>by show(cells (.st n) y)[j]?=_;rw[sj (.st n) y a (NQ ha)];exact ha⟩
 |row σ ys=>exact⟨rfl,fun j a ha=>by show(bD σ ys)[j]?=_;rw[Ei σ ys a (NQ ha)];exact ha⟩
 |lstp σ xs j=>
  refine one rfl ?_;simp only[finV];split
  ·split<;>rfl
  ·rfl
 |tptr σ n j=>refine one rfl ?_;simp only[finV];split<;>rfl
 |_=>exact one rfl rfl
theorem nO:∀{l:List AV} {j:Nat} {c:AV},l[j]?=some c->∀m∈lensV k c,m∈lensVs k l
 |a::r,0,c,h,m,hm=>by simp at h;subst h;simp[lensVs,hm]
 |a::r,j+1,c,h,m,hm=>by simp only[lensVs,NV];exact Or.inr (nO (by simpa using h) m hm)
theorem so{d c:AV}{j:Nat}(h:(aa d)[j]?=some c):∀m∈lensV k c,m∈lensV k d:=by
 intro m hm
 cases d with
 |agg cs=>exact nO h m hm
 |st n y=>rw[qH (.st n) y c (NQ h)]at hm;cases hm
 |row σ ys=>rw[Bp σ ys c (NQ h)]at hm;cases hm
 |_=>
  cases j with|zero=>simp only[aa,OU,Xs]at h;subst h;exact hm|succ j=>simp[aa]at h
structure Told(Ω:Om)(k:Nat)(τ:Ty)(n:Nat)(x:den τ)(b cap:Nat)(vals:Nat->Value):Prop where
 e:Ω.e k=some (.tail (n+1) (some b) cap)
 c1:n+1<=cap
 c2:cap<=cm
 at_:∀(j:Nat)(c:AV),(cells τ x)[j]?=some c->Ω.pub b (n *ag τ+j)/\Ω.w.cell? ⟨b,n *ag τ+j,none⟩=some (vals j)/\V Ω c (vals j)
theorem V.finV{Ω:Om}{n b cap:Nat}{vals:Nat->Value}(ht:Told Ω k τ n x b cap vals){a:AV}{v:Value}(h:V Ω a v):(∀m∈lensV k a,m=n)->V Ω (AL.finV k τ x a) v:=by
 have many:∀{cs:List AV} {vs:List Value},cs.length=vs.length->(∀m∈lensVs k cs,m=n)->(∀(j:Nat)(d:AV)(v:Value),cs[j]?=some d->vs[j]?=some v->(∀m∈lensV k d,m=n)->V Ω (AL.finV k τ x d) v)->
   (finVs k τ x cs).length=vs.length/\∀(j:Nat)(d:AV)(v:Value),(finVs k τ x cs)[j]?=some d->vs[j]?=some v->V Ω d v:=by
  intro cs vs hl hm ih;refine⟨by rw[kZ,hl],fun j d v hd hv=>?_⟩;rw[pW]at hd;simp only[NB]at hd;obtain⟨d0,hd0,rfl⟩:=hd;exact ih j d0 v hd0 hv (fun m hmm=>hm m (nO hd0 m hmm))
 induction h with
 |lstp σ xs j b' off cap' vals' h1 h2 h3 h4 h5 _=>
  intro hm;simp only[AL.finV];split
  ·rename_i hjk;have hjk:=Nx hjk;subst hjk;split
   ·rename_i l hl;obtain⟨e,hl⟩:=ke hl;subst e;simp only at hl;subst hl;have hlen:xs.length=n:=hm xs.length (by simp[lensV]);obtain⟨m,base,cap2,r1,r2,r3⟩:=h3 _ rfl;rw[ht.e]at r1;simp only[Xs,CObj.tail.injEq]at r1;obtain⟨rfl,rfl,rfl⟩:=r1;have r3:=r3 (by omega);simp only[eK,Od,Xs,OX,NZ,NX]at r3;obtain⟨⟨rfl,rfl⟩,rfl⟩:=r3;have hlx:(xs++[x]).length=xs.length+1:=by simp
    have hcase:∀(i:Nat)(y:den τ),(xs++[x])[i]?=some y->(i<xs.length/\xs[i]?=some y)∨(i=xs.length/\y=x):=by
     intro i y hy;by_cases hi:i<xs.length
     ·rw[Nq hi]at hy;exact Or.inl ⟨hi,hy⟩
     ·rw[Nr (by omega)]at hy
      have:i-xs.length=0:=by
       rcases PC (i-xs.length)with q|q
       ·exact q
       ·rw[Nd (by simp;omega)]at hy;cases hy
      rw[this]at hy;simp at hy;exact Or.inr ⟨by omega,hy.symm⟩
    have:=V.lst (Ω:=Ω) τ (xs++[x]) (some j) b' 0 cap' (fun i q=>if i<xs.length then vals' i q else vals q) (by rw[hlx];exact h1) h2 (by
      rw[hlx];intro id hid;cases hid;exact⟨n+1,some b',cap',ht.e,by omega,fun e=>by simp[eK]⟩)
     (fun i y hy q c hc=>by
      rcases hcase i y hy with⟨hi,hy'⟩|⟨rfl,rfl⟩
      ·simp only[N6 hi];exact h4 i y hy' q c hc
      ·simp only[Nat.lt_irrefl,ND,OQ];have:=ht.at_ q c hc;rw[<-hlen]at this;exact⟨this.1,this.2.1⟩)
     (fun i y hy q c hc=>by
      rcases hcase i y hy with⟨hi,hy'⟩|⟨rfl,rfl⟩
      ·simp only[N6 hi];exact h5 i y hy' q c hc
      ·simp only[Nat.lt_irrefl,ND];exact(ht.at_ q c hc).2.2)
    rw[hlx]at this;exact this
   ·exact .undef _
  ·exact .lstp σ xs j b' off cap' vals' h1 h2 h3 h4 h5
 |tptr σ m j p hp=>
  intro _;simp only[AL.finV];split
  ·exact .undef _
  ·exact .tptr σ m j p hp
 |cptr d b' o vs h1 h2 ih=>
  intro hm;obtain⟨p1,p2⟩:=sk (k:=k) (τ:=τ) (x:=x) d
  have back:∀(j:Nat)(d':AV),(aa (AL.finV k τ x d))[j]?=some d'->∃d0,(aa d)[j]?=some d0/\d'=AL.finV k τ x d0:=by
   intro j d' hd'
   have hj:j<(aa d).length:=by
    rw[<-p1];rcases Nv j (aa (AL.finV k τ x d)).length with q|q
    ·exact q
    ·rw[Nd q]at hd';cases hd'
   have:=p2 j _ (N9 hj);rw[hd']at this;exact⟨_,N9 hj,O1 this⟩
  refine .cptr _ b' o vs (fun j d' hd'=>?_) (fun j d' hd'=>?_)
  ·obtain⟨d0,q1,_⟩:=back j d' hd';exact h1 j d0 q1
  ·obtain⟨d0,q1,rfl⟩:=back j d' hd';exact ih j d0 q1 (fun m hmm=>hm m (by simp only[lensV];exact so q1 m hmm))
 |agg cs vs hl _ ih=>intro hm;obtain⟨q1,q2⟩:=many hl (by simpa[lensV]using hm) ih;exact .agg _ vs q1 q2
 |tup cs vs hl _ ih=>intro hm;obtain⟨q1,q2⟩:=many hl (by simpa[lensV]using hm) ih;exact .tup _ vs q1 q2
 |fn f cs vs hl _ ih=>intro hm;obtain⟨q1,q2⟩:=many hl (by simpa[lensV]using hm) ih;exact .fn f _ vs q1 q2
 |iface t a v _ ih=>intro hm;exact .iface t _ v (ih (by simpa[lensV]using hm))
 |undef v=>exact fun _=>.undef v
 |int k n h1 h2=>exact fun _=>.int k n h1 h2
 |bool b=>exact fun _=>.bool b
 |str s h=>exact fun _=>.str s h
 |lstNil τ o ht=>exact fun _=>.lstNil τ o ht
 |lstVoid τ a=>exact fun _=>.lstVoid τ a
 |lst τ xs o b' off' cap vals' h1 h2 h3 h4 h5 _=>exact fun _=>.lst τ xs o b' off' cap vals' h1 h2 h3 h4 h5
 |nils=>exact fun _=>.nils
 |nilp=>exact fun _=>.nilp
 |ptr i o b' p len he=>exact fun _=>.ptr i o b' p len he
 |ptNone n=>exact fun _=>.ptNone n
 |ptSome n x v hv _=>exact fun _=>.ptSome n x v hv
 |arr i n w b' len cap a he h1 h2 h3 h4=>exact fun _=>.arr i n w b' len cap a he h1 h2 h3 h4
 |aptr i n w o b' p len he=>exact fun _=>.aptr i n w o b' p len he
 |bptr i b g he=>exact fun _=>.bptr i b g he
 |nilif=>exact fun _=>.nilif
 |st n x v hv _=>exact fun _=>.st n x v hv
end
theorem ma{n:Nat}:∀{l:List Nat} {q:Prop},AY n l q->(∀m∈l,m=n)/\q
 |[],q,h=>⟨fun _ hm=>absurd hm Ph,h⟩
 |m::r,q,h=>by obtain⟨h1,h2⟩:=h;obtain⟨h3,h4⟩:=ma h2;exact⟨fun i hi=>(Nw.1 hi).elim (fun e=>e ▸ h1) (h3 i),h4⟩
theorem Bq{F:Fr}{s:St}{a:Act}{Ω:Om}{k:Nat}{Q:St->Prop}(h:Holds F s.abs a Ω)(hf:GO k s Q):∃s' Ω',Ω'.w=Ω.w/\Holds F s'.abs a Ω'/\Q s':=by
 unfold GO at hf;split at hf
 ·rename_i τ n x hb;obtain⟨hlens,hq⟩:=ma hf;refine⟨⟨s.t.map fun y=>(y.1,finV k τ x y.2),(ot s.b k (.tail τ (n+1))).map fun y=>(y.1,GN k τ x y.2)⟩,?_⟩;obtain⟨b,cap,e1,e2,e3,e4,⟨vs,ty,fz,e5,e6,e7⟩,e8,e9⟩:=h.slots k _ hb
  let Ω1:Om:=⟨Ω.e,Ω.w,fun b' o=>Ω.pub b' o∨(b'=b/\n *ag τ<=o/\o<n *ag τ+ag τ)⟩
  have hx1:Ext Ω Ω1:=⟨fun i c hc=>⟨c,hc,CLe.refl c⟩,fun _ _ p=>Or.inl p,fun _ _ _=>rfl⟩
  have htold:Told Ω1 k τ n x b cap (fun j=>(Ω.w.cell? ⟨b,n *ag τ+j,none⟩).getD undef):=by
   refine⟨e1,e2,e3,fun j c hc=>?_⟩;obtain⟨v,k1,k2⟩:=e9 j c hc
   have hj:j<ag τ:=by
    rw[<-bG τ x];rcases Nv j (cells τ x).length with q|q
    ·exact q
    ·rw[Nd q]at hc;cases hc
   refine⟨Or.inr ⟨rfl,by omega,by omega⟩,?_,?_⟩
   ·show Ω.w.cell? _=_;rw[k1];rfl
   ·simp only[k1,Ol];exact k2.ext hx1
  have hcell:∀o,n *ag τ<=o->o<n *ag τ+ag τ->∃v,Ω.w.cell? ⟨b,o,none⟩=some v:=by
   intro o h1 h2;have hj:o-n *ag τ<(cells τ x).length:=by rw[bG];omega
   obtain⟨v,k1,_⟩:=e9 (o-n *ag τ) _ (N9 hj);exact⟨v,by rw[show n *ag τ+(o-n *ag τ)=o by omega]at k1;exact k1⟩
  refine⟨Ω1,rfl,⟨fun i=>?_,h.size,h.defers,fun id o ho=>?_,fun id hid=>?_,h.inj,fun b' o hp=>?_,h.keep,?_⟩,hq⟩
  ·simp only[St.abs];rw[oK (finV k τ x) rfl s.t i];refine V.finV htold ((h.tmps i).ext hx1) (fun m hm=>?_);rcases oH s.t i with hu|hm'
   ·rw[hu]at hm;cases hm
   ·exact hlens m (List.mem_append_left _ (OF.2 ⟨_,hm',hm⟩))
  ·simp only[St.abs]at ho;rw[lZ (GN k τ x) _ id,km]at ho;by_cases hid:k=id
   ·subst hid;rw[N6 rfl]at ho;simp only[OC,Xs,GN]at ho;subst ho;refine⟨some b,cap,e1,e2,e3,by simp,fun b2 hb2=>?_⟩;simp only[Xs]at hb2;subst hb2;refine⟨e4,vs,ty,fz,e5,e6,e7,fun o ho hp=>?_⟩;rw[NT,PD]at ho;rcases hp with hp|⟨_,hp1,hp2⟩
    ·exact e8 o (by omega) hp
    ·omega
   ·rw[N3 hid]at ho;simp only[NB]at ho;obtain⟨o0,ho0,rfl⟩:=ho;have hs:=h.slots id o0 ho0;have apart:∀c0,Ω.e id=some c0->∀b' o,occ c0 b' o->b'≠b:=by intro c0 hc0 b' o hoc hk;subst hk;exact hid (h.inj k id _ c0 b' o e1 hc0 rfl hoc)
    cases o0 with
    |box d=>
     obtain⟨b2,off2,g1,g2⟩:=hs;obtain⟨p1,p2⟩:=sk (k:=k) (τ:=τ) (x:=x) d;refine⟨b2,off2,by show Ω.e id=_;rw[g1,p1],fun j d' hd'=>?_⟩
     have hj:j<(aa d).length:=by
      rw[<-p1];rcases Nv j (aa (finV k τ x d)).length with q|q
      ·exact q
      ·rw[Nd q]at hd';cases hd'
     have hd2:=p2 j _ (N9 hj);rw[hd']at hd2;obtain⟨m1,m2,m3,v,m4,m5⟩:=g2 j _ (N9 hj);refine⟨m1,fun hp=>?_,m3,v,m4,?_⟩
     ·rcases hp with hp|hp
      ·exact m2 hp
      ·exact apart _ g1 b2 (off2+j) ⟨rfl,by omega,by omega⟩ hp.1
     ·rw[O1 hd2];refine V.finV htold (m5.ext hx1) (fun m hm=>hlens m (List.mem_append_right _ (OF.2 ⟨(id,.box d),dT _ _ _ ho0,?_⟩)));exact so (N9 hj) m hm
    |tail σ m=>
     obtain⟨base,cap2,g1,g2,g3,g4,g5⟩:=hs;refine⟨base,cap2,g1,g2,g3,g4,fun b2 hb2=>?_⟩;obtain⟨m1,vs',ty',fz',m2,m3,m4,m5⟩:=g5 b2 hb2;refine⟨m1,vs',ty',fz',m2,m3,m4,fun o ho hp=>?_⟩;rcases hp with hp|hp
     ·exact m5 o ho hp
     ·exact apart _ g1 b2 o hb2 hp.1
    |bld t u l=>
     obtain⟨b2,g,g1,g2,g3⟩:=hs;refine⟨b2,g,g1,fun b3 hb3 o=>⟨(g2 b3 hb3 o).1,fun hp=>?_⟩,g3⟩;rcases hp with hp|hp
     ·exact(g2 b3 hb3 o).2 hp
     ·exact apart _ g1 b3 o hb3 hp.1
    |tailp σ m y=>
     obtain⟨b2,cap2,g1,g2,g3,g4,g5,g6,g7⟩:=hs;refine⟨b2,cap2,g1,g2,g3,g4,g5,fun o ho hp=>?_,fun j c hc=>?_⟩
     ·rcases hp with hp|hp
      ·exact g6 o ho hp
      ·exact apart _ g1 b2 o rfl hp.1
     ·obtain⟨v,k1,k2⟩:=g7 j c hc;exact⟨v,k1,k2.ext hx1⟩
  ·simp only[St.abs]at hid;rw[lZ (GN k τ x) _ id,km]at hid;by_cases hk:k=id
   ·subst hk;simp at hid
   ·rw[N3 hk]at hid;exact h.dom id (by show aE s.b id=none;simpa using hid)
  ·rcases hp with hp|⟨rfl,hp1,hp2⟩
   ·exact h.pubok b' o hp
   ·exact hcell o hp1 hp2
  ·refine⟨h.frame.os,h.frame.tape,h.frame.output,h.frame.size,h.frame.block,h.frame.cell,h.frame.kind,fun b' o hp=>?_,fun b' o hp=>Or.inl (h.frame.old b' o hp),h.frame.pcell⟩;rcases hp with hp|⟨rfl,hp1,hp2⟩
   ·exact h.frame.pub b' o hp
   ·exact Or.inr (e4 o)
 ·exact⟨s,Ω,rfl,h,hf⟩
theorem sq{F:Fr}{a:Act}{Q:St->Prop}:∀(l:List Nat) {s:St} {Ω:Om},Holds F s.abs a Ω->DY l s Q->∃s' Ω',Ω'.w=Ω.w/\Holds F s'.abs a Ω'/\Q s'
 |[],s,Ω,h,hf=>⟨s,Ω,rfl,h,hf⟩
 |k::r,s,Ω,h,hf=>by obtain⟨s1,Ω1,g1,g2,g3⟩:=Bq (Q:=fun s=>DY r s Q) h hf;obtain⟨s2,Ω2,k1,k2,k3⟩:=sq r g2 g3;exact⟨s2,Ω2,k1.trans g1,k2,k3⟩
theorem Br{F:Fr}{a:Act}{Q:St->Prop}{s:St}{Ω:Om}(h:Holds F s.abs a Ω)(hf:finA s Q):∃s' Ω',Ω'.w=Ω.w/\Holds F s'.abs a Ω'/\Q s':=sq _ h hf
theorem Ej{k:Nat}{s:St}{Q:St->Prop}(hf:GO k s Q):∃s',Q s':=by
 unfold GO at hf;split at hf
 ·exact⟨_,(ma hf).2⟩
 ·exact⟨s,hf⟩
theorem vb{Q:St->Prop}:∀(l:List Nat) {s:St},DY l s Q->∃s',Q s'
 |[],s,hf=>⟨s,hf⟩
 |k::r,s,hf=>by obtain⟨s1,h1⟩:=Ej (Q:=fun s=>DY r s Q) hf;exact vb r h1
end Go.AL
end
section
namespace Go.AL
variable [Tabs]
def Ha:SX->Exit
 |.normal=>.normal
 |.exit id=>.exit id
 |.ret=>.ret
 |.pan _=>.outgrown
def Ends(Ω:Om):SX->Exit->Prop
 |.pan pv,e=>∃v,e=.panic [{v,recovered:=false}]/\V Ω pv v
 |x,e=>Ha x=e
def QL(F:Fr)(Q:SX->St->Prop):Exit->Act->World->Prop:=fun e a w=>∃x s Ω,Ends Ω x e/\Ω.w=w/\Holds F s.abs a Ω/\Q x s
mutual
theorem forceV_eq:∀(a:AV)(k:AV->Prop),forceV a k=k a
 |.undef,k=>rfl
 |.int κ n,k=>rfl
 |.bool b,k=>rfl
 |.str s,k=>rfl
 |.lst τ xs none,k=>rfl
 |.lst τ xs (some i),k=>rfl
 |.nils,k=>rfl
 |.ptr i o,k=>rfl
 |.cptr c,k=>by simp only[forceV];rw[forceV_eq c]
 |.st n x,k=>rfl
 |.nilp,k=>rfl
 |.row τ xs,k=>rfl
 |.arr i n w,k=>rfl
 |.aptr i n w o,k=>rfl
 |.bptr i,k=>rfl
 |.lstp τ xs i,k=>rfl
 |.tptr τ n i,k=>rfl
 |.iface t a,k=>by simp only[forceV];rw[forceV_eq a]
 |.nilif,k=>rfl
 |.pt n x,k=>rfl
 |.agg cs,k=>by simp only[forceV];rw[forceL_eq cs]
 |.tup cs,k=>by simp only[forceV];rw[forceL_eq cs]
 |.fn f cs,k=>by simp only[forceV];rw[forceL_eq cs]
theorem forceL_eq:∀(l:List AV)(k:List AV->Prop),forceL l k=k l
 |[],k=>rfl
 |a::r,k=>by simp only[forceL];rw[forceV_eq a,forceL_eq r]
end
theorem vc:∀(l:List (Nat×AV))(k:List (Nat×AV)->Prop),wc l k=k l
 |[],k=>rfl
 |(i,a)::r,k=>by simp only[wc];rw[forceV_eq a,vc r]
theorem ko:∀(l:List (Nat×SObj))(k:List (Nat×SObj)->Prop),jU l k=k l
 |[],k=>rfl
 |(i,.box c)::r,k=>by simp only[jU];rw[forceV_eq c,ko r]
 |(i,.tail τ n)::r,k=>by simp only[jU];rw[ko r]
 |(i,.bld t u l)::r,k=>by simp only[jU];rw[ko r]
 |(i,.tailp τ n x)::r,k=>by simp only[jU];rw[ko r]
theorem fA(s:St)(k:St->Prop):j8 s k=k s:=by unfold j8;rw[vc,ko]
theorem jf:∀(l:List Nat)(k:List Nat->Prop),jF l k=k l
 |[],k=>rfl
 |0::r,k=>by simp only[jF];rw[jf r]
 |(n+1)::r,k=>by simp only[jF];rw[jf r]
theorem Holds.trim{F:Fr}{s:St}{a:Act}{Ω:Om}(h:Holds F s.abs a Ω)(keep:List Nat):Holds F (trim keep s).abs a Ω:=by
 refine⟨fun i=>?_,h.size,h.defers,h.slots,h.dom,h.inj,h.pubok,h.keep,h.frame⟩;have:=qF s.t (fun i=>keep.contains i) i;simp only[AL.trim,St.abs];rw[this];split
 ·exact h.tmps i
 ·exact .undef _
section
variable {P:Program} {C:Cfg} {F:Fr}
theorem nw(hm:P.follows .mixedOrders=true)(hT:cq P C.tbl)(hS:dM P C.spec)(keep:List Nat){id:Nat}{ops:Array Oper}{draw:Bool}{s1:St}{Q:SX->St->Prop}{a:Act}{Ω1:Om}
 (hdst:∀(o:Oper),o∈ops.toList->∀d,o.dst=some d->d<F.n)(h:rn C keep ops draw s1 Q)(hh1:Holds F s1.abs a Ω1):(Code.region id ops draw).wp P (QL F Q) a Ω1.w:=by
 unfold rn at h
 have key:∀s' fs,(j8 (trim keep s') fun s'=>if draw=true then(if j7 ops.toList fs=true then Q .normal s' else False)else Q .normal s')->
   (draw=true->j7 ops.toList fs=true)/\Q .normal (trim keep s'):=by
  intro s' fs hk;simp only[fA]at hk
  cases draw with
  |false=>exact⟨fun h=>by simp at h,by simpa using hk⟩
  |true=>
   simp only[NS]at hk;rcases Pk (j7 ops.toList fs=true)with k|k
   ·rw[N6 k]at hk;exact⟨fun _=>k,hk⟩
   ·rw[N3 k]at hk;exact hk.elim
 refine wC hm hT hS hdst h (fun hdr s' fs hk=>let ⟨s2,h2⟩:=vb _ hk;(key s2 fs h2).1 hdr) hh1 (fun s' fs a' Ω' hk h'=>
   let ⟨s2,Ω2,g1,g2,g3⟩:=Br h' hk
   ⟨.normal,trim keep s2,Ω2,rfl,g1,g2.trim keep,(key s2 fs g3).2⟩)
  (fun pv s' a' Ω' v hk h' hv=>?_)
 simp only[fA,forceV_eq]at hk;exact⟨.pan pv,s',Ω',⟨v,rfl,hv⟩,rfl,h',hk⟩
theorem mS(hm:P.follows .mixedOrders=true)(hT:cq P C.tbl)(hS:dM P C.spec)(keep:List Nat)(ann:An) :
  ∀(c:Code)(s:St)(Q:SX->St->Prop)(a:Act)(Ω:Om),swp C keep ann c s Q->dF F.n c=true->Holds F s.abs a Ω->c.wp P (QL F Q) a Ω.w:=by
 intro c
 induction c with
 |skip=>exact fun s Q a Ω h _ hh=>wp_skip ⟨.normal,s,Ω,rfl,rfl,hh,h⟩
 |region id ops draw=>
  intro s Q a Ω h hd hh;simp only[swp]at h;split at h
  ·exact h.elim
  ·rename_i s0 hp0;obtain⟨Ω0,e0,hh0⟩:=oL _ hh hp0;split at h
   ·exact h.elim
   ·rename_i s1 he;obtain⟨Ω1,e1,hh1⟩:=yq hh0 he;have hdst:∀(o:Oper),o∈ops.toList->∀d,o.dst=some d->d<F.n:=by intro o ho d hod;simp only[dF,Ng]at hd;have:=hd o ho;rw[hod]at this;simpa using this
    rw[<-e0,<-e1];split at h
    ·exact nw hm hT hS keep hdst h hh1
    ·rename_i J hJ;obtain⟨h1,h2⟩:=h;rw[fA]at h2;refine Q6 (nw hm hT hS keep hdst h1 hh1) ?_;intro e a' w' hq;obtain⟨z,s',Ω',g1,g2,g3,g4⟩:=hq;subst g2
     cases z with
     |normal=>cases g1;obtain⟨Ω2,e2,hh2⟩:=fc g3 (iF g4);exact⟨.normal,_,Ω2,rfl,e2,hh2,h2⟩
     |exit id=>exact⟨.exit id,s',Ω',g1,rfl,g3,g4⟩
     |ret=>exact⟨.ret,s',Ω',g1,rfl,g3,g4⟩
     |pan pv=>exact⟨.pan pv,s',Ω',g1,rfl,g3,g4⟩
 |seq x y ihx ihy=>
  intro s Q a Ω h hd hh;simp only[dF,N4]at hd;simp only[swp]at h;split at h;rotate_left
  ·rename_i J hJ;obtain⟨h1,h2⟩:=h;rw[fA]at h2;refine wp_seq (Q6 (ihx s _ a Ω h1 hd.1 hh) ?_);intro e a' w' hq;obtain⟨z,s',Ω',g1,g2,g3,g4⟩:=hq;subst g2
   cases z with
   |normal=>cases g1;obtain⟨Ω2,e2,hh2⟩:=fc g3 (iF g4);rw[<-e2];exact ihy _ Q a' Ω2 h2 hd.2 hh2
   |exit id=>cases g1;exact⟨.exit id,s',Ω',rfl,rfl,g3,g4⟩
   |ret=>cases g1;exact⟨.ret,s',Ω',rfl,rfl,g3,g4⟩
   |pan pv=>obtain⟨v,rfl,hv⟩:=g1;exact⟨.pan pv,s',Ω',⟨v,rfl,hv⟩,rfl,g3,g4⟩
  refine wp_seq (Q6 (ihx s _ a Ω h hd.1 hh) ?_);intro e a' w' hq;obtain⟨z,s',Ω',h1,h2,h3,h4⟩:=hq;subst h2
  cases z with
  |normal=>cases h1;exact ihy s' Q a' Ω' h4 hd.2 h3
  |exit id=>cases h1;exact⟨.exit id,s',Ω',rfl,rfl,h3,h4⟩
  |ret=>cases h1;exact⟨.ret,s',Ω',rfl,rfl,h3,h4⟩
  |pan pv=>obtain⟨v,rfl,hv⟩:=h1;exact⟨.pan pv,s',Ω',⟨v,rfl,hv⟩,rfl,h3,h4⟩
 |cond c x y ihx ihy=>
  intro s Q a Ω h hd hh;simp only[dF,N4]at hd;simp only[swp]at h;split at h
  ·rename_i b hb;have hv:=ct hh c;have hb':opd s.abs.T c=.bool b:=hb;rw[hb']at hv;have hv:=hv.bool_inv;refine wp_cond hv ?_;unfold sp at h
   have hset:Holds F (JJ c b s).abs a Ω:=by
    cases c with
    |tmp t=>
     refine⟨fun i=>?_,hh.size,hh.defers,hh.slots,hh.dom,hh.inj,hh.pubok,hh.keep,hh.frame⟩;have e:(JJ (.tmp t) b s).abs.T i=if t=i then .bool b else cx s.t i:=kj s.t t (.bool b) i
     rw[e];by_cases ht:t=i
     ·subst ht;rw[N6 rfl];have:=hh.tmps t;rw[show s.abs.T t=.bool b from hb']at this;exact this
     ·rw[N3 ht];exact hh.tmps i
    |_=>exact hh
   cases b with|true=>exact ihx _ Q a Ω (by simpa using h) hd.1 hset|false=>exact ihy _ Q a Ω (by simpa using h) hd.2 hset
  ·exact h.elim
 |block id c ih=>
  intro s Q a Ω h hd hh;simp only[dF]at hd;simp only[swp]at h;refine wp_block (Q6 (ih s _ a Ω h hd hh) ?_);intro e a' w' hq;obtain⟨z,s',Ω',h1,h2,h3,h4⟩:=hq;subst h2
  cases z with
  |normal=>cases h1;exact⟨.normal,s',Ω',rfl,rfl,h3,h4⟩
  |ret=>cases h1;exact⟨.ret,s',Ω',rfl,rfl,h3,h4⟩
  |pan pv=>obtain⟨v,rfl,hv⟩:=h1;exact⟨.pan pv,s',Ω',⟨v,rfl,hv⟩,rfl,h3,h4⟩
  |exit j=>
   cases h1;simp only[Ha,Exit.inBlock];by_cases hj:j=id
   ·subst hj;simp only[NS];simp only[Pw,NS]at h4;exact⟨.normal,s',Ω',rfl,rfl,h3,h4⟩
   ·rw[N3 hj];simp only[O7,hj,ND]at h4;exact⟨.exit j,s',Ω',rfl,rfl,h3,h4⟩
 |loop c ih=>
  intro s Q a Ω h hd hh;simp only[dF]at hd;simp only[swp]at h;split at h
  ·exact h.elim
  ·rename_i A hA;simp only[fA]at h;obtain⟨⟨x0,hp0,hle0⟩,hround⟩:=h;obtain⟨Ω0,e0,hh0⟩:=fc hh (iF hle0);rw[<-e0];refine wp_loop_ghost (fun k a w=>∃x Ω,A.pre x/\A.m x=k/\Ω.w=w/\Holds F (kP (dI c) s (A.t x) (A.b x)).abs a Ω) (A.m x0) ⟨x0,Ω0,hp0,rfl,rfl,hh0⟩ ?_;intro k a1 w1 hI;obtain⟨x,Ω1,hp,hmx,hw1,hh1⟩:=hI;subst hw1;refine Q6 (ih (kP (dI c) s (A.t x) (A.b x)) _ a1 Ω1 (hround x hp) hd hh1) ?_;intro e a' w' hq;obtain⟨z,s',Ω',h1,h2,h3,h4⟩:=hq;subst h2
   cases z with
   |normal=>cases h1;obtain⟨y,hy1,hy2,hy3⟩:=h4;obtain⟨Ω2,e2,hh2⟩:=fc h3 (iF hy3);exact⟨A.m y,by omega,y,Ω2,hy1,rfl,e2,hh2⟩
   |exit id=>cases h1;exact⟨.exit id,s',Ω',rfl,rfl,h3,h4⟩
   |ret=>cases h1;exact⟨.ret,s',Ω',rfl,rfl,h3,h4⟩
   |pan pv=>obtain⟨v,rfl,hv⟩:=h1;exact⟨.pan pv,s',Ω',⟨v,rfl,hv⟩,rfl,h3,h4⟩
 |exit id=>exact fun s Q a Ω h _ hh=>wp_exit ⟨.exit id,s,Ω,rfl,rfl,hh,h⟩
 |ret=>exact fun s Q a Ω h _ hh=>wp_ret ⟨.ret,s,Ω,rfl,rfl,hh,h⟩
 |rangeFunc g ps x y _ _=>exact fun s Q a Ω h=>by simp[swp]at h
 |scope c ih=>
  intro s Q a Ω h hd hh;simp only[dF]at hd;simp only[swp]at h;refine wp_scope_straight (Q6 (ih s _ a Ω h hd hh) ?_);intro e a' w' hq;obtain⟨z,s',Ω',h1,h2,h3,h4⟩:=hq
  cases z with
  |normal=>cases h1;exact⟨.normal,s',Ω',rfl,h2,h3,h4⟩
  |exit id=>cases h1;exact⟨.exit id,s',Ω',rfl,h2,h3,h4⟩
  |ret=>cases h1;exact⟨.ret,s',Ω',rfl,h2,h3,h4⟩
  |pan pv=>obtain⟨v,rfl,hv⟩:=h1;exact⟨.pan pv,s',Ω',⟨v,rfl,hv⟩,h2,h3,h4⟩
 |label l=>exact fun s Q a Ω h _ hh=>wp_label ⟨.normal,s,Ω,rfl,rfl,hh,h⟩
 |goto l=>exact fun s Q a Ω h=>by simp[swp]at h
 |refuse why=>exact fun s Q a Ω h=>by simp[swp]at h
theorem kq:∀(l:List AV)(i j:Nat),cx (fm i l) j=if i<=j then l.getD (j-i) .undef else .undef
 |[],i,j=>by simp[fm,cx]
 |v::r,i,j=>by
  simp only[fm,cx,kq r (i+1) j];by_cases h:i=j
  ·subst h;simp
  ·simp only[O7,h,ND];by_cases h2:i<=j
   ·have e:j-i=(j-(i+1))+1:=by omega
    rw[N6 h2,N6 (by omega),e];simp
   ·rw[N3 h2,N3 (by omega)]
theorem kr{w:World}{pub:Nat->Nat->Prop}{e:Nat->Option CObj}{args:List AV}{vs:List Value}(k:Nat)(hv:VL ⟨e,w,pub⟩ args vs)(i:Nat) :
  V ⟨e,w,pub⟩ (cx (fm 0 args) i) ((vs.toArray++Array.replicate k undef).getD i undef):=by
 simp only[kq,Nt,NS,PL];by_cases h:i<args.length
 ·have h':i<vs.length:=by rw[<-hv.1];exact h
  have e1:args.getD i .undef=args[i]:=by simp[Nb,h]
  have e2:(vs.toArray++Array.replicate k undef).getD i undef=vs[i]:=by simp[Nz,Array.getElem?_append,h']
  rw[e1,e2];exact hv.2 i _ _ (N9 h) (N9 h')
 ·have e1:args.getD i .undef=.undef:=by simp[Nb,h]
  rw[e1];exact .undef _
theorem nP{w:World}{pub:Nat->Nat->Prop}{e:Nat->Option CObj}{args:List AV}{vs:List Value}{n:Nat}{S:List (Nat×SObj)}(hp:kh w pub)(ht:ja w pub e)(hv:VL ⟨e,w,pub⟩ args vs)(hn:args.length<=n)
 (hs:∀id o,aE S id=some o->bH ⟨e,w,pub⟩ (fun _ _=>True) id o)(hd:∀id,aE S id=none->e id=none)(hi:Inj e)(hl:∀id c,e id=some c->cU id=true) :
  Holds ⟨w,pub,n,e,hl,[],ht⟩ (St.abs ⟨fm 0 args,S⟩) {tmps:=vs.toArray++Array.replicate (n-vs.toArray.size) undef,defers:=[]} ⟨e,w,pub⟩:=
 ⟨fun i=>kr _ hv i,by simp;have:=hv.1;omega,rfl,fun id o ho=>(hs id o ho).own_of (fun c b oo hc hoc=>Or.inr ⟨id,c,hc,hoc⟩),fun id hid=>hd id hid,hi,hp,fun id c hc=>⟨c,hc,CLe.refl c⟩,
  ⟨rfl,rfl,rfl,Nf _,fun _ _ _=>rfl,fun _ _ _ _=>rfl,fun _ _ _=>⟨rfl,fun _=>rfl⟩,fun _ _ h=>Or.inl h,fun _ _ h=>h,fun _ _ _=>rfl⟩⟩
def sr(tmps:Array Value):ResultVar->Sem Value
 |.tmp t=>pure (tmps.getD t undef)
 |.cell a t=>do loadVar t (<-asAddr (tmps.getD a undef))
theorem su(fn:Func)(tmps:Array Value):results fn tmps=(do
  let vs <-fn.results.mapM (sr tmps)
  pure (if h:vs.size=1 then vs[0]else .tuple vs)):=by
 unfold results;congr 1
theorem il(hT:cq P C.tbl){s:St}{a:Act}{Ω:Om}(hh:Holds F s.abs a Ω):∀(rs:List ResultVar)(l:List AV),oy C.tbl s rs=some l->
  ∃vs,(rs.mapM (sr a.tmps)).run P Ω.w=.ok vs Ω.w/\VL Ω l vs
 |[],l,h=>by simp[oy]at h;subst h;exact⟨[],rfl,VL.nil⟩
 |.tmp t::rs,l,h=>by
  simp only[oy]at h;split at h
  ·rename_i l' hl';simp at h;subst h;obtain⟨vs,k1,k2⟩:=il hT hh rs l' hl';exact⟨_,by rw[List.mapM_cons];simp only[sr,NA,NN,Nh,k1],VL.cons (hh.tmps t) k2⟩
  ·cases h
 |.cell b t::rs,l,h=>by
  simp only[oy]at h;split at h
  ·rename_i id off rt hb hrt;have hv:=hh.tmps b;have e:s.abs.T b=.ptr id off:=hb;rw[e]at hv;obtain⟨g,o',len,hv1,hv2⟩:=hv.ptr_inv;split at h
   ·rename_i c hcs;split at h
    ·rename_i x l' hx hl';simp at h;subst h;obtain⟨vs,k1,k2⟩:=il hT hh rs l' hl';obtain⟨b',off',e1,e2⟩:=hh.slots id _ hcs;rw[hv2]at e1;simp only[Xs,CObj.box.injEq]at e1;obtain⟨rfl,rfl,rfl⟩:=e1;obtain⟨v,w1,w2⟩:=jG (P:=P) (C:=C) (w:=Ω.w) hT hrt hx (b:=g) (o':=o') (fun j c' hc=>(e2 j c' hc).2.2.2);exact⟨v::vs,by rw[List.mapM_cons];simp only[sr,NA,hv1,asAddr,NN,Nh,w1,k1],VL.cons w2 k2⟩
    ·cases h
   ·cases h
  ·cases h
theorem Holds.retmp{s:AS}{a:Act}{Ω:Om}(h:Holds F s a Ω){l:List AV}{vs:List Value}(hv:VL Ω l vs) :
  Holds ⟨F.w0,F.pub0,vs.length,F.e0,F.dom0,[],F.tab0⟩ ⟨cx (fm 0 l),s.B⟩ {tmps:=vs.toArray++Array.replicate 0 undef,defers:=[]} Ω:=
 ⟨fun i=>kr 0 hv i,by simp,rfl,h.slots,h.dom,h.inj,h.pubok,h.keep,
  ⟨h.frame.os,h.frame.tape,h.frame.output,h.frame.size,h.frame.block,h.frame.cell,h.frame.kind,h.frame.pub,h.frame.old,h.frame.pcell⟩⟩
theorem ku{w:World}{pub:Nat->Nat->Prop}{e:Nat->Option CObj}{n:Nat}{hl:∀id c,e id=some c->cU id=true}{ht:ja w pub e}{T:Nat->AV}{B:List (Nat×SObj)}{a:Act}{Ω:Om}
 (h:Holds ⟨w,pub,n,e,hl,[],ht⟩ ⟨T,aE B⟩ a Ω):After w pub e (aE B) Ω.w Ω.pub Ω.e:=by
 refine⟨h.frame.os,h.frame.tape,h.frame.output,h.frame.size,h.frame.block,h.frame.cell,h.frame.kind,⟨h.keep,h.frame.old,h.frame.pcell⟩,fun b o hp=>?_,h.pubok,h.slots,h.dom,h.inj⟩;rcases h.frame.pub b o hp with q|q|q
 ·exact Or.inl q
 ·exact Or.inr (Or.inl q)
 ·exact Or.inr (Or.inr q)
theorem oM{α:Type}{l:List α}(h:l.length=1):∃x,l=[x]:=by
 match l,h with
 |[x],_=>exact⟨x,rfl⟩
theorem Ek(hm:P.follows .mixedOrders=true)(hT:cq P C.tbl)(hS:dM P C.spec){ann:An}{f:Nat}{fn:Func}(hf:P.funcs[f]?=some fn)
 {args:List AV}{S:List (Nat×SObj)}{A:Ans}(h:fwp C ann fn args S A):ax P f args S A:=by
 intro w pub e vs hp ht hv hs hdom hinj;unfold fwp at h;split at h
 ·exact h.elim
 ·rename_i c hb;split at h
  ·exact h.elim
  ·rename_i hck;simp only[N4,Ng]at hck;obtain⟨⟨hck1,hck2⟩,hck3⟩:=hck;have hlen:=fP _ _ hck2;rw[jf,fA]at h
   have hlent:∀id c,e id=some c->cU id=true:=by
    intro id c hc
    cases hg:aE S id with
    |none=>rw[hdom id hg]at hc;cases hc
    |some o=>exact hck3 id (O5.2 ⟨(id,o),dT _ _ _ hg,rfl⟩)
   refine calls_of_wp hf hb ?_;have hh:=nP (n:=fn.ntmps) hp ht hv hlen hs hdom hinj hlent;refine Q6 (mS (F:=⟨w,pub,fn.ntmps,e,hlent,[],ht⟩) hm hT hS _ ann c _ _ _ _ h hck1 hh) ?_;intro en a' w' hq;obtain⟨z,s',Ω',h1,h2,h3,h4⟩:=hq;subst h2
   have hmap:∀us,(fn.results.toList.mapM (sr a'.tmps)).run P Ω'.w=.ok us Ω'.w->
     (results fn a'.tmps).run P Ω'.w=.ok (if h:us.toArray.size=1 then us.toArray[0]else .tuple us.toArray) Ω'.w:=by
    intro us hus;rw[su,<-P8 (xs:=fn.results),Qd];simp only[NA,Sem.run_map,hus,Nh,NN]
   have key:((match A.pan with|some (b,_,_)=>b=false|none=>True)/\uU (oy C.tbl s' fn.results.toList) s' A.val (putB S A.upd))->
     a'.defers=[]/\∃v,(results fn a'.tmps).run P Ω'.w=.ok v Ω'.w/\∃pub' e',(∀b pv u,A.pan=some (b,pv,u)->b=false)/\V ⟨e',Ω'.w,pub'⟩ A.val v/\After w pub e (aE (putB S A.upd)) Ω'.w pub' e':=by
    rintro⟨hpan,hend⟩;refine⟨h3.defers,?_⟩;have hpan':∀b pv u,A.pan=some (b,pv,u)->b=false:=by intro b pv u hpa;rw[hpa]at hpan;exact hpan
    unfold uU at hend;split at hend
    ·rename_i x hres;obtain⟨us,k1,k2⟩:=il hT h3 _ _ hres;obtain⟨u,rfl⟩:=oM (by rw[<-k2.1];rfl);obtain⟨Ω2,e2,hh2⟩:=fc (s:=⟨[(0,x)],s'.b⟩) (h3.retmp k2) (iF hend);refine⟨u,by simpa using hmap [u] k1,Ω2.pub,Ω2.e,hpan',?_,?_⟩
     ·have:=hh2.tmps 0;rw[<-e2];exact this
     ·rw[<-e2];exact ku hh2
    ·rename_i l hne hres;split at hend
     ·rename_i rs hval;split at hend
      ·rename_i hln;have hl2:=cD _ _ hln;obtain⟨us,k1,k2⟩:=il hT h3 _ _ hres;obtain⟨Ω2,e2,hh2⟩:=fc (s:=⟨fm 0 l,s'.b⟩) (h3.retmp k2) (iF hend);have hsz:¬us.toArray.size=1:=by intro h1;obtain⟨x,hx⟩:=oM (l:=l) (by rw[k2.1];simpa using h1);exact hne x hx
       refine⟨.tuple us.toArray,?_,Ω2.pub,Ω2.e,hpan',?_,?_⟩
       ·rw[hmap us k1,dif_neg hsz]
       ·rw[hval];refine .tup rs us (by rw[<-k2.1,<-hl2]) (fun j c v hc hv=>?_);have:=hh2.tmps j;simp only[St.abs,kq,Nt,NS,PL,Nb,hc,Ol]at this;have e3:(us.toArray++Array.replicate 0 undef).getD j undef=v:=by simp[Nz,hv]
        rw[e3,]at this;rw[<-e2];exact this
       ·rw[<-e2];exact ku hh2
      ·exact hend.elim
     ·exact hend.elim
    ·exact hend.elim
   cases z with
   |normal=>cases h1;exact key h4
   |exit id=>exact h4.elim
   |ret=>cases h1;exact key h4
   |pan pv=>
    obtain⟨v,rfl,hv⟩:=h1;simp only at h4;split at h4
    ·rename_i b pv' pu hpa;obtain⟨hbt,hend⟩:=h4;subst hbt;obtain⟨Ω2,e2,hh2⟩:=fc (s:=⟨[(0,pv)],s'.b⟩) (h3.retmp (VL.cons hv .nil)) (iF hend);refine⟨h3.defers,Ω2.pub,Ω2.e,pv',pu,v,hpa,rfl,?_,?_⟩
     ·have:=hh2.tmps 0;rw[<-e2];exact this
     ·rw[<-e2];exact ku hh2
    ·exact h4.elim
end
end Go.AL
end
section
namespace Go.AL
variable [Tabs]
theorem TRok.mk'{P:Program}{t:Nat}{r:TR}
 (h1:(P.info? t).map (fun i=>(i.size,i.bytes,i.zero.map fun z=>z.cells.toList.map cQ))=some (r.size,r.bytes,some r.zero))
 (h2:(P.underlying t).map (bS P r.ti)=some true)
 (h3:(ib r.zero r.size&&(Nat.beq r.size 0||Nat.blt 0 r.bytes)&&(match r.ty with | some τ=>Nat.beq (ag τ) r.size&&(JE τ ==r.isAgg) | none=>true))=true)
 (h8:(P.info? t).map (fun i=>i.zero.map fun z=>AZ z ==r.isAgg)=some (some true))
 (h9:(match r.ti with|.strct true _=>!P.stoodInHeld t&&!P.eqGuardType P.depth t|_=>true)=true):TRok P t r:=by
 simp only[N4,NW,Nat.beq_eq,PR]at h3;obtain⟨⟨h5,h6⟩,h7⟩:=h3;refine⟨?_,cD _ _ h5,fun hz=>?_,?_,fun τ hτ=>?_,fun i z hi hz=>?_,fun fs hfs=>?_⟩
 ·cases hi:P.info? t with
  |none=>rw[hi]at h1;simp at h1
  |some i=>rw[hi]at h1;simp only[OC,Xs,Prod.mk.injEq,NB]at h1;obtain⟨e1,e2,z,e3,e4⟩:=h1;exact⟨i,z,rfl,e1,e2,e3,e4⟩
 ·rcases h6 with h6|h6
  ·omega
  ·exact h6
 ·cases hd:P.underlying t with|none=>rw[hd]at h2;simp at h2|some d=>rw[hd]at h2;exact⟨d,rfl,by simpa using h2⟩
 ·rw[hτ]at h7;simpa using h7
 ·rw[hi]at h8;simp[hz]at h8;exact h8
 ·rw[hfs]at h9;simpa using h9
theorem cq.nil{P:Program}:cq P []:=fun t r h=>by simp[bE]at h
theorem cq.cons{P:Program}{t:Nat}{r:TR}{l:List (Nat×TR)}(h:TRok P t r)(hl:cq P l):cq P ((t,r)::l):=by
 intro t' r' h';simp only[bE]at h';by_cases e:t=t'
 ·subst e;simp at h';subst h';exact h
 ·simp only[O7,e,ND]at h';exact hl t' r' h'
theorem aw.mk'{P:Program}{f:Nat}{fn:Func}(h:P.funcs[f]?=some fn)(h2:(fn.body.isNone || (fn.name == "runtime.NumGoroutine"))=false):aw P f:=by simp only [Pt] at h2;exact ⟨fn,h,h2.1,h2.2⟩
end Go.AL
end
section
namespace Go.AL
def Wf(τ:Ty)(x:den τ):Prop:=∃Ω v,V Ω (inj τ x) v
def WfL(args:List AV):Prop:=∃Ω vs,VL Ω args vs
theorem Wf.str{s:Str}(h:Wf .str s):s.length<=9223372036854775807:=letI:=we;let ⟨_,_,h⟩:=h;h.str_inv.2
theorem Wf.len{τ:Ty}{xs:List (den τ)}(h:Wf (.lst τ) xs):xs.length<=9223372036854775807:=by
 letI:=we
 obtain⟨Ω,v,h⟩:=h;rcases h.lst_inv with⟨h1,_,_⟩|⟨h1,_,_⟩|⟨b,off,cap,vals,hv,h1,h2,_⟩
 ·rw[h1];simp
 ·rw[h1];simp
 ·unfold cm at h2;omega
theorem VL.inj{Ω:Om}{τ:Ty}{x:den τ}{vs:List Value}(h:VL Ω (cells τ x) vs):∃v,V Ω (inj τ x) v:=by
 cases τ with
 |st n=>exact⟨_,.st n x _ (V.of_agg h)⟩
 |int k=>match vs,h with|[v],h=>exact⟨v,h.head⟩
 |bool=>match vs,h with|[v],h=>exact⟨v,h.head⟩
 |str=>match vs,h with|[v],h=>exact⟨v,h.head⟩
 |lst t=>match vs,h with|[v],h=>exact⟨v,h.head⟩
 |pt n=>match vs,h with|[v],h=>exact⟨v,h.head⟩
theorem Wf.mem{τ:Ty}{xs:List (den τ)}(h:Wf (.lst τ) xs){x:den τ}(hx:x∈xs):Wf τ x:=by
 letI:=we
 obtain⟨Ω,v,h⟩:=h;rcases h.lst_inv with⟨h1,_,_⟩|⟨h1,_,_⟩|⟨b,off,cap,vals,hv,h1,h2,h3,h4,h5⟩
 ·rw[h1]at hx;simp at hx
 ·rw[h1]at hx;simp at hx
 ·obtain⟨i,hi⟩:=List.getElem?_of_mem hx
  have:VL Ω (cells τ x) ((List.range (cells τ x).length).map (vals i)):=by
   refine⟨by simp,fun j c v hc hv=>?_⟩
   have hj:j<(cells τ x).length:=by
    rcases Nv j (cells τ x).length with k|k
    ·exact k
    ·rw[Nd k]at hc;cases hc
   simp[hj]at hv;subst hv;exact h5 i x hi j c hc
  obtain⟨v',hv'⟩:=this.inj;exact⟨Ω,v',hv'⟩
theorem Wf.cell{n:SN}{x:SD n}(h:Wf (.st n) x)(j:Nat){τ:Ty}{y:den τ}(hc:(cells (.st n) x)[j]?=some (AL.inj τ y)):Wf τ y:=by
 obtain⟨Ω,v,h⟩:=h
 cases h with
 |st _ _ v hv=>
  obtain⟨vs,_,hl⟩:=hv.agg_inv
  have hj:j<vs.length:=by
   rw[<-hl.1];rcases Nv j (cells (.st n) x).length with k|k
   ·exact k
   ·rw[Nd k]at hc;cases hc
  exact⟨Ω,_,hl.2 j _ _ hc (N9 hj)⟩
theorem Wf.names{s:Shape}(h:Wf (.st .shape) s):Wf (.lst .str) s.names:=h.cell 3 (τ:=.lst .str) (y:=s.names) rfl
theorem Wf.parts{s:Shape}(h:Wf (.st .shape) s):Wf (.lst (.st .shape)) s.parts:=h.cell 4 (τ:=.lst (.st .shape)) (y:=s.parts) rfl
theorem Wf.term_parts{x:Trm}(h:Wf (.st .term) x):Wf (.lst (.st .term)) x.parts:=(h.cell 7 (τ:=.lst (.st .term)) (y:=x.parts) rfl)
theorem WfL.cons{a:AV}{l:List AV}(h:WfL (a::l)):(∃Ω v,V Ω a v)/\WfL l:=by
 obtain⟨Ω,vs,h⟩:=h;rcases h.cases with⟨e,_⟩|⟨c,cs,v,vs',e,_,h1,h2⟩
 ·cases e
 ·cases e;exact⟨⟨Ω,v,h1⟩,Ω,vs',h2⟩
theorem WfL.one{τ:Ty}{x:den τ}{l:List AV}(h:WfL (inj τ x::l)):Wf τ x:=h.cons.1
theorem WfL.two{a:AV}{τ:Ty}{x:den τ}{l:List AV}(h:WfL (a::inj τ x::l)):Wf τ x:=h.cons.2.cons.1
theorem WfL.three{a b:AV}{τ:Ty}{x:den τ}{l:List AV}(h:WfL (a::b::inj τ x::l)):Wf τ x:=h.cons.2.cons.2.cons.1
section
variable [Tabs]
variable {P:Program}
theorem ax.wf{f:Nat}{args:List AV}{S:List (Nat×SObj)}{A:Ans}(h:WfL args->ax P f args S A):ax P f args S A:=
 fun w pub e vs hp ht hv hs hd hi=>h ⟨_,vs,hv⟩ w pub e vs hp ht hv hs hd hi
theorem ax.args{f:Nat}{args args':List AV}{S:List (Nat×SObj)}{A:Ans}(ha:RdL args args')(h:ax P f args' S A):ax P f args S A:=
 fun w pub e vs hp ht hv hs hd hi=>h w pub e vs hp ht (hv.rd ha) hs hd hi
abbrev Pat:=List AV->List (Nat×SObj)->Option Ans
def ny:List (Nat×Pat)->Nat->Pat
 |[],_=>fun _ _=>none
 |(i,g)::l,f=>fun args S=>
  match Nat.beq i f with
  |true=>(match g args S with|some A=>some A|none=>ny l f args S)
  |false=>ny l f args S
def ae(P:Program)(f:Nat)(g:Pat):Prop:=
 ∀args S A,g args S=some A->(∀q,A.ob=some q->q)->(au S).all cU=true->aw P f/\ax P f args S A
theorem vd:dM P (ny []):=fun f args S A h=>by simp[ny]at h
theorem sw{f:Nat}{g:Pat}{l:List (Nat×Pat)}(h:ae P f g)(hl:dM P (ny l)):dM P (ny ((f,g)::l)):=by
 intro f' args S A hA ho hk;simp only[ny]at hA;split at hA
 ·rename_i hb;have e:f=f':=Nx hb;subst e;split at hA
  ·rename_i A' hg;simp at hA;subst hA;exact h args S A' hg ho hk
  ·exact hl f args S A hA ho hk
 ·exact hl f' args S A hA ho hk
def p1(τ:Ty)(F:den τ->Ans):Pat
 |[a],[]=>(match arg τ a with|some a=>some (F a)|none=>none)
 |_,_=>none
def p2(τ σ:Ty)(F:den τ->den σ->Ans):Pat
 |[a,b],[]=>(match arg τ a,arg σ b with|some a,some b=>some (F a b)|_,_=>none)
 |_,_=>none
def pf(τ:Ty)(n:Nat)(F:den τ->Ans):Pat
 |[a,.fn f []],[]=>(match Nat.beq f n with|true=>(match arg τ a with|some a=>some (F a)|none=>none)|false=>none)
 |_,_=>none
def pff(τ σ:Ty)(n:Nat)(F:den τ->den σ->Ans):Pat
 |[a,b,.fn f []],[]=>(match Nat.beq f n with|true=>(match arg τ a,arg σ b with|some a,some b=>some (F a b)|_,_=>none)|false=>none)
 |_,_=>none
def p3(τ σ ρ:Ty)(F:den τ->den σ->den ρ->Ans):Pat
 |[a,b,c],[]=>(match arg τ a,arg σ b,arg ρ c with|some a,some b,some c=>some (F a b c)|_,_,_=>none)
 |_,_=>none
theorem Rd.arg{τ:Ty}{a:AV}{x:den τ}(h:AL.arg τ a=some x):Rd a (inj τ x):=fun _ _ hv=>Mm hv h
theorem bX{f:Nat}{τ:Ty}{F:den τ->Ans}(he:aw P f)(h:∀x,Wf τ x->(∀q,(F x).ob=some q->q)->ax P f [inj τ x] [] (F x)):ae P f (p1 τ F):=by
 intro args S A hA ho _;unfold p1 at hA;split at hA
 ·split at hA
  ·rename_i x hx;simp at hA;subst hA;exact⟨he,ax.args (.cons (Rd.arg hx) .nil) (ax.wf fun hw=>h x hw.one ho)⟩
  ·cases hA
 ·cases hA
theorem fB{f:Nat}{τ σ:Ty}{F:den τ->den σ->Ans}(he:aw P f)
 (h:∀x y,Wf τ x->Wf σ y->(∀q,(F x y).ob=some q->q)->ax P f [inj τ x,inj σ y] [] (F x y)):ae P f (p2 τ σ F):=by
 intro args S A hA ho _;unfold p2 at hA;split at hA
 ·split at hA
  ·rename_i x y hx hy;simp at hA;subst hA;exact⟨he,ax.args (.cons (Rd.arg hx) (.cons (Rd.arg hy) .nil)) (ax.wf fun hw=>h x y hw.one hw.two ho)⟩
  ·cases hA
 ·cases hA
theorem oN{f:Nat}{τ:Ty}{n:Nat}{F:den τ->Ans}(he:aw P f)(h:∀x,Wf τ x->(∀q,(F x).ob=some q->q)->ax P f [inj τ x,.fn n []] [] (F x)):ae P f (pf τ n F):=by
 intro args S A hA ho _;unfold pf at hA;split at hA
 ·split at hA
  ·rename_i hb;have e:=Nx hb;subst e;split at hA
   ·rename_i x hx;simp at hA;subst hA;exact⟨he,ax.args (.cons (Rd.arg hx) (.cons (Rd.refl _) .nil)) (ax.wf fun hw=>h x hw.one ho)⟩
   ·cases hA
  ·cases hA
 ·cases hA
theorem Bt{f:Nat}{τ σ:Ty}{n:Nat}{F:den τ->den σ->Ans}(he:aw P f)
 (h:∀x y,Wf τ x->Wf σ y->(∀q,(F x y).ob=some q->q)->ax P f [inj τ x,inj σ y,.fn n []] [] (F x y)):ae P f (pff τ σ n F):=by
 intro args S A hA ho _;unfold pff at hA;split at hA
 ·split at hA
  ·rename_i hb;have e:=Nx hb;subst e;split at hA
   ·rename_i x y hx hy;simp at hA;subst hA;exact⟨he,ax.args (.cons (Rd.arg hx) (.cons (Rd.arg hy) (.cons (Rd.refl _) .nil))) (ax.wf fun hw=>h x y hw.one hw.two ho)⟩
   ·cases hA
  ·cases hA
 ·cases hA
end
end Go.AL
end
section
namespace Go.AL
theorem b8{α:Type}(l:List α)(k:Nat)(d:α)(h:k<l.length):l.drop k=l.getD k d::l.drop (k+1):=by rw[P0 h];simp[Nb,h]
theorem bT{α:Type}(l:List α)(k:Nat)(d:α)(h:k<l.length):l.getD k d∈l:=by simp[Nb,h]
theorem kx{α:Type}(l:List α)(k:Nat)(d:α)(h:k<l.length):l.take (k+1)=l.take k++[l.getD k d]:=by rw[List.take_succ_eq_append_getElem h];simp[Nb,h]
theorem aK{n:Int}(h1:-9223372036854775808<=n)(h2:n<=9223372036854775807):inR .i64 n:=by constructor<;>simp[IntKind.min,IntKind.max,IntKind.signed,IntKind.bits]<;>omega
theorem cO{n m:Nat}(h1:n<m)(h2:m<=9223372036854775807):inR .i64 ((n:Int)+1):=aK (by omega) (by omega)
theorem mb{p:Prop}[Decidable p]:(decide p=true)=p:=by simp
theorem a6{c p q:Prop}[Decidable c](h1:c->p)(h2:¬c->q):if c then p else q:=by
 by_cases h:c
 ·rw[N6 h];exact h1 h
 ·rw[N3 h];exact h2 h
abbrev lH(α:Type):List α:=[]
theorem Hb[Tabs]{P:Program}{C:Cfg}(hm:P.follows .mixedOrders=true)(hT:cq P C.tbl)(hS:dM P C.spec){ann:An}{f:Nat}{fn:Func}(hf:P.funcs[f]?=some fn)
 {args:List AV}{S:List (Nat×SObj)}{A:Ans}{Q:Prop}(q:Q)(h:fwp C ann fn args S A=Q):ax P f args S A:=Ek hm hT hS hf (h.mpr q)
end Go.AL
end
section
namespace Go.AL
variable [Tabs]
open Go.ChangeShapes Go.WideShapes Go.RowKit
def Dq(w:World)(b o:Nat):Prop:=∃v,w.cell? ⟨b,o,none⟩=some v
def Om0(w:World):Om:=⟨fun _=>none,w,Dq w⟩
theorem El{P:Program}{f:Nat}{args:List AV}(h:ax P f args [] (.ret (.bool true))){w:World}{vs:List Value}(htab:∀b o v,Tabs.tab b o v->w.cell? ⟨b,o,none⟩=some v)(hobj:∀b x,Tabs.obj b x->w.heap[b]?=some x)(hv:VL (Om0 w) args vs) :
  Calls P f vs.toArray w fun e w'=>e=.returned (.bool true)/\RowKit.Below w.heap.size w w':=by
 refine Calls.mono (h w (Dq w) (fun _=>none) vs (fun _ _ h=>h) ⟨fun b o v ht=>⟨⟨v,htab b o v ht⟩,htab b o v ht⟩,fun b x hx=>⟨hobj b x hx,fun o ⟨_,_,hc,_⟩=>by cases hc⟩⟩ hv (fun id o ho=>by simp[aE]at ho) (fun _ _=>rfl) (fun i j c d b o hc=>by cases hc)) ?_;intro e w' hq;obtain⟨pub',e',hq⟩:=hq
 cases e with
 |returned v=>obtain⟨_,hv,ha⟩:=hq;have:=hv.bool_inv;subst this;exact⟨rfl,ha.os,ha.tape,ha.output,ha.size,fun b hb=>ha.block b hb fun o ⟨id,c,hc,_⟩=>by cases hc⟩
 |panicked ch=>obtain⟨pv,u,v,hp,_⟩:=hq;cases hp
 |outgrown=>exact hq.elim
section
variable {H:Type} {enc:TypeId×Value->H} {P:Program}
theorem nz(hl:laidOutB P=true){W W':World}(hb:Below W.heap.size W W'){sp:Nat->Bool}:∀{ts:List TypeId} {vs:List Value} {ds:List (DataW H)} {p:List MemPlace},
  (∀t∈ts,P.readableRec t=true/\t<P.types.size)->DataW.TrodAll enc P W 0 (fun _=>true) true ts vs ds p->(∀x∈p,x.block<W.heap.size)->(∀x∈p,sp x.block=true)->DataW.TrodAll enc P W' 0 sp true ts vs ds p
 |[],_,_,_,_,h,_,_=>by obtain⟨rfl,rfl,rfl⟩:=trodAll_nil h;exact h
 |t::ts,_,_,_,hr,h,hlt,hsp=>by
  obtain⟨v,vs,d,ds,p,q,rfl,rfl,rfl,h1,h2⟩:=trodAll_cons h;obtain⟨r1,r2⟩:=hr t (by simp)
  exact⟨p,q,WideElems.Trod_stays hl r1 r2 h1 (fun x hx=>hb.same (hlt x (by simp[hx]))) (fun x hx=>hsp x (by simp[hx])),
   nz hl hb (fun t ht=>hr t (by simp[ht])) h2 (fun x hx=>hlt x (by simp[hx])) (fun x hx=>hsp x (by simp[hx])),rfl⟩
theorem Hc(hl:laidOutB P=true){f:Func}{s:ChangeSpec}{apart fresh handsOn again:Bool}{W W':World}{args:Array Value}{ds gs:List (DataW H)}{before:List MemPlace}{tb:TypeId}
 (hr:∀t∈f.params.toList,P.readableRec t=true/\t<P.types.size)(hvars:s.vars=[])(hfn:∀ds:List (DataW H),ds.length=f.params.size->s.fn H ds={results:=[.lit (.bool true)],args:=ds})(hrt:f.resultTypes=#[tb])(htb:P.underlying tb=some .bool)
 (hW:DataW.Whole enc P f.params.toList s.vars apart W args.toList ds gs before)(hb:Below W.heap.size W W'):s.post enc P f apart fresh handsOn again W args (.bool true) W':=by
 have hlt:∀p∈before,p.block<W.heap.size:=fun p hp=>hW.lt p hp;have hW0:=hW;obtain⟨p,q,hA,hV,e,hz,hn⟩:=hW;rw[hvars]at hV;obtain⟨rfl,rfl⟩:=trodVars_none hV;rw[OD]at e;subst e
 have hlen:ds.length=f.params.size:=by
  have:∀{ts:List TypeId} {vs:List Value} {ds:List (DataW H)} {p:List MemPlace},DataW.TrodAll enc P W 0 (fun _=>true) true ts vs ds p->ds.length=ts.length:=by
   intro ts
   induction ts with
   |nil=>intro vs ds p h;obtain⟨rfl,rfl,rfl⟩:=trodAll_nil h;rfl
   |cons t ts ih=>intro vs ds p h;obtain⟨v,vs,d,ds,p,q,rfl,rfl,rfl,h1,h2⟩:=trodAll_cons h;simp[ih h2]
  simpa using this hA
 have hf:=hfn ds hlen;have hs:∀sp:Nat->Bool,(∀x∈before,sp x.block=true)->DataW.TrodAll enc P W' 0 sp true f.params.toList args.toList ds before:=fun sp hsp=>nz hl hb hr hA hlt hsp;have hres:∀(b:Nat)(sp:Nat->Bool)(hd:Bool),DataW.TrodAll enc P W' b sp hd f.resultTypes.toList ((Value.bool true).resultList f.resultTypes.size) [.lit (.bool true)] []:=by intro b sp hd;rw[hrt];exact trodAll_cons_mk (shut_bool htb true) trodAll_mk0
 have hvs:DataW.TrodVars enc P W' (fun b=>decide (b<W.heap.size)) s.vars [] []:=by rw[hvars];rfl
 refine⟨ds,[],before,[],before,[],hW0,?_,?_,?_,World.keptBut_mono (fun x hx=>⟨hx,.inr (.inl hx)⟩) (hb.frame (·∈before)),fun _=>⟨?_,?_⟩⟩
 ·rw[OD,hf];exact hres _ _ _
 ·rw[OD,hf];exact hs _ fun x hx=>by simpa using hlt x hx
 ·rw[OD,hf];exact hvs
 ·intro j t r h1 h2;rw[hrt]at h1 h2
  cases j with
  |zero=>
   simp at h1;subst h1;have:r=.bool true:=by simp[Value.resultList]at h2;exact h2.symm
   subst this;simp[Value.okWide,htb,Cell.okWide,Cell.ok]
  |succ j=>simp at h1
 ·refine⟨[.lit (.bool true)]++ds,[],[]++before,⟨[]++before,[],trodAll_append (hs _ fun _ _=>rfl) (hres _ _ _),by rw[hvars];rfl,by simp,fun b off hp=>?_,fun ha=>by simpa using hn ha⟩,fun x hx _=>by simpa using hx⟩;have hin:MemPlace.cell b off∈before:=by simpa using hp
  rw[hb.frozen (p:=⟨b,off,none⟩) (hlt _ hin)];exact hz b off hin
variable {w:World} {base:Nat} {sp:Nat->Bool} {held:Bool}
end
end Go.AL
end
section
namespace Go.AL
variable [Tabs]
open Go.ChangeShapes Go.WideShapes Go.RowKit
variable {H:Type} {enc:TypeId×Value->H} {P:Program} {w:World} {base:Nat} {held:Bool}
structure ShapeAt(P:Program)(t:TypeId):Prop where
 ex:∃(f0 f1 f2 f3 f4:Field)(e:TypeId),P.underlying t=some (.struct #[f0,f1,f2,f3,f4])/\P.cellsOf t=5/\
  (f0.offset=0/\f1.offset=1/\f2.offset=2/\f3.offset=3/\f4.offset=4)/\
  (P.cellsOf f0.type=1/\P.cellsOf f1.type=1/\P.cellsOf f2.type=1/\P.cellsOf f3.type=1/\P.cellsOf f4.type=1)/\
  P.underlying f0.type=some (.int .i64)/\P.underlying f1.type=some .string/\P.underlying f2.type=some .string/\P.underlying f3.type=some (.slice e)/\P.underlying e=some .string/\P.cellsOf e=1/\P.underlying f4.type=some (.slice t)
structure ItemAt(P:Program)(t:TypeId):Prop where
 ex:∃(f0 f1 f2:Field),P.underlying t=some (.struct #[f0,f1,f2])/\P.cellsOf t=7/\(f0.offset=0/\f1.offset=1/\f2.offset=2)/\
  (P.cellsOf f0.type=1/\P.cellsOf f1.type=1/\P.cellsOf f2.type=5)/\P.underlying f0.type=some (.int .i64)/\P.underlying f1.type=some .string/\ShapeAt P f2.type
end Go.AL
end
section
namespace Go.AL
open Go.ChangeShapes Go.WideShapes Go.RowKit
abbrev mc(w:World):Tabs:=⟨fun b o v=>b<3/\w.cell? ⟨b,o,none⟩=some v,fun b x=>b=3/\w.heap[b]?=some x⟩
variable [Tabs]
variable {H:Type} {enc:TypeId×Value->H} {P:Program} {w:World} {base:Nat} {held:Bool}
structure TokAt(P:Program)(t:TypeId):Prop where
 ex:∃(f0 f1 f2:Field),P.underlying t=some (.struct #[f0,f1,f2])/\P.cellsOf t=3/\(f0.offset=0/\f1.offset=1/\f2.offset=2)/\
  (P.cellsOf f0.type=1/\P.cellsOf f1.type=1/\P.cellsOf f2.type=1)/\P.underlying f0.type=some (.int .i64)/\P.underlying f1.type=some .string/\P.underlying f2.type=some (.int .i64)
theorem He{t:TypeId}(ht:P.underlying t=some .string){r:Reach}{b0:Nat}{v:Value}{d:DataW H}{ps:List MemPlace}(hv:Value.okWide P w r b0 t v)(h:DataW.Trod enc P w base (fun _=>true) held t v d ps):∃s:Str,V (Om0 w) (.str s) v:=by
 obtain⟨s,rfl,_,_,hw⟩:=Go.ChangeMaps.open_string ht hv h;have e:s=⟨s.data.toList.toArray⟩:=by cases s;simp
 have hl:s.data.toList.length<=cm:=by have:s.data.size=s.size:=rfl;unfold maxLen at hw;unfold cm;simp only[Pb,this];omega
 have:=V.str (Ω:=Om0 w) s.data.toList hl;rw[<-e]at this;exact⟨_,this⟩
end Go.AL
end
section
namespace Go.AL
variable [Tabs]
theorem bH.blk{Ω:Om}{own:Nat->Nat->Prop}{id:Nat}{ob:SObj}(hs:bH Ω own id ob){c:CObj}(hc:Ω.e id=some c){b o:Nat}(hb:occ c b o):b<Ω.w.heap.size:=by
 cases ob with
 |box x=>
  obtain⟨b',off,he,hh⟩:=hs;rw[he]at hc;simp only[Xs]at hc;subst hc;obtain⟨rfl,h1,h2⟩:=hb;have hj:o-off<(aa x).length:=by omega
  obtain⟨_,_,_,v,hv,_⟩:=hh (o-off) _ (N9 hj);exact b7 hv
 |tail τ n=>obtain⟨base,cap,he,_,_,_,hb'⟩:=hs;rw[he]at hc;simp only[Xs]at hc;subst hc;obtain⟨_,vs,ty,fz,hh,_⟩:=hb' b hb;exact gS hh
 |bld t u l=>obtain⟨b0,g,he,_,hh⟩:=hs;rw[he]at hc;simp only[Xs]at hc;subst hc;exact hh.lt hb
 |tailp τ n x=>
  obtain⟨b0,cap,he,_,_,_,⟨vs,ty,fz,hh,_⟩,_⟩:=hs;rw[he]at hc;simp only[Xs]at hc;subst hc;have:b0=b:=by simpa[occ]using hb
  subst this;exact gS hh
def sx(e:Nat->Option CObj)(k b o:Nat):Prop:=∃c,e k=some c/\occ c b o
theorem After.slot{w w':World}{pub:Nat->Nat->Prop}{e:Nat->Option CObj}{S:List (Nat×SObj)}
 (hp:kh w pub)(hs:∀id o,aE S id=some o->bH ⟨e,w,pub⟩ (fun _ _=>True) id o)(hd:∀id,aE S id=none->e id=none)(hi:Inj e)
 {k:Nat}{obj:SObj}{c:CObj}{Q:Nat->Nat->Prop}
 (os:w'.os=w.os)(tape:w'.tape=w.tape)(output:w'.output=w.output)(size:w.heap.size<=w'.heap.size)
 (block:∀b,b<w.heap.size->(∀o,¬sx e k b o)->w'.heap[b]?=w.heap[b]?)
 (cell:∀b o,b<w.heap.size->¬sx e k b o->w'.cell? ⟨b,o,none⟩=w.cell? ⟨b,o,none⟩)
 (kind:∀b,b<w.heap.size->¬(∀o,sx e k b o)->w'.shape? b=w.shape? b/\∀o,w'.frozen? ⟨b,o,none⟩=w.frozen? ⟨b,o,none⟩)
 (hpub:∀b o,pub b o->w'.cell? ⟨b,o,none⟩=w.cell? ⟨b,o,none⟩)
 (hQ:∀b o,Q b o->w.heap.size<=b/\∃v,w'.cell? ⟨b,o,none⟩=some v)
 (hle:∀c0,e k=some c0->CLe c0 c)(hnew:∀b o,occ c b o->w.heap.size<=b∨sx e k b o)
 (hobj:Ext ⟨e,w,pub⟩ ⟨fun i=>if k=i then some c else e i,w',fun b o=>pub b o∨Q b o⟩->
   bH ⟨fun i=>if k=i then some c else e i,w',fun b o=>pub b o∨Q b o⟩ (fun b o=>w.heap.size<=b∨nh e b o) k obj) :
  After w pub e (aE (putB S [(k,obj)])) w' (fun b o=>pub b o∨Q b o) (fun i=>if k=i then some c else e i):=by
 have blk:∀{id c b o},e id=some c->occ c b o->b<w.heap.size:=by
  intro id c b o hc ho
  cases hg:aE S id with
  |none=>rw[hd id hg]at hc;cases hc
  |some ob=>exact(hs id ob hg).blk (Ω:=⟨e,w,pub⟩) hc ho
 have hx:Ext ⟨e,w,pub⟩ ⟨fun i=>if k=i then some c else e i,w',fun b o=>pub b o∨Q b o⟩:=by
  refine⟨fun id c' hc'=>?_,fun b o h=>Or.inl h,fun b o h=>hpub b o h⟩;by_cases hid:k=id
  ·subst hid;exact⟨c,by simp,hle c' hc'⟩
  ·exact⟨c',by simp only[N3 hid];exact hc',CLe.refl _⟩
 have toL:∀{b o},sx e k b o->nh e b o:=fun⟨c,h1,h2⟩=>⟨k,c,h1,h2⟩;have stay:∀{id c' b o},k≠id->e id=some c'->occ c' b o->¬sx e k b o:=by rintro id c' b o hid hc ho ⟨c0,h1,h2⟩;exact hid (hi k id c0 c' b o h1 hc h2 ho)
 refine⟨os,tape,output,size,fun b hb h=>block b hb fun o ho=>h o (toL ho),fun b o hb h=>cell b o hb fun ho=>h (toL ho),
  fun b hb h=>kind b hb fun ho=>h fun o=>toL (ho o),hx,fun b o h=>?_,fun b o h=>?_,fun id o h=>?_,fun id h=>?_,?_⟩
 ·rcases h with h|h
  ·exact Or.inl h
  ·exact Or.inr (Or.inl (hQ b o h).1)
 ·rcases h with h|h
  ·obtain⟨v,hv⟩:=hp b o h;exact⟨v,(hpub b o h).trans hv⟩
  ·exact(hQ b o h).2
 ·rw[je,jc]at h;by_cases hid:k=id
  ·subst hid;simp only[NS]at h;cases h;exact hobj hx
  ·simp only[N3 hid]at h;have h0:=hs id o h;refine bH.own_of (bH.keep h0 hx (by simp only[N3 hid]) fun c' hc'=>?_) (fun c' b o hc ho=>?_)
   ·have hc':e id=some c':=hc'
    cases c' with
    |box b off len=>
     intro oo h1 h2;have ho:occ (.box b off len) b oo:=⟨rfl,h1,h2⟩;refine⟨cell b oo (blk hc' ho) (stay hid hc' ho),(kind b (blk hc' ho) fun hall=>stay hid hc' ho (hall oo)).2 oo,fun hp'=>?_⟩;rcases hp' with hp'|hp'
     ·exact hp'
     ·have:=(hQ _ _ hp').1;have:=blk hc' ho;omega
    |tail n base cap=>
     intro b hb;have ho:∀oo,occ (.tail n base cap) b oo:=fun _=>hb;refine⟨block b (blk hc' (ho 0)) fun oo=>stay hid hc' (ho oo),fun oo hp'=>?_⟩;rcases hp' with hp'|hp'
     ·exact hp'
     ·have:=(hQ _ _ hp').1;have:=blk hc' (ho 0);omega
    |bld b g=>
     intro b' hb';have ho:∀oo,occ (.bld b g) b' oo:=fun _=>hb';refine⟨block b' (blk hc' (ho 0)) fun oo=>stay hid hc' (ho oo),fun oo hp'=>?_⟩;rcases hp' with hp'|hp'
     ·exact hp'
     ·have:=(hQ _ _ hp').1;have:=blk hc' (ho 0);omega
   ·simp only[N3 hid]at hc;exact Or.inr ⟨id,c',hc,ho⟩
 ·rw[je,jc]at h;by_cases hid:k=id
  ·simp[hid]at h
  ·simp only[N3 hid]at h⊢;exact hd id h
 ·intro i j ci cj b o hci hcj hoi hoj;simp only at hci hcj;by_cases h1:k=i<;>by_cases h2:k=j
  ·omega
  ·simp only[N6 h1,N3 h2,Xs]at hci hcj;subst hci;rcases hnew b o hoi with h|h
   ·have:=blk hcj hoj;omega
   ·exact absurd h (stay h2 hcj hoj)
  ·simp only[N3 h1,N6 h2,Xs]at hci hcj;subst hcj;rcases hnew b o hoj with h|h
   ·have:=blk hci hoi;omega
   ·exact absurd h (stay h1 hci hoi)
  ·simp only[N3 h1,N3 h2]at hci hcj;exact hi i j ci cj b o hci hcj hoi hoj
theorem After.fresh1{w w':World}{pub:Nat->Nat->Prop}{e:Nat->Option CObj}{S:List (Nat×SObj)}
 (hp:kh w pub)(hs:∀id o,aE S id=some o->bH ⟨e,w,pub⟩ (fun _ _=>True) id o)(hd:∀id,aE S id=none->e id=none)(hi:Inj e)
 {k:Nat}{obj:SObj}{c:CObj}(hb:RowKit.Below w.heap.size w w')(hk:aE S k=none)(hnew:∀b o,occ c b o->w.heap.size<=b)
 (hobj:bH ⟨fun i=>if k=i then some c else e i,w',fun b o=>pub b o∨False⟩ (fun b o=>w.heap.size<=b∨nh e b o) k obj) :
  After w pub e (aE (putB S [(k,obj)])) w' (fun b o=>pub b o∨False) (fun i=>if k=i then some c else e i):=
 After.slot hp hs hd hi (Q:=fun _ _=>False) hb.os hb.tape hb.output hb.size (fun b h _=>hb.block b h) (fun b o h _=>aF (hb.block b h) o)
  (fun b h _=>⟨bZ (hb.block b h),fun o=>bC (hb.block b h) o⟩)
  (fun b o h=>by obtain⟨v,hv⟩:=hp b o h;exact aF (hb.block b (b7 hv)) o)
  (fun _ _ h=>h.elim) (fun c0 h=>by rw[hd k hk]at h;cases h) (fun b o h=>Or.inl (hnew b o h)) (fun _=>hobj)
theorem VL.one_inv{Ω:Om}{a:AV}{vs:List Value}(h:VL Ω [a] vs):∃v,vs=[v]/\V Ω a v:=by
 obtain⟨hl,h⟩:=h
 match vs,hl,h with
 |[v],_,h=>exact⟨v,rfl,h 0 a v rfl rfl⟩
theorem VL.two_inv{Ω:Om}{a b:AV}{vs:List Value}(h:VL Ω [a,b] vs):∃v u,vs=[v,u]/\V Ω a v/\V Ω b u:=by
 obtain⟨hl,h⟩:=h
 match vs,hl,h with
 |[v,u],_,h=>exact⟨v,u,rfl,h 0 a v rfl rfl,h 1 b u rfl rfl⟩
end Go.AL
end
section
namespace Go.AL
variable [Tabs]
open Go.Proofs Go.Shelf Go.RowKit
variable {P:Program} {ρ:Ren}
structure But(w w':World)(b:Nat)(g:Option Nat):Prop where
 os:w'.os=w.os
 tape:w'.tape=w.tape
 output:w'.output=w.output
 size:w.heap.size<=w'.heap.size
 block:∀k,k<w.heap.size->k≠b->g≠some k->w'.heap[k]?=w.heap[k]?
theorem But.refl(w:World)(b:Nat)(g:Option Nat):But w w b g:=⟨rfl,rfl,rfl,Nf _,fun _ _ _ _=>rfl⟩
theorem But.drew{w w':World}{b:Nat}{g:Option Nat}(h:But w w' b g):But w w'.drew b g:=⟨h.os,h.tape,h.output,h.size,h.block⟩
theorem But.set{w w':World}{b:Nat}{g:Option Nat}(h:But w w' b g)(o:Nat)(v:Value):But w (w'.setCell ⟨b,o,none⟩ v) b g:=
 ⟨h.os,h.tape,h.output,by simpa using h.size,fun k h1 h2 h3=>(Below.heap_setCell w' ⟨b,o,none⟩ v k h2).trans (h.block k h1 h2 h3)⟩
theorem But.grown{w w' w2:World}{b:Nat}{g:Option Nat}(h:But w w' b g)(k:w'.grownBy w2 g):But w w2 b g:=
 ⟨k.os.trans h.os,k.tape.trans h.tape,k.output.trans h.output,NG h.size k.size,fun j h1 h2 h3=>(k.block j (Pl h1 h.size) fun e=>h3 e.symm).trans (h.block j h1 h2 h3)⟩
theorem But.freeze{w w':World}{b g:Nat}(h:But w w' b (some g))(n:Nat):But w (w'.freeze ⟨g,0,none⟩ n) b (some g):=by
 unfold World.freeze;split
 ·exact h
 ·refine⟨h.os,h.tape,h.output,by simpa using h.size,fun k h1 h2 h3=>?_⟩;simp only[Oj];rw[N3 (fun e=>h3 (by rw[e]))];exact h.block k h1 h2 h3
theorem uw(s:Str):Lib.strCells ⟨s.toArray⟩=Lib.byteCells s:=by simp[Lib.strCells,Lib.byteCells]
structure CC(P:Program)(ρ:Ren):Prop where
 enters:∀args w,(callFunc (ρ.f 240) args).run P w=.ok (.enter (ρ.f 240) args) w
 used:∀(b:Nat)(w:World),w.cell? ⟨b,0,none⟩=some (.pointer (some ⟨b,0,none⟩))->Calls P (ρ.f 240) #[.pointer (some ⟨b,0,none⟩)] w fun e w'=>e=.returned (.tuple #[])/\w'=w
 fresh:∀(b:Nat)(w:World),w.cell? ⟨b,0,none⟩=some (.pointer none)->w.shape? b=some ((ρ.t 72),2)->w.frozen? ⟨b,0,none⟩=false->
  Calls P (ρ.f 240) #[.pointer (some ⟨b,0,none⟩)] w fun e w'=>e=.returned (.tuple #[])/\w'=w.setCell ⟨b,0,none⟩ (.pointer (some ⟨b,0,none⟩))
structure WL(P:Program)(ρ:Ren):Prop where
 mixed:P.follows .mixedOrders=true
 f166:P.funcs[ρ.f 166]?=some (Body.n166 ρ)
 t3:P.underlying (ρ.t 3)=some (TypeDesc.int IntKind.i64)
 a3:∀w,(isAgg (ρ.t 3)).run P w=.ok false w
 z3:∀w,(Go.sizeOf (ρ.t 3)).run P w=.ok 1 w
 v3:∀w,(zeroValue (ρ.t 3)).run P w=.ok (Value.int IntKind.i64 0) w
 t9:P.underlying (ρ.t 9)=some (TypeDesc.string)
 a9:∀w,(isAgg (ρ.t 9)).run P w=.ok false w
 z9:∀w,(Go.sizeOf (ρ.t 9)).run P w=.ok 1 w
 v9:∀w,(zeroValue (ρ.t 9)).run P w=.ok (Value.string {data:=#[]}) w
 t37:P.underlying (ρ.t 37)=some (TypeDesc.slice (ρ.t 5))
 a37:∀w,(isAgg (ρ.t 37)).run P w=.ok false w
 z37:∀w,(Go.sizeOf (ρ.t 37)).run P w=.ok 1 w
 v37:∀w,(zeroValue (ρ.t 37)).run P w=.ok (Value.slice none 0 0) w
 t70:P.underlying (ρ.t 70)=some (TypeDesc.pointer (ρ.t 72))
 a70:∀w,(isAgg (ρ.t 70)).run P w=.ok false w
 z70:∀w,(Go.sizeOf (ρ.t 70)).run P w=.ok 1 w
 v70:∀w,(zeroValue (ρ.t 70)).run P w=.ok (Value.pointer none) w
 t72:P.underlying (ρ.t 72)=some (TypeDesc.struct #[{name:= "addr",type:=ρ.t 70,offset:=0,embedded:=false,tag:= "",pkgPath:= "strings",byteOffset:=0},{name:= "buf",type:=ρ.t 37,offset:=1,embedded:=false,tag:= "",pkgPath:= "strings",byteOffset:=8}])
 a72:∀w,(isAgg (ρ.t 72)).run P w=.ok true w
 z72:∀w,(Go.sizeOf (ρ.t 72)).run P w=.ok 2 w
 v72:∀w,(zeroValue (ρ.t 72)).run P w=.ok (Value.agg #[Value.pointer none,Value.slice none 0 0]) w
set_option maxHeartbeats 2000000 in
set_option maxRecDepth 100000 in
theorem nA(C:CC P ρ)(b:Nat)(g:Option Nat)(l:Str)(w:World)(h:jb w (ρ.t 72) (ρ.t 5) b g l) :
  Calls P (ρ.f 240) #[.pointer (some ⟨b,0,none⟩)] w fun e w'=>e=.returned (.tuple #[])/\But w w' b g/\
   ∃v,v.ownBlock=g/\w'.heap[b]?=some (.cells #[.pointer (some ⟨b,0,none⟩),v] (ρ.t 72) (0,0))/\w'.ownsRowF 0 (ρ.t 5) 1 v l.length (Lib.byteCells l)/\g≠some b/\(l=[]->v=.slice none 0 0):=by
 obtain⟨p,v,h1,h2,h3,h4,h5,h6⟩:=h;rcases h2 with rfl|rfl
 ·refine(C.fresh b w (by rw[O0 h1];rfl) (by simp[World.shape?,h1]) (Qb h1 0)).mono ?_;rintro e w' ⟨rfl,rfl⟩;have hA:Lib.BuilderAtF (ρ.t 72) (ρ.t 5) 0 b (.pointer none) (Lib.byteCells l) w:=⟨Nt _,v,h1,by rwa [Of],by rw[h3];exact h4⟩;obtain⟨_,v',k1,k2,k3⟩:=hA.used (.pointer (some ⟨b,0,none⟩))
  have hv:v'=v:=by
   have e1:(w.setCell ⟨b,0,none⟩ (.pointer (some ⟨b,0,none⟩))).cell? ⟨b,1,none⟩=some v':=by rw[O0 k1];rfl
   have e2:w.cell? ⟨b,1,none⟩=some v:=by rw[O0 h1];rfl
   have e3:(w.setCell ⟨b,0,none⟩ (.pointer (some ⟨b,0,none⟩))).cell? ⟨b,1,none⟩=w.cell? ⟨b,1,none⟩:=by simp[World.cell?,World.setCell,h1,Oj]
   rw[e3,e2]at e1;exact(O1 e1).symm
  subst hv;exact⟨rfl,(But.refl w b g).set 0 _,v',h3,k1,by rwa [Of]at k2,h4,h6⟩
 ·refine(C.used b w (by rw[O0 h1];rfl)).mono ?_;rintro e w' ⟨rfl,rfl⟩;exact⟨rfl,But.refl _ _ _,v,h3,h1,h5,h4,h6⟩
theorem wE{w:World}(t u ty e:TypeId)(i:TypeInfo)(ht:P.underlying t=some (.slice e))(hu:P.underlying u=some .string)(hi:P.info? e=some i)(hz:i.zero=some (.int .u8 0))
 (hsize:i.size=1)(hby:i.bytes=1)(v:Value)(n:Nat)(xs:List Value)(hown:w.ownsRowF 0 e 1 v n xs)(s:ByteArray)
 (h63:n+s.size<=maxLen)(hbytes:n+s.size<=140737488355328){v':Value}{w':World}(hr:(Builtin.append_ #[t,u] ty #[v,.string s]).run P w=.ok v' w') :
  ∀k,v'.ownBlock=some k->v.ownBlock=some k∨w.heap.size<=k:=by
 intro k hk;rcases hown.2 with⟨rfl,rfl⟩|⟨g,cap,cur,fz,rfl,hbg,hg,hfz,hnc,hcm,hcs,htake⟩
 ·obtain⟨v2,w2,h1,h2,_,_⟩:=Lib.run_append_own_string (P:=P) w w.heap.size t u ty e i ht hu hi hz hsize hby (.slice none 0 0) 0 xs ⟨hown.1,.inl ⟨rfl,rfl⟩⟩ s h63 hbytes (Nf _);rw[hr]at h1;cases h1;exact .inr (h2.lt k hk).1
 ·have hsmall:n+s.size<=9223372036854775807:=by simp only[maxLen]at h63;omega
  by_cases hroom:n+s.size<=cap
  ·have hcs':cur.size=cap:=by simpa using hcs
   have h1:=Lib.run_append_room_stringF (P:=P) w t u ty e i ht hu hi hsize g n cap cur fz hg (by simpa using hfz) s hroom (by omega);rw[hr]at h1;cases h1;exact .inl hk
  ·have hxl:xs.length=n:=by simpa using hown.1
   have holds:∀j u,xs[j]?=some u->w.cell? ((⟨g,0,none⟩:Addr).add j)=some u:=hown.cells (g:=g) rfl;have h1:=Lib.run_append_grow_string (P:=P) w t u ty e i (.int .u8 0) ht hu hi hz ⟨g,0,none⟩ n cap xs (by rw[hsize];simpa using hxl) holds s (by omega) (by omega) (by rw[hby];exact PK (by omega) (by omega));rw[hr]at h1;cases h1;cases hk;exact .inr (Nf _)
theorem oO{ops:Array Oper}{rest:List Oper}{o:Oper}{a:Act}{w:World}{Q:Exit->Act->World->Prop}(hgd:o.guard=none)(sl x:Operand)(t u:TypeId)
 (ho:o.op=.call {callee:=.builtin .append,args:=#[sl,x],argTypes:=#[t,u]})
 (e:TypeId)(i:TypeInfo)(ht:P.underlying t=some (.slice e))(hu:P.underlying u=some .string)(hi:P.info? e=some i)(hz:i.zero=some (.int .u8 0))
 (hsize:i.size=1)(hby:i.bytes=1)
 (v:Value)(n:Nat)(xs:List Value)(hs:a.eval sl=v)(hown:w.ownsRowF 0 e 1 v n xs)(s:ByteArray)(hx:a.eval x=.string s)
 (h63:n+s.size<=maxLen)(hbytes:n+s.size<=140737488355328)
 (h:∀v' w',w'.ownsRowF 0 e 1 v' (n+s.size) (xs++Lib.strCells s)->w.grownBy w' v.ownBlock->(v'=.slice none 0 0↔v=.slice none 0 0/\s.size=0)->(∀k,v'.ownBlock=some k->v.ownBlock=some k∨w.heap.size<=k)->wpList P ops Q rest (a.put o.dst v') w'):wpList P ops Q (o::rest) a w:=by
 refine wpList_plain hgd fun K hK=>?_;obtain⟨v',w',hr,h2,h3,h4⟩:=Lib.run_append_own_stringF (P:=P) w 0 t u o.type e i ht hu hi hz hsize hby v n xs hown s h63 hbytes (Nt _);have hw:=wE t u o.type e i ht hu hi hz hsize hby v n xs hown s h63 hbytes hr;unfold Oper.wp execOp;simp only[ho,resolve,invoke,builtin,NA,NN,Nh,List.map_toArray,Nj,P6,hs,hx,hr];exact hK _ _ (h v' w' h2 h3 h4 hw)
set_option maxHeartbeats 2000000 in
set_option maxRecDepth 100000 in
theorem qV(L:WL P ρ)(C:CC P ρ)(X:Builder.Extra P ρ)(b:Nat)(g:Option Nat)(l s:Str)(w:World)(h:jb w (ρ.t 72) (ρ.t 5) b g l)(hlen:l.length+s.length<=140737488355328) :
  Calls P (ρ.f 166) #[.pointer (some ⟨b,0,none⟩),.string ⟨s.toArray⟩] w fun e w'=>e=.returned (.tuple #[.int .i64 s.length,.nilIface])/\But w w' b g/\
   ∃g',jb w' (ρ.t 72) (ρ.t 5) b g' (l++s)/\∀k,g'=some k->g=some k∨w.heap.size<=k:=by
 obtain⟨i0,hi,hz0,hz1,hz2⟩:=info_parts X.infoByte;have mixed:=L.mixed;have t72:=L.t72;have a72:=L.a72;have z72:=L.z72;have v72:=L.v72;have u72:=Ny L.t72;have t70:=L.t70;have a70:=L.a70;have z70:=L.z70;have v70:=L.v70;have u70:=Ny L.t70;have t37:=L.t37;have a37:=L.a37;have z37:=L.z37;have v37:=L.v37;have u37:=Ny L.t37;have t3:=L.t3;have a3:=L.a3;have z3:=L.z3;have v3:=L.v3;have u3:=Ny L.t3;have t9:=L.t9;have a9:=L.a9;have z9:=L.z9;have v9:=L.v9;have u9:=Ny L.t9;have t5:=X.t5;have a5:=X.a5;have z5:=X.z5;have v5:=X.v5;have u5:=Ny X.t5;have e240:=C.enters;have hss:(⟨s.toArray⟩:ByteArray).size=s.length:=by simp[ByteArray.size]
 rw[<-hss];rw[<-hss]at hlen
 go_enter L.f166,Body.n166_ntmps ρ
 go_wp2_with (go_at_fn (ρ.f 240);refine(nA C b g l _ h).mono ?_)
 rintro e w1 ⟨rfl,hb1,v,hvg,hbk,hown,hne,hem⟩;have c0:w1.cell? ⟨b,0,none⟩=some (.pointer (some ⟨b,0,none⟩)):=by rw[O0 hbk];rfl
 have c1:w1.cell? ⟨b,1,none⟩=some v:=by rw[O0 hbk];rfl
 go_wp2_with (at_builtin;refine oO rfl _ _ (ρ.t 37) (ρ.t 9) rfl (ρ.t 5) i0 L.t37 L.t9 hi hz0 hz1 hz2 _ _ _ rfl hown ⟨s.toArray⟩ rfl ?c3 ?c4 ?_)
 case c3=>unfold maxLen;omega
 case c4=>omega
 intro v' w2 hown' hgrow hnil hwh;have hlt:b<w1.heap.size:=(Ot.1 hbk).1;have hb2:w2.heap[b]?=some (.cells #[.pointer (some ⟨b,0,none⟩),v] (ρ.t 72) (0,0)):=by rw[hgrow.block b hlt (fun e=>hne (hvg ▸ e.symm))];exact hbk
 have d0:w2.cell? ⟨b,0,none⟩=some (.pointer (some ⟨b,0,none⟩)):=by rw[O0 hb2];rfl
 have d1:w2.cell? ⟨b,1,none⟩=some v:=by rw[O0 hb2];rfl
 have f1:w2.frozen? ⟨b,1,none⟩=false:=Qb hb2 1
 obtain⟨ao,n',cap,rfl⟩:∃ao n' cap,v'=.slice ao n' cap:=by
  rcases hown'.2 with⟨hv,_⟩|⟨g,cap,cur,fz,hv,_⟩
  ·exact⟨_,_,_,hv⟩
  ·exact⟨_,_,_,hv⟩
 go_wp2
 go_ret2
 have hcat:Lib.byteCells l++Lib.strCells ⟨s.toArray⟩=Lib.byteCells (l++s):=by rw[uw];simp[Lib.byteCells]
 have hA:Lib.BuilderAtF (ρ.t 72) (ρ.t 5) 0 b (.pointer (some ⟨b,0,none⟩)) (Lib.byteCells (l++s)) (w2.setCell ⟨b,1,none⟩ (.slice ao n' cap)):=
  Lib.BuilderAtF.put (T:=(ρ.t 72)) (e:=(ρ.t 5)) (Nt _) hb2 (bs':=Lib.byteCells (l++s)) (by rw[<-hcat,N5,Of,Lib.strCells_length];exact hown') X.neB5
 refine⟨rfl,(hb1.grown (hvg ▸ hgrow)).set 1 _,?_⟩;obtain⟨_,v2,k1,k2,k3⟩:=hA
 have hv2:v2=.slice ao n' cap:=by
  have e1:(w2.setCell ⟨b,1,none⟩ (.slice ao n' cap)).cell? ⟨b,1,none⟩=some v2:=by rw[O0 k1];rfl
  have e3:(w2.setCell ⟨b,1,none⟩ (.slice ao n' cap)).cell? ⟨b,1,none⟩=some (.slice ao n' cap):=by simp[World.cell?,World.setCell,hb2,Oj]
  rw[e3]at e1;exact(O1 e1).symm
 subst hv2;refine⟨_,⟨_,_,k1,.inr rfl,rfl,k3,by rwa [Of]at k2,fun e=>hnil.2 ⟨hem (List.append_eq_nil_iff.1 e).1,by rw[(List.append_eq_nil_iff.1 e).2]⟩⟩,fun k hk=>?_⟩;rcases hwh k hk with h'|h'
 ·exact .inl (hvg ▸ h')
 ·exact .inr (NG hb1.size h')
set_option maxHeartbeats 2000000 in
set_option maxRecDepth 100000 in
theorem Bu(L:Lays.n169 P ρ)(X:Builder.Extra P ρ)(b:Nat)(g:Option Nat)(l:Str)(w:World)(h:jb w (ρ.t 72) (ρ.t 5) b g l) :
  Calls P (ρ.f 169) #[.pointer (some ⟨b,0,none⟩)] w fun e w'=>e=.returned (.string ⟨l.toArray⟩)/\But w w' b g/\jb w' (ρ.t 72) (ρ.t 5) b g l:=by
 obtain⟨p,v,hbk,hp,hvg,hne,hown,hem⟩:=h;by_cases h0:l=[]
 ·obtain rfl:=hem h0;subst h0;refine(Any.Builder_String_nil L X w.heap.size b p w hbk).mono ?_;rintro e w' ⟨rfl,hb⟩;have hlt:b<w.heap.size:=(Ot.1 hbk).1;exact⟨rfl,⟨hb.os,hb.tape,hb.output,hb.size,fun k hk _ _=>hb.block k hk⟩,p,_,(hb.block b hlt).trans hbk,hp,hvg,hne,World.ownsRowF_nil _ _ _ _,fun _=>rfl⟩
 have hl0:l.length≠0:=by simpa using h0
 obtain⟨g',cap,cur,fz,rfl,hbg,hg,hfz,hnc,hcm,hcs,htake⟩:∃g cap cur fz,v=.slice (some ⟨g,0,none⟩) l.length cap/\0<=g/\w.heap[g]?=some (.cells cur (ρ.t 5) fz)/\fz.2<=l.length *1/\l.length<=cap/\cap<=maxLen/\cur.size=cap *1/\cur.toList.take (l.length *1)=Lib.byteCells l:=by
  rcases hown.2 with⟨_,hz⟩|⟨g,cap,cur,fz,hv,r⟩
  ·exact absurd hz hl0
  ·exact⟨g,cap,cur,fz,hv,r⟩
 obtain rfl:some g'=g:=hvg;have c1:w.drew.cell? ⟨b,1,none⟩=some (.slice (some ⟨g',0,none⟩) l.length cap):=by have:w.drew.heap[b]?=some (.cells #[p,.slice (some ⟨g',0,none⟩) l.length cap] (ρ.t 72) (0,0)):=hbk;rw[O0 this];rfl
 have hSD:(Builtin.unsafeSliceData_ #[(ρ.t 37)] (ρ.t 127) #[.slice (some ⟨g',0,none⟩) l.length cap]).run P w.drew=.ok (.pointer (some ⟨g',0,none⟩)) w.drew:=
  Lib.run_unsafeSliceData_row _ _ _ _ _ _ (by omega)
 have hUS:(Builtin.unsafeString_ #[(ρ.t 127),(ρ.t 3)] (ρ.t 9) #[.pointer (some ⟨g',0,none⟩),.int .i64 l.length]).run P w.drew=.ok (.string ⟨l.toArray⟩) (w.drew.freeze ⟨g',0,none⟩ l.length):=by refine Lib.run_unsafeString_row w.drew (ρ.t 127) (ρ.t 3) (ρ.t 9) (ρ.t 5) L.t127 X.cellsByte g' cur.size (by have hg':w.drew.heap[g']?=some (.cells cur (ρ.t 5) fz):=hg;simp[World.shape?,hg']) l h0 (by omega) (by unfold maxLen at hcm;omega) ?_;intro j x hx;have:=hown.cells (g:=g') rfl j (.int .u8 x.toNat) (by simp[Lib.byteCells,hx]);exact this
 have hA:Lib.BuilderAtF (ρ.t 72) (ρ.t 5) 0 b p (Lib.byteCells l) w.drew:=⟨Nt _,_,hbk,by rw[Of];exact hown,hne⟩;have hF:=hA.froze (g:=g') (cap:=cap) (by rw[Of];exact c1);rw[Of]at hF;have hbut:But w (w.drew.freeze ⟨g',0,none⟩ l.length) b (some g'):=(But.refl w b (some g')).drew.freeze _
 have hkeep:jb (w.drew.freeze ⟨g',0,none⟩ l.length) (ρ.t 72) (ρ.t 5) b (some g') l:=by
  obtain⟨_,v2,k1,k2,k3⟩:=hF;have hbg':b≠g':=fun e=>hne (by rw[e])
  have hv2:v2=.slice (some ⟨g',0,none⟩) l.length cap:=by
   have e1:(w.drew.freeze ⟨g',0,none⟩ l.length).cell? ⟨b,1,none⟩=some v2:=by rw[O0 k1];rfl
   have e2:(w.drew.freeze ⟨g',0,none⟩ l.length).heap[b]?=w.drew.heap[b]?:=by
    unfold World.freeze;split
    ·rfl
    ·simp only[Oj];rw[N3 (fun e=>hbg' e.symm)]
   rw[aF e2,c1]at e1;exact(O1 e1).symm
  subst hv2;exact⟨p,_,k1,hp,rfl,hne,by rwa [Of]at k2,fun e=>absurd e h0⟩
 have mixed:=L.mixed;have t72:=L.t72;have a72:=L.a72;have z72:=L.z72;have v72:=L.v72;have u72:=Ny L.t72;have t70:=L.t70;have a70:=L.a70;have z70:=L.z70;have v70:=L.v70;have u70:=Ny L.t70;have t37:=L.t37;have a37:=L.a37;have z37:=L.z37;have v37:=L.v37;have u37:=Ny L.t37;have t127:=L.t127;have a127:=L.a127;have z127:=L.z127;have v127:=L.v127;have u127:=Ny L.t127;have t3:=L.t3;have a3:=L.a3;have z3:=L.z3;have v3:=L.v3;have u3:=Ny L.t3;have t9:=L.t9;have a9:=L.a9;have z9:=L.z9;have v9:=L.v9;have u9:=Ny L.t9;have t5:=X.t5;have a5:=X.a5;have z5:=X.z5;have v5:=X.v5;have u5:=Ny X.t5
 go_enter L.f169,Body.n169_ntmps ρ
 go_wp2
 go_region_o
 all_goals (go_wp2;go_ret;exact⟨rfl,hbut,hkeep⟩)
theorem After.bld{w w':World}{pub:Nat->Nat->Prop}{e:Nat->Option CObj}{S:List (Nat×SObj)}
 (hp:kh w pub)(hs:∀id o,aE S id=some o->bH ⟨e,w,pub⟩ (fun _ _=>True) id o)(hd:∀id,aE S id=none->e id=none)(hi:Inj e)
 {k b:Nat}{g g':Option Nat}{t u t' u':Nat}{l l':Str}(hk:aE S k=some (.bld t u l))(he:e k=some (.bld b g))(hb:But w w' b g)(hB:jb w' t' u' b g' l')(hg:∀x,g'=some x->g=some x∨w.heap.size<=x) :
  After w pub e (aE (putB S [(k,.bld t' u' l')])) w' (fun b o=>pub b o∨False) (fun i=>if k=i then some (.bld b g')else e i):=by
 obtain⟨b0,g0,he0,hown,_⟩:=hs k _ hk;have he0:e k=some (.bld b0 g0):=he0;rw[he]at he0;cases he0;have off:∀{b' o},¬sx e k b' o->b'≠b/\g≠some b':=fun h=>⟨fun hb=>h ⟨_,he,.inl hb⟩,fun hg=>h ⟨_,he,.inr hg⟩⟩
 have hnew:∀b' o,occ (.bld b g') b' o->w.heap.size<=b'∨sx e k b' o:=by
  intro b' o ho;rcases ho with ho|ho
  ·exact .inr ⟨_,he,.inl ho⟩
  ·rcases hg b' ho with h|h
   ·exact .inr ⟨_,he,.inr h⟩
   ·exact .inl h
 refine After.slot hp hs hd hi (Q:=fun _ _=>False) hb.os hb.tape hb.output hb.size (fun b' h1 h2=>hb.block b' h1 (off (h2 0)).1 (off (h2 0)).2)
  (fun b' o h1 h2=>aF (hb.block b' h1 (off h2).1 (off h2).2) o) (fun b' h1 h2=>?_) (fun b' o h=>?_) (fun _ _ h=>h.elim) (fun c0 h=>?_) hnew (fun _=>?_)
 ·obtain⟨o,ho⟩:=Classical.not_forall.1 h2;have:=hb.block b' h1 (off ho).1 (off ho).2;exact⟨bZ this,fun o=>bC this o⟩
 ·obtain⟨v,hv⟩:=hp b' o h;refine aF (hb.block b' (b7 hv) (fun e=>?_) (fun e=>?_)) o
  ·exact(hown b' (.inl e) o).2 h
  ·exact(hown b' (.inr e) o).2 h
 ·rw[he]at h;cases h;exact rfl
 ·refine⟨b,g',by simp,fun b' hb' o=>⟨?_,fun h=>?_⟩,hB⟩
  ·rcases hnew b' o hb' with h|⟨c,h1,h2⟩
   ·exact .inl h
   ·exact .inr ⟨k,c,h1,h2⟩
  ·rcases h with h|h
   ·have h:pub b' o:=h;rcases hnew b' o hb' with h2|⟨c,h1,h2⟩
    ·obtain⟨v,hv⟩:=hp b' o h;have:=b7 hv;omega
    ·rw[he]at h1;cases h1;exact(hown b' h2 o).2 h
   ·exact h
theorem V.bptr_inv{Ω:Om}{id:Nat}{v:Value}(h:V Ω (.bptr id) v):∃b g,Ω.e id=some (.bld b g)/\v=.pointer (some ⟨b,0,none⟩):=by
 cases h with|bptr _ b g he=>exact⟨b,g,he,rfl⟩
theorem oP(L:WL P ρ)(C:CC P ρ)(X:Builder.Extra P ρ)(l s:Str)(hlen:l.length+s.length<=140737488355328) :
  ax P (ρ.f 166) [.bptr 900,.str s] [(900,.bld (ρ.t 72) (ρ.t 5) l)] ⟨some (l.length+s.length<=140737488355328),none,.tup [.int .i64 s.length,.nilif],[(900,.bld (ρ.t 72) (ρ.t 5) (l++s))]⟩:=by
 intro w pub e vs hp ht hv hs hd hi;obtain⟨v1,v2,rfl,h1,h2⟩:=VL.two_inv hv;obtain⟨b,g,he,rfl⟩:=h1.bptr_inv;have he:e 900=some (.bld b g):=he;obtain⟨rfl,hsl⟩:v2=.string ⟨s.toArray⟩/\s.length<=cm:=by cases h2 with|str _ h=>exact⟨rfl,h⟩
 obtain⟨b0,g0,he0,hown,hB⟩:=hs 900 _ rfl;have he0:e 900=some (.bld b0 g0):=he0;rw[he]at he0;cases he0;refine(qV L C X b g l s w hB hlen).mono ?_;rintro en w' ⟨rfl,hb,g',hB',hg'⟩;refine⟨_,_,fun _ _ _ h=>(by cases h),?_,After.bld hp hs hd hi rfl he hb hB' hg'⟩;refine .tup _ [_,_] rfl fun j c v hc hv=>?_
 match j,hc,hv with
 |0,hc,hv=>simp at hc hv;subst hc hv;obtain⟨b1,b2⟩:=kR (n:=s.length) hsl;exact .int .i64 _ b1 b2
 |1,hc,hv=>simp at hc hv;subst hc hv;exact .nilif
 |j+2,hc,hv=>simp at hc
theorem wF(L:Lays.n169 P ρ)(X:Builder.Extra P ρ)(l:Str)(hl:l.length<=cm) :
  ax P (ρ.f 169) [.bptr 900] [(900,.bld (ρ.t 72) (ρ.t 5) l)] ⟨some (l.length<=cm),none,.str l,[(900,.bld (ρ.t 72) (ρ.t 5) l)]⟩:=by
 intro w pub e vs hp ht hv hs hd hi;obtain⟨v1,rfl,h1⟩:=VL.one_inv hv;obtain⟨b,g,he,rfl⟩:=h1.bptr_inv;have he:e 900=some (.bld b g):=he;obtain⟨b0,g0,he0,hown,hB⟩:=hs 900 _ rfl;have he0:e 900=some (.bld b0 g0):=he0;rw[he]at he0;cases he0;refine(Bu L X b g l w hB).mono ?_;rintro en w' ⟨rfl,hb,hB'⟩;exact⟨_,_,fun _ _ _ h=>(by cases h),.str l hl,After.bld hp hs hd hi rfl he hb hB' (fun x h=>.inl h)⟩
def sy(t u:Nat):Pat:=fun args S=>
 match args,S with
 |[.bptr 900,.str s],[(900,.bld t' u' l)]=>if t'=t/\u'=u then some ⟨some (l.length+s.length<=140737488355328),none,.tup [.int .i64 s.length,.nilif],[(900,.bld t u (l++s))]⟩else none
 |_,_=>none
def pX(t u:Nat):Pat:=fun args S=>
 match args,S with
 |[.bptr 900],[(900,.bld t' u' l)]=>if t'=t/\u'=u then some ⟨some (l.length<=cm),none,.str l,[(900,.bld t u l)]⟩else none
 |_,_=>none
theorem yu{f t u:Nat}(L:WL P ρ)(C:CC P ρ)(X:Builder.Extra P ρ)(hf:ρ.f 166=f)(ht:ρ.t 72=t)(hu:ρ.t 5=u)(he:aw P f):ae P f (sy t u):=by
 subst hf ht hu;intro args S A h hob hkeys;unfold sy at h;split at h
 ·split at h
  ·rename_i e;obtain⟨rfl,rfl⟩:=e;cases h;exact⟨he,oP L C X _ _ (hob _ rfl)⟩
  ·cases h
 ·cases h
theorem wG{f t u:Nat}(L:Lays.n169 P ρ)(X:Builder.Extra P ρ)(hf:ρ.f 169=f)(ht:ρ.t 72=t)(hu:ρ.t 5=u)(he:aw P f):ae P f (pX t u):=by
 subst hf ht hu;intro args S A h hob hkeys;unfold pX at h;split at h
 ·split at h
  ·rename_i e;obtain⟨rfl,rfl⟩:=e;cases h;exact⟨he,wF L X _ (hob _ rfl)⟩
  ·cases h
 ·cases h
end Go.AL
end
section
namespace Go.AL
variable [Tabs]
open Go.Proofs Go.RowKit Go.Maps Go.Sort Go.Shelf
variable {P:Program} {ρ:Ren}
def fe{α:Type}(F:Fence)(n:Nat)(P:Program)(g:Nat)(lb:Array Value)(enc:α->Value)(S:List α->Prop)(N:Nat)(w:World):Prop:=
 ∀(l:Nat)(J:List α->World->Prop)(W:World),Below w.heap.size w W->AbidesFrom W.heap.size J->(∀pre W1,J pre W1->Below w.heap.size w W1)->
  (∀pre x W1,J pre W1->pre.length<N->YieldAt F (n-1) P l #[enc x] W1 fun e W'=>e=.returned (.bool true)/\J (pre++[x]) W'/\KeepsWalks W1 W')->
  J [] W->
  CallsIn F n P g (#[.func (.yield l) #[] #[]]++lb) W fun e W'=>(∃v,e=.returned v)/\∃xs,S xs/\J xs W'
theorem fe.bounded{α:Type}{F:Fence}{n:Nat}{g:Nat}{lb:Array Value}{enc:α->Value}{S:List α->Prop}{N:Nat}{w:World}
 (h:fe F n P g lb enc S N w):fe F n P g lb enc (fun xs=>S xs/\xs.length<=N) N w:=fun l J W hW hJ hB hY h0=>by
 refine(h l (fun xs W'=>J xs W'/\xs.length<=N) W hW (fun s A B row hs hg hr=>⟨hJ s A B row hs.1 hg hr,hs.2⟩) (fun pre W1 h=>hB pre W1 h.1)
  (fun pre x W1 hj hl=>(hY pre x W1 hj.1 hl).mono (fun e w' hr=>⟨hr.1,⟨hr.2.1,by simp;omega⟩,hr.2.2⟩)) ⟨h0,Nt _⟩).mono ?_
 rintro e W' ⟨hv,xs,hS,hJ',hlen⟩;exact⟨hv,xs,⟨hS,hlen⟩,hJ'⟩
set_option maxRecDepth 100000 in
set_option maxHeartbeats 2000000 in
theorem Bv(L:SlLaysZ.n11 P ρ)(F:Fence)(n:Nat)(h11:F.fn (ρ.f 11))(hro:F.round=none)(hn:2<=n)(g:Nat)(lb:Array Value)(hFg:F.fn g)(eg:∀args w,(callFunc g args).run P w=.ok (.enter g args) w)
 (S:List (List UInt8)->Prop)(N:Nat)(hN:N<=maxLen)(hNb:N *16<=140737488355328)(w:World)(hseq:fe F (n-1) P g lb encStr S N w) :
  CallsIn F n P (ρ.f 11) #[.slice none 0 0,.func (.func g) #[] lb] w fun e w'=>∃(v:Value)(ss:List (List UInt8)),e=.returned v/\S ss/\w'.ownsRow w.heap.size (ρ.t 26) 1 v ss.length (ss.map encStr)/\(v=.slice none 0 0↔ss=[])/\Below w.heap.size w w':=by
 have h1:1<=n:=by omega
 have mixed:=L.mixed;have t0:=L.t0;have a0:=L.a0;have z0:=L.z0;have v0:=L.v0;have t24:=L.t24;have a24:=L.a24;have z24:=L.z24;have v24:=L.v24;have t26:=L.t26;have a26:=L.a26;have z26:=L.z26;have v26:=L.v26;have t28:=L.t28;have a28:=L.a28;have z28:=L.z28;have v28:=L.v28;have hne:ρ.t 24≠ρ.t 26:=fun e=>by have h:=L.t24;rw[e,L.t26]at h;cases h
 have u0:=Ny L.t0;have u24:=Ny L.t24;have u26:=Ny L.t26;have u28:=Ny L.t28;obtain⟨_,_,FG⟩:=L.f11;refine callsIn_of_wp_marks FG rfl h11 ?_ hro;simp only[SlBodyZ.n11_ntmps ρ,P7,N7,Na,Nat.reduceAdd,Nat.reduceSub,P9,Pa,Pq,Pe,Nk,NY]
 gi_wp2
 refine wpIn_rangeFunc ?_;intro fn hfn;rw[hro];obtain⟨W0,hW0⟩:∃W0,w.alloc (.cells #[.slice none 0 0] (ρ.t 24))=W0:=⟨_,rfl⟩;have hs0:W0.heap.size=w.heap.size+1:=by rw[<-hW0];simp
 have hv0:W0.heap[w.heap.size]?=some (.cells #[.slice none 0 0] (ρ.t 24) (0,0)):=by rw[<-hW0];exact World.alloc_heap_new w _
 have hb0:Below w.heap.size w W0:=by rw[<-hW0];exact(Below.refl _ w).alloc (Nf _) _
 rw[hW0];obtain⟨W1,hW1⟩:∃W1,(W0.alloc (.deferred (some []))).alloc (.loop (AnyZ.apRec ρ fn (.func (.func g) #[] lb) w.heap.size W0.heap.size .ready none))=W1:=⟨_,rfl⟩;have hold:∀k,k<W0.heap.size->W1.heap[k]?=W0.heap[k]?:=fun k hk=>by rw[<-hW1];exact(Below.heap_alloc _ _ k (by simp;omega)).trans (Below.heap_alloc _ _ k hk)
 have hb1:Below w.heap.size w W1:=by rw[<-hW1];exact(hb0.alloc hb0.size _).alloc (by have:=hb0.size;simp;omega) _
 have hs1:W1.heap.size=W0.heap.size+2:=by rw[<-hW1];simp
 have hM:AnyZ.ApAt ρ w fn (.func (.func g) #[] lb) w.heap.size (W0.heap.size+1) W0.heap.size [] W1:=
  ⟨⟨_,(hold w.heap.size (by omega)).trans hv0,⟨rfl,.inl ⟨rfl,rfl⟩⟩,by simp⟩,
   by rw[<-hW1];have:=World.alloc_heap_new (W0.alloc (.deferred (some []))) (.loop (AnyZ.apRec ρ fn (.func (.func g) #[] lb) w.heap.size W0.heap.size .ready none));rwa [World.size_alloc]at this,
   by rw[<-hW1];exact(Below.heap_alloc _ _ _ (by simp)).trans (World.alloc_heap_new W0 _),hb1⟩
 refine⟨W0.heap.size+1,[{target:=.collected W0.heap.size,args:=#[]}],W1,{target:=.fn (.func g) lb,args:=#[.func (.yield (W0.heap.size+1)) #[] #[]]},W1,g,
  #[.func (.yield (W0.heap.size+1)) #[] #[]]++lb,W1,?_,?_,?_,?_,fun _=>h1,?_⟩
 ·rw[<-hW1];exact run_enterLoop_outer _ _ _ _ _
 ·simp[resolve,go_sem]
 ·intro f' hf';simp[Target.leads]at hf';subst hf';exact hFg
 ·simp[invoke,go_sem,eg]
 ·refine(hseq (W0.heap.size+1) (AnyZ.ApAt ρ w fn (.func (.func g) #[] lb) w.heap.size (W0.heap.size+1) W0.heap.size) W1 hb1 (AnyZ.ap_abides ρ _ _ _ _ _ _ _ hb1.size) (fun _ _ h=>h.below)
   (fun pre x W hJ hl=>AnyZ.apYield {L with} F (n-1-1) w fn hfn _ w.heap.size (W0.heap.size+1) W0.heap.size (by omega) (by omega) (by omega) (Nf _) (by omega) N hN hNb pre x W hJ hl) hM).mono ?_
  rintro e W2 ⟨⟨v0,rfl⟩,ss,hS,h2⟩;obtain⟨v,hv,hrow,hnil⟩:=h2.box;have hend:=run_endLoop (P:=P) h2.L (by simp[AnyZ.apRec]);obtain⟨W3,hW3⟩:∃W3,W2.putObj (W0.heap.size+1) (.loop {AnyZ.apRec ρ fn (.func (.func g) #[] lb) w.heap.size W0.heap.size .ready none with state:=.exhausted})=W3:=⟨_,rfl⟩;rw[hW3]at hend;have hg3:W2.grownBy W3 (some (W0.heap.size+1)):=by rw[<-hW3];exact grownBy_putObj_a _ _ _
  have hv3:W3.heap[w.heap.size]?=some (.cells #[v] (ρ.t 24) (0,0)):=by rw[<-hW3];exact(World.putObj_heap_other (by omega)).trans hv
  have hK3:W3.heap[W0.heap.size]?=some (.deferred (some [])):=by rw[<-hW3];exact(World.putObj_heap_other (by omega)).trans h2.K
  have hrow3:=hrow.kept hg3 (ownsRow_ne_a hrow h2.L (fun cur e=>by first|cases e|exact hne (Obj.cells.inj e).2.1));have hb3:Below w.heap.size w W3:=h2.below.grown hg3 h2.below.size (fun k e=>by cases e;omega);obtain⟨hc3,hf3⟩:=cell_of_box_a hv3;clear hW3;refine⟨none,W3,hend,?_⟩
  gi_wp2
  rw[<-hs0];refine⟨by simp,.inl ⟨_,_,rfl,run_takeDeferred hK3,?_⟩⟩;exact⟨_,results_tmp rfl _ _ _,v,ss,rfl,hS,hrow3.kept (grownBy_putObj_a _ _ _) (ownsRow_ne_a hrow3 hK3 (fun cur e=>by first|cases e|exact hne (Obj.cells.inj e).2.1)),hnil,hb3.grown (grownBy_putObj_a _ _ _) hb3.size (fun k e=>by cases e;omega)⟩
set_option maxRecDepth 100000 in
set_option maxHeartbeats 2000000 in
theorem Hf(L:SlLaysZ.n8 P ρ)(F:Fence)(n:Nat)(h8:F.fn (ρ.f 8))(h11:F.fn (ρ.f 11))(hro:F.round=none)(hn:3<=n)(g:Nat)(lb:Array Value)(hFg:F.fn g)(eg:∀args w,(callFunc g args).run P w=.ok (.enter g args) w)
 (S:List (List UInt8)->Prop)(N:Nat)(hN:N<=maxLen)(hNb:N *16<=140737488355328)(w:World)(hseq:fe F (n-1-1) P g lb encStr S N w) :
  CallsIn F n P (ρ.f 8) #[.func (.func g) #[] lb] w fun e w'=>∃(v:Value)(ss:List (List UInt8)),e=.returned v/\S ss/\w'.ownsRow w.heap.size (ρ.t 26) 1 v ss.length (ss.map encStr)/\(v=.slice none 0 0↔ss=[])/\Below w.heap.size w w':=by
 have h1:1<=n:=by omega
 have e11:∀args w,(callFunc (ρ.f 11) args).run P w=.ok (.enter (ρ.f 11) args) w:=L.f11.enters rfl;have mixed:=L.mixed;have t0:=L.t0;have a0:=L.a0;have z0:=L.z0;have v0:=L.v0;have t24:=L.t24;have a24:=L.a24;have z24:=L.z24;have v24:=L.v24;have t26:=L.t26;have a26:=L.a26;have z26:=L.z26;have v26:=L.v26;have t28:=L.t28;have a28:=L.a28;have z28:=L.z28;have v28:=L.v28;have u0:=Ny L.t0;have u24:=Ny L.t24;have u26:=Ny L.t26;have u28:=Ny L.t28;obtain⟨_,_,FG⟩:=L.f8;refine callsIn_of_wp FG rfl h8 ?_ hro;simp only[SlBodyZ.n8_ntmps ρ,P7,N7,Na,Nat.reduceAdd,Nat.reduceSub,P9,Pa,Pq,Pe,Nk,NY]
 gi_wp2_with (gi_at_fn (ρ.f 11);refine(Bv {L with} F (n-1) h11 hro (by omega) g lb hFg eg S N hN hNb _ hseq).mono ?_;rintro e w' ⟨v,ss,rfl,hS,hrow,hnil,hb⟩)
 go_ret
 exact⟨v,ss,rfl,hS,hrow,hnil,hb⟩
set_option maxRecDepth 100000 in
set_option maxHeartbeats 2000000 in
theorem JY(L:SlLaysZ.n6 P ρ)(F:Fence)(n:Nat)(h6:F.fn (ρ.f 6))(h8:F.fn (ρ.f 8))(h9:F.fn (ρ.f 9))(h11:F.fn (ρ.f 11))(hro:F.round=none)(hn:4<=n)(hsort:AnyZ.SortsIn P ρ F (n-1))(e9:∀args w,(callFunc (ρ.f 9) args).run P w=.ok (.enter (ρ.f 9) args) w)(g:Nat)(lb:Array Value)(hFg:F.fn g)(eg:∀args w,(callFunc g args).run P w=.ok (.enter g args) w)
 (S:List (List UInt8)->Prop)(N:Nat)(hN:N<=maxLen)(hNb:N *16<=140737488355328)(w:World)(hseq:fe F (n-1-1-1) P g lb encStr S N w) :
  CallsIn F n P (ρ.f 6) #[.func (.func g) #[] lb] w fun e w'=>∃(v:Value)(ss:List (List UInt8)),e=.returned v/\S ss/\
   w'.ownsRow w.heap.size (ρ.t 26) 1 v ss.length ((ss.mergeSort (fun x y=>decide (x<=y))).map encStr)/\(v=.slice none 0 0↔ss=[])/\Below w.heap.size w w':=by
 have h1:1<=n:=by omega
 have e8:∀args w,(callFunc (ρ.f 8) args).run P w=.ok (.enter (ρ.f 8) args) w:=L.f8.enters rfl;have mixed:=L.mixed;have t0:=L.t0;have a0:=L.a0;have z0:=L.z0;have v0:=L.v0;have t24:=L.t24;have a24:=L.a24;have z24:=L.z24;have v24:=L.v24;have t26:=L.t26;have a26:=L.a26;have z26:=L.z26;have v26:=L.v26;have t28:=L.t28;have a28:=L.a28;have z28:=L.z28;have v28:=L.v28;have u0:=Ny L.t0;have u24:=Ny L.t24;have u26:=Ny L.t26;have u28:=Ny L.t28;obtain⟨_,_,FG⟩:=L.f6;refine callsIn_of_wp FG rfl h6 ?_ hro;simp only[SlBodyZ.n6_ntmps ρ,P7,N7,Na,Nat.reduceAdd,Nat.reduceSub,P9,Pa,Pq,Pe,Nk,NY]
 gi_wp2_with (gi_at_fn (ρ.f 8);refine(Hf {L with} F (n-1) h8 h11 hro (by omega) g lb hFg eg _ N hN hNb _ (fe.bounded hseq)).mono ?_;rintro e W ⟨v,ss,rfl,⟨hS,hlen⟩,hrow,hnil,hb⟩)
 rcases hrow.2 with⟨rfl,hz⟩|⟨gb,cap,cur,rfl,hbase,hgb,r1,r2,r3,r4⟩
 ·
  have hss:ss=[]:=Ni hz;subst hss
  gi_wp2_with (gi_at_fn (ρ.f 9);refine(hsort.2 none 0 W).mono ?_;rintro e w' ⟨rfl,rfl⟩)
  go_ret
  exact⟨.slice none 0 0,[],rfl,hS,by simpa using hrow,by simp,hb⟩
 ·have hH:Go.Sort.Holds encStr W gb 0 ss.toArray:=holds_of_block hgb (by simpa using r4);have hgl:gb<W.heap.size:=(Ot.1 hgb).1;have hsz:ss.length<4611686018427387904:=by omega
  have cS:=hsort.1 gb 0 cap ss W hH hgl hsz
  gi_wp2_with (gi_at_fn (ρ.f 9);refine cS.mono ?_;rintro e w' ⟨rfl,nn,os,rfl⟩)
  go_ret
  exact⟨_,ss,rfl,hS,ownsRow_sorted (by simp) hbase hgb r1 r2 r3,hnil,hb.grown (grownBy_sorted _) hb.size (fun j hj=>by cases hj;exact hbase)⟩
theorem Em{f:Nat}{args:List AV}{S:List (Nat×SObj)}{ob:Option Prop}{T:TypeId}{ss:List Str}(hk:aE S 0=none)
 (hC:∀w pub e vs,kh w pub->VL ⟨e,w,pub⟩ args vs->(∀id o,aE S id=some o->bH ⟨e,w,pub⟩ (fun _ _=>True) id o)->
   (∀s∈ss,s.length<=cm)/\Calls P f vs.toArray w fun en w'=>∃v,en=.returned v/\w'.ownsRow w.heap.size T 1 v ss.length (ss.map encStr)/\Below w.heap.size w w') :
  ax P f args S ⟨ob,none,.arr 0 ss.length 1,[(0,.box (.row .str ss))]⟩:=by
 intro w pub e vs hp ht hv hs hd hi;obtain⟨hlen,hC⟩:=hC w pub e vs hp hv hs;refine hC.mono ?_;rintro en w' ⟨v,rfl,⟨hl,hrow⟩,hb⟩;have hpl:(aa (.row .str ss)).length=ss.length:=by have:=cp .str ss;rw[show ag .str=1 from rfl,Qg]at this;exact this
 rcases hrow with⟨rfl,hz⟩|⟨g,cap,cur,rfl,hbase,hg,h1,h2,h3,h4⟩
 ·have hss:ss=[]:=Ni hz;subst hss;refine⟨_,_,fun _ _ _ h=>(by cases h),?_,After.fresh1 (c:=.box w.heap.size 0 0) hp hs hd hi hb hk (fun b o ho=>by obtain⟨_,_,h⟩:=ho;omega) ⟨w.heap.size,0,by simp;rfl,fun j c' hc=>?_⟩⟩
  ·exact .arr 0 0 1 w.heap.size 0 0 none (by simp) (by omega) (by omega) (by unfold cm;omega) (.inr ⟨rfl,rfl,rfl⟩)
  ·simp[aa,bD]at hc
 ·refine⟨_,_,fun _ _ _ h=>(by cases h),?_,After.fresh1 (c:=.box g 0 (aa (.row .str ss)).length) hp hs hd hi hb hk (fun b o ho=>by obtain⟨rfl,_,_⟩:=ho;exact hbase) ⟨g,0,by simp,fun j c' hc=>?_⟩⟩
  ·exact .arr 0 ss.length 1 g (aa (.row .str ss)).length cap (some ⟨g,0,none⟩) (by simp) (by omega) h1 (by unfold maxLen at h2;unfold cm;omega) (.inl rfl)
  ·have hj:j<ss.length:=by
    rw[<-hpl];rcases Nv j (aa (.row .str ss)).length with k|k
    ·exact k
    ·rw[Nd k]at hc;cases hc
   have hcx:=j9 .str ss j ss[j] 0 (.str ss[j]) (by simp[hj]) rfl;have hc0:(aa (.row .str ss))[j]?=some (.str ss[j]):=by rw[show j *ag .str+0=j by rw[show ag .str=1 from rfl];omega]at hcx;exact hcx
   rw[hc0]at hc;cases hc
   have hcur:cur[j]?=some (encStr ss[j]):=by
    have:(cur.toList.take (ss.length *1))[j]?=some (encStr ss[j]):=by rw[h4];simp[hj]
    rw[NP]at this;split at this
    ·simpa using this
    ·cases this
   refine⟨.inl hbase,fun h=>?_,fG hg _,encStr ss[j],by rw[OQ,aT hg];exact hcur,.str _ (hlen _ (OZ hj))⟩;rcases h with h|h
   ·obtain⟨v,hv⟩:=hp _ _ h;have:=b7 hv;omega
   ·exact h
def jg(l:List Str):List Str:=l.mergeSort fun x y=>decide (x<=y)
theorem oQ(l:List Str):(jg l).length=l.length:=List.length_mergeSort _
theorem En{l:List Str}{s:Str}:s∈jg l↔s∈l:=List.mem_mergeSort
structure SortL(P:Program)(ρ:Ren):Prop where
 lay:SlLaysZ.n6 P ρ
 sorts:AnyZ.SortsIn P ρ Fence.wide 4
 e9:∀args w,(callFunc (ρ.f 9) args).run P w=.ok (.enter (ρ.f 9) args) w
theorem wH(L:SortL P ρ){g:Nat}{lb:Array Value}(eg:∀args w,(callFunc g args).run P w=.ok (.enter g args) w){ks:List Str}(hN:ks.length *16<=140737488355328){w:World}
 (hseq:fe Fence.wide 2 P g lb encStr (fun ss=>ss.Perm ks) ks.length w) :
  Calls P (ρ.f 6) #[.func (.func g) #[] lb] w fun en w'=>∃v,en=.returned v/\w'.ownsRow w.heap.size (ρ.t 26) 1 v (jg ks).length ((jg ks).map encStr)/\Below w.heap.size w w':=by
 refine callsIn_wide.1 ((JY L.lay Fence.wide 5 trivial trivial trivial trivial rfl (by omega) L.sorts L.e9 g lb trivial eg _ ks.length (by unfold maxLen;omega) hN w hseq).mono ?_);rintro en w' ⟨v,ss,rfl,hS,hrow,_,hb⟩;have e:ss.mergeSort (fun x y=>decide (x<=y))=jg ks:=mergeSort_of_perm hS;have hl:ss.length=(jg ks).length:=by rw[oQ];exact hS.length_eq
 rw[e,hl]at hrow;exact⟨v,rfl,hrow,hb⟩
theorem V.fn_inv{Ω:Om}{f:Nat}{cs:List AV}{v:Value}(h:V Ω (.fn f cs) v):∃vs,v=.func (.func f) #[] vs.toArray/\VL Ω cs vs:=by
 cases h with|fn _ _ vs h1 h2=>exact⟨vs,rfl,h1,h2⟩
def Strs(n₀:Nat)(W:World)(sv:Value)(zs:List Str):Prop:=
 ((∃a cap,sv=.slice a 0 cap)/\zs=[])∨∃b off cap,sv=.slice (some ⟨b,off,none⟩) zs.length cap/\b<n₀/\∀j,j<zs.length->W.cell? ⟨b,off+j,none⟩=some (encStr (zs[j]?.getD []))
def uz{α:Type}(f:Nat->α)(k:Nat):List α:=(List.range k).map f
theorem Eo{α:Type}(f:Nat->α)(k:Nat):uz f (k+1)=uz f k++[f k]:=by simp[uz,PB]
theorem yw{α:Type}(f:Nat->α)(k:Nat):(uz f k).length=k:=by simp[uz]
theorem Hg(zs:List Str):uz (fun j=>zs[j]?.getD []) zs.length=zs:=by
 apply List.ext_getElem
 ·simp[uz]
 ·intro i h1 h2;simp[uz,h2]
def wI(P:Program)(g:Nat):Prop:=
 ∀(w:World)(b o:Nat)(sv:Value)(zs:List Str),zs.length<=maxLen->w.cell? ⟨b,o,none⟩=some sv->Strs w.heap.size w sv zs->
  fe Fence.wide 2 P g #[.pointer (some ⟨b,o,none⟩)] encStr (fun ss=>ss=zs) zs.length w
theorem V.dropTok{Ω:Om}{τ:Ty}{xs:List (den τ)}{o:Option Nat}{v:Value}(h:V Ω (.lst τ xs o) v):V Ω (.lst τ xs none) v:=by
 cases h with|lstNil=>exact .lstNil τ none (fun _ h=>by cases h)|lstVoid _ a=>exact .lstVoid τ a|lst _ _ _ b off cap vals h1 h2 h3 h4 h5=>exact .lst τ xs none b off cap vals h1 h2 (fun _ h=>by cases h) h4 h5
theorem nQ(L:SortL P ρ){g:Nat}(eg:∀args w,(callFunc g args).run P w=.ok (.enter g args) w)(K:wI P g)(zs:List Str)(hN:zs.length *16<=140737488355328)(tok:Option Nat) :
  ax P (ρ.f 6) [.fn g [.ptr 900 0]] [(900,.box (.lst .str zs tok))] ⟨some (zs.length *16<=140737488355328),none,.arr 0 (jg zs).length 1,[(0,.box (.row .str (jg zs)))]⟩:=by
 refine Em (T:=ρ.t 26) rfl fun w pub e vs hp hv hs=>?_;obtain⟨v1,rfl,h1⟩:=VL.one_inv hv;obtain⟨us,rfl,hus⟩:=h1.fn_inv;obtain⟨u,rfl,hu⟩:=VL.one_inv hus;obtain⟨b,o,len,rfl,he⟩:=hu.ptr_inv;obtain⟨b',o',he',hbox⟩:=hs 900 _ rfl;rw[he]at he';cases he';obtain⟨_,_,_,v,hcell,hvm⟩:=hbox 0 (.lst .str zs tok) rfl
 have hst:Strs w.heap.size w v zs:=by
  cases hvm with
  |lstNil=>exact .inl ⟨⟨_,_,rfl⟩,rfl⟩
  |lstVoid=>exact .inl ⟨⟨_,_,rfl⟩,rfl⟩
  |lst _ _ _ g0 off cap vals h1 h2 h3 h4 h5=>
   rcases PC zs.length with hz|hz
   ·have:=Ni hz;subst this;exact .inl ⟨⟨_,_,rfl⟩,rfl⟩
   ·have at_:∀j (hj:j<zs.length),w.cell? ⟨g0,off+j,none⟩=some (encStr zs[j]):=by intro j hj;have q:=h4 j zs[j] (by simp[hj]) 0 (.str zs[j]) rfl;have r:=h5 j zs[j] (by simp[hj]) 0 (.str zs[j]) rfl;obtain⟨r1,_⟩:=r.str_inv;have:=q.2;rw[r1]at this;simpa[ag]using this
    exact .inr ⟨g0,off,cap,rfl,b7 (at_ 0 hz),fun j hj=>by rw[at_ j hj];simp[hj]⟩
 refine⟨fun s hs=>?_,?_⟩
 ·have hw:Wf (.lst .str) zs:=⟨_,_,V.dropTok hvm⟩;exact(hw.mem (En.1 hs)).str
 have hsq:=K w b (o+0) v zs (by unfold maxLen;omega) hcell hst;refine wH L eg hN (w:=w) ?_;intro l J W a1 a2 a3 a4 a5;refine(hsq l J W a1 a2 a3 a4 a5).mono ?_;rintro e W' ⟨h1,xs,rfl,h3⟩;exact⟨h1,xs,.refl _,h3⟩
end Go.AL
end
section
namespace Go.AL
variable [Tabs]
open Go.Proofs Go.RowKit Go.Maps Go.Sort Go.Shelf
variable {P:Program} {ρ:Ren}
theorem After.row{w w':World}{pub:Nat->Nat->Prop}{e:Nat->Option CObj}{S:List (Nat×SObj)}
 (hp:kh w pub)(hs:∀id o,aE S id=some o->bH ⟨e,w,pub⟩ (fun _ _=>True) id o)(hd:∀id,aE S id=none->e id=none)(hi:Inj e)
 {k b:Nat}{c c':AV}(hk:aE S k=some (.box c))(he:e k=some (.box b 0 (aa c).length))(hl:(aa c').length=(aa c).length)
 (os:w'.os=w.os)(tape:w'.tape=w.tape)(output:w'.output=w.output)(size:w.heap.size<=w'.heap.size)
 (hblock:∀b',b'<w.heap.size->b'≠b∨(aa c).length=0->w'.heap[b']?=w.heap[b']?)
 (hcell:∀j,(aa c).length<=j->w'.cell? ⟨b,j,none⟩=w.cell? ⟨b,j,none⟩)
 (hkind:w'.shape? b=w.shape? b/\∀o,w'.frozen? ⟨b,o,none⟩=w.frozen? ⟨b,o,none⟩)
 (hval:∀(j:Nat)(c0:AV),(aa c')[j]?=some c0->∃v,w'.cell? ⟨b,j,none⟩=some v/\∀Ω',V Ω' c0 v) :
  After w pub e (aE (putB S [(k,.box c')])) w' (fun b o=>pub b o∨False) (fun i=>if k=i then some (.box b 0 (aa c).length)else e i):=by
 obtain⟨b0,off0,he0,hbox⟩:=hs k _ hk;have he0:e k=some (.box b0 off0 (aa c).length):=he0;rw[he]at he0;simp only[Xs,CObj.box.injEq]at he0;obtain⟨rfl,rfl,_⟩:=he0;have inE:∀{o},o<(aa c).length->sx e k b o:=fun h=>⟨_,he,rfl,by omega,by omega⟩
 have outE:∀{b' o},¬sx e k b' o->b'≠b∨(aa c).length<=o:=by
  intro b' o h;rcases Nv o (aa c).length with h'|h'
  ·exact .inl fun e=>h (e ▸ inE h')
  ·exact .inr h'
 have cell:∀b' o,b'<w.heap.size->¬sx e k b' o->w'.cell? ⟨b',o,none⟩=w.cell? ⟨b',o,none⟩:=by
  intro b' o h1 h2;by_cases hb:b'=b
  ·subst hb;rcases outE h2 with h|h
   ·exact absurd rfl h
   ·exact hcell o h
  ·exact aF (hblock b' h1 (.inl hb)) o
 refine After.slot hp hs hd hi (Q:=fun _ _=>False) os tape output size (fun b' h1 h2=>?_) cell (fun b' h1 h2=>?_) (fun b' o h=>?_) (fun _ _ h=>h.elim) (fun c0 h=>?_) (fun b' o h=>?_) (fun _=>?_)
 ·refine hblock b' h1 ?_;rcases outE (h2 0)with h|h
  ·exact .inl h
  ·exact .inr (by omega)
 ·by_cases hb:b'=b
  ·subst hb;exact hkind
  ·have:=hblock b' h1 (.inl hb);exact⟨bZ this,fun o=>bC this o⟩
 ·obtain⟨v,hv⟩:=hp b' o h;refine cell b' o (b7 hv) ?_;rintro⟨c1,h1,h2⟩;rw[he]at h1;cases h1;obtain⟨rfl,_,h3⟩:=h2;have hj:o<(aa c).length:=by omega
  have:=(hbox o _ (N9 hj)).2.1;exact this (by simpa using h)
 ·rw[he]at h;cases h;exact⟨rfl,rfl,rfl⟩
 ·exact .inr ⟨_,he,h⟩
 ·refine⟨b,0,by simp[hl],fun j c0 hc=>?_⟩
  have hj:j<(aa c).length:=by
   rw[<-hl];rcases Nv j (aa c').length with q|q
   ·exact q
   ·rw[Nd q]at hc;cases hc
  obtain⟨_,q2,q3,_⟩:=hbox j _ (N9 hj);obtain⟨v,hv,hV⟩:=hval j c0 hc;rw[OQ]at q2 q3⊢;refine⟨.inr ⟨k,_,he,rfl,by omega,by omega⟩,fun h=>?_,?_,v,hv,hV _⟩
  ·rcases h with h|h
   ·exact q2 h
   ·exact h
  ·exact(hkind.2 j).trans q3
theorem yx{α:Type}[Inhabited α](enc:α->Value)(w:World)(b:Nat)(d:Array α)(k:Nat)(h:k≠b∨d.size=0):(putRow enc w b 0 d).heap[k]?=w.heap[k]?:=by
 unfold putRow mapBlock;simp only[Oj];by_cases hk:b=k
 ·subst hk;rcases h with h|h
  ·exact absurd rfl h
  ·simp only[NS]
   cases hw:w.heap[b]? with
   |none=>rfl
   |some o=>
    simp only[OC,Xs]
    cases o with
    |cells c e f=>
     simp only[onCells,Obj.cells.injEq,NX,NZ];apply Array.ext
     ·simp[putCells]
     ·intro i h1 h2;simp[putCells,h]
    |_=>rfl
 ·rw[N3 hk]
theorem wJ{α:Type}[Inhabited α](enc:α->Value)(w:World)(b:Nat)(d:Array α):(putRow enc w b 0 d).shape? b=w.shape? b:=by
 unfold putRow mapBlock World.shape?;simp only[Oj,NS]
 cases w.heap[b]? with
 |none=>rfl
 |some o=>cases o<;>simp[onCells,putCells]
theorem gK{τ:Ty}(hw:ag τ=1)(xs:List (den τ)):(aa (.row τ xs)).length=xs.length:=by have:=cp τ xs;rw[hw,Qg]at this;exact this
theorem me{τ:Ty}(hw:ag τ=1)(xs:List (den τ))(j:Nat)(x:den τ)(c:AV)(hx:xs[j]?=some x)(hc:(cells τ x)[0]?=some c):(aa (.row τ xs))[j]?=some c:=by have:=j9 τ xs j x 0 c hx hc;rw[hw,Qg,P5]at this;exact this
theorem strRow{Ω:Om}{own:Nat->Nat->Prop}{id b:Nat}{ss:List Str}(h:bH Ω own id (.box (.row .str ss))){len:Nat}(he:Ω.e id=some (.box b 0 len)) :
  len=ss.length/\Go.Sort.Holds encStr Ω.w b 0 ss.toArray/\∀s∈ss,s.length<=cm:=by
 obtain⟨b',off,h1,h2⟩:=h;rw[he]at h1;simp only[Xs,CObj.box.injEq]at h1;obtain⟨rfl,rfl,h1⟩:=h1;have at_:∀j (hj:j<ss.length),Ω.w.frozen? ⟨b,0+j,none⟩=false/\Ω.w.cell? ⟨b,0+j,none⟩=some (encStr ss[j])/\ss[j].length<=cm:=by intro j hj;obtain⟨_,_,q3,v,q4,q5⟩:=h2 j _ (me (τ:=.str) rfl ss j ss[j] (.str ss[j]) (by simp[hj]) rfl);obtain⟨rfl,q6⟩:=q5.str_inv;exact⟨q3,q4,q6⟩
 refine⟨by rw[h1];exact gK (τ:=.str) rfl ss,fun j hj=>?_,fun s hs=>?_⟩
 ·have hj':j<ss.length:=by simpa using hj
  obtain⟨q1,q2,_⟩:=at_ j hj';exact⟨by rw[q2];simp[hj'],q1⟩
 ·obtain⟨j,hj,rfl⟩:=List.getElem_of_mem hs;exact(at_ j hj).2.2
theorem yy{ss:List Str}{s:Str}(h:s∈Lib.compact ss):s∈ss:=by unfold Lib.compact Lib.compactUpTo at h;obtain⟨j,hj,rfl⟩:=O5.1 h;have:=(ON.1 hj).1;rw[Pu]at this;simp[this]
theorem After.strRow{w:World}{pub:Nat->Nat->Prop}{e:Nat->Option CObj}{S:List (Nat×SObj)}
 (hp:kh w pub)(hs:∀id o,aE S id=some o->bH ⟨e,w,pub⟩ (fun _ _=>True) id o)(hd:∀id,aE S id=none->e id=none)(hi:Inj e)
 {k b len q:Nat}{ss ts:List Str}{gs:Array Obj}(hk:aE S k=some (.box (.row .str ss)))(he:e k=some (.box b 0 len))(hl:ts.length=ss.length)(hb:b<w.heap.size)(ht:∀s∈ts,s.length<=cm) :
  After w pub e (aE (putB S [(k,.box (.row .str ts))])) (grow (putRow encStr (Sort.ahead w q) b 0 ts.toArray) gs) (fun b o=>pub b o∨False) (fun i=>if k=i then some (.box b 0 (aa (.row .str ss)).length)else e i):=by
 obtain⟨rfl,hH,_⟩:=AL.strRow (hs k _ hk) he;have hsz:(putRow encStr (Sort.ahead w q) b 0 ts.toArray).heap.size=w.heap.size:=by simp
 have old:∀j,j<w.heap.size->(grow (putRow encStr (Sort.ahead w q) b 0 ts.toArray) gs).heap[j]?=(putRow encStr (Sort.ahead w q) b 0 ts.toArray).heap[j]?:=by intro j hj;unfold grow;simp only;rw[Array.getElem?_append_left (by rw[hsz];exact hj)]
 have hpl:=gK (τ:=.str) rfl ss;refine After.row hp hs hd hi hk (by rw[he,hpl]) (by rw[gK rfl,gK rfl,hl]) rfl rfl rfl (by simp[grow]) (fun b' h1 h2=>?_) (fun j hj=>?_) ⟨?_,fun o=>?_⟩ (fun j c0 hc=>?_)
 ·rw[old b' h1,yx encStr (Sort.ahead w q) b ts.toArray b' (by rw[hpl]at h2;simpa[hl]using h2)];rfl
 ·rw[aF (old b hb) j,cell?_putRow_other encStr (Sort.ahead w q) b 0 ts.toArray ⟨b,j,none⟩ (.inr (.inr (by rw[hpl]at hj;simp;omega)))];rfl
 ·rw[bZ (old b hb),wJ];rfl
 ·rw[bC (old b hb) o,frozen?_putRow];rfl
 ·have hj:j<ts.length:=by
   rw[<-gK (τ:=.str) rfl ts];rcases Nv j (aa (.row .str ts)).length with q|q
   ·exact q
   ·rw[Nd q]at hc;cases hc
  rw[me (τ:=.str) rfl ts j ts[j] (.str ts[j]) (by simp[hj]) rfl]at hc;cases hc;refine⟨encStr ts[j],?_,fun Ω'=>.str _ (ht _ (OZ hj))⟩;rw[aF (old b hb) j];have:=cell?_putRow encStr (Sort.ahead w q) b 0 ss.toArray ts.toArray hH (by simp[hl]) j (by simpa using hj);rw[OQ]at this;rw[this];simp[hj]
theorem uA(L:Lays.n194 P ρ)(n:Nat)(ss:List Str)(hn:n=ss.length) :
  ax P (ρ.f 194) [.arr 900 n 1] [(900,.box (.row .str ss))]
   ⟨some (n=ss.length),none,.arr 900 (Lib.compact ss).length 1,[(900,.box (.row .str (Lib.compact ss++List.replicate (ss.length-(Lib.compact ss).length) [])))]⟩:=by
 subst hn;intro w pub e vs hp ht hv hs hd hi;obtain⟨v,rfl,h1⟩:=VL.one_inv hv;have hcl:(Lib.compact ss).length<=ss.length:=by unfold Lib.compact Lib.compactUpTo;rw[Oc];exact NG (List.length_filter_le _ _) (by simp)
 cases h1 with
 |arr _ _ _ b len cap a he h2 h3 h4 h5=>
  have he:e 900=some (.box b 0 len):=he;obtain⟨rfl,hH,hlen⟩:=strRow (hs 900 _ rfl) he;have hpl:=gK (τ:=.str) rfl ss;rcases h5 with rfl|⟨rfl,hz,rfl⟩
  ·by_cases h0:ss=[]
   ·subst h0;refine(Any.slices_Compact_string_empty L (some ⟨b,0,none⟩) cap w).mono ?_;rintro en w' ⟨rfl,rfl⟩;refine⟨_,_,fun _ _ _ h=>(by cases h),?_,After.row (c':=.row .str []) hp hs hd hi rfl (show e 900=some (.box b 0 (aa (.row .str [])).length)from he) rfl rfl rfl rfl (Nf _) (fun _ _ _=>rfl) (fun _ _=>rfl) ⟨rfl,fun _=>rfl⟩ (fun j c0 hc=>by simp[aa,bD]at hc)⟩;exact .arr 900 0 1 b (aa (.row .str [])).length cap _ (by simp) (by omega) (by omega) h4 (.inl rfl)
   ·have hpos:0<ss.length:=O2.2 h0;have hb:b<w.heap.size:=b7 (hH 0 (by simpa using hpos)).1;refine(Any.slices_Compact_string L b 0 cap ss w hH (by unfold cm at h4;omega) h3).mono ?_;rintro en w' ⟨rfl,q,rfl⟩
    have hA:=After.strRow (q:=q) (gs:=#[]) (ts:=Lib.compact ss++List.replicate (ss.length-(Lib.compact ss).length) []) hp hs hd hi rfl he (by simp;omega) hb (fun s hs'=>by
     rcases NV.1 hs' with h|h
     ·exact hlen s (yy h)
     ·obtain⟨_,rfl⟩:=List.mem_replicate.1 h;exact Nt _)
    rw[grow_empty]at hA;exact⟨_,_,fun _ _ _ h=>(by cases h),.arr 900 (Lib.compact ss).length 1 b (aa (.row .str ss)).length cap _ (by simp) (by rw[hpl];omega) (by omega) h4 (.inl rfl),hA⟩
  ·have h0:ss=[]:=Ni hz;subst h0;refine(Any.slices_Compact_string_empty L none 0 w).mono ?_;rintro en w' ⟨rfl,rfl⟩;refine⟨_,_,fun _ _ _ h=>(by cases h),?_,After.row (c':=.row .str []) hp hs hd hi rfl (show e 900=some (.box b 0 (aa (.row .str [])).length)from he) rfl rfl rfl rfl (Nf _) (fun _ _ _=>rfl) (fun _ _=>rfl) ⟨rfl,fun _=>rfl⟩ (fun j c0 hc=>by simp[aa,bD]at hc)⟩;exact .arr 900 0 1 b (aa (.row .str [])).length 0 _ (by simp) (by omega) (by omega) h4 (.inr ⟨rfl,rfl,rfl⟩)
end Go.AL
end
section
namespace Go.AL
variable [Tabs]
open Go.Proofs Go.Shelf
variable {P:Program} {ρ:Ren}
def nR(gv:Nat):Pat:=fun args S=>
 match args,S with
 |[.fn g [.ptr 900 0]],[(900,.box (.lst .str zs _))]=>
  if g=gv then some ⟨some (zs.length *16<=140737488355328),none,.arr 0 (jg zs).length 1,[(0,.box (.row .str (jg zs)))]⟩else none
 |_,_=>none
theorem uB{f gv:Nat}(L:SortL P ρ)(hf:ρ.f 6=f)(eg:∀args w,(callFunc gv args).run P w=.ok (.enter gv args) w)(V:wI P gv)(he:aw P f):ae P f (nR gv):=by
 subst hf;intro args S A h hob hkeys;unfold nR at h;split at h
 ·split at h
  ·rename_i e;subst e;cases h;exact⟨he,nQ L eg V _ (hob _ rfl) _⟩
  ·cases h
 ·cases h
def nS:Pat:=fun args S=>
 match args,S with
 |[.arr 900 n 1],[(900,.box (.row .str ss))]=>
  some ⟨some (n=ss.length),none,.arr 900 (Lib.compact ss).length 1,[(900,.box (.row .str (Lib.compact ss++List.replicate (ss.length-(Lib.compact ss).length) [])))]⟩
 |_,_=>none
theorem uC{f:Nat}(L:Lays.n194 P ρ)(hf:ρ.f 194=f)(he:aw P f):ae P f nS:=by
 subst hf;intro args S A h hob hkeys;unfold nS at h;split at h
 ·cases h;exact⟨he,uA L _ _ (hob _ rfl)⟩
 ·cases h
end Go.AL
end
section
namespace Go.AL
open Go.Lib
theorem yz{l:List Str}(hs:l.Pairwise (·<= ·)):(Lib.compact l).length=l.length↔l.Nodup:=by
 unfold Lib.compact Lib.compactUpTo;rw[Oc];have e:((List.range l.length).filter (keeps l.toArray)).length=l.length↔∀j,j<l.length->keeps l.toArray j=true:=by have h:=List.length_filter_eq_length_iff (p:=keeps l.toArray) (l:=List.range l.length);rw[List.length_range]at h;rw[h];simp
 rw[e,List.nodup_iff_pairwise_ne,List.pairwise_iff_getElem];rw[List.pairwise_iff_getElem]at hs;constructor
 ·intro h i j hi hj hij eq;have hk:=h j hj;have hj1:j-1<l.length:=by omega
  have h1:l[i]<=l[j-1]:=by
   rcases Nv i (j-1)with q|q
   ·exact hs i (j-1) hi hj1 q
   ·have:i=j-1:=by omega
    subst this;exact List.le_refl _
  have h2:l[j-1]<=l[j]:=hs (j-1) j hj1 hj (by omega);have h3:l[j-1]=l[j]:=List.le_antisymm h2 (by rw[<-eq];exact h1);unfold keeps at hk;simp[hj,hj1,h3]at hk;omega
 ·intro h j hj;unfold keeps;rcases PC j with q|q
  ·simp[q]
  ·have hj1:j-1<l.length:=by omega
   have:=h (j-1) j hj1 hj (by omega);simp[hj,hj1];exact .inr fun e=>this e.symm
theorem wK(l:List Str):(jg l).Pairwise (·<= ·):=by
 have tr:∀a b c:Str,decide (a<=b)=true->decide (b<=c)=true->decide (a<=c)=true:=fun a b c h1 h2=>by simp only[N8]at *;exact List.le_trans h1 h2
 have to:∀a b:Str,(decide (a<=b)||decide (b<=a))=true:=fun a b=>by simp only[NW,N8];exact List.le_total _ _
 exact(List.pairwise_mergeSort tr to l).imp fun h=>by simpa using h
theorem yA{l:List Str}:(jg l).Nodup↔l.Nodup:=(List.mergeSort_perm l _).nodup_iff
theorem mf(l:List Str):(Lib.compact (jg l)).length=l.length↔l.Nodup:=by
 letI:=we
 rw[<-oQ l,yz (wK l),yA]
end Go.AL
end
section
namespace Go.Pd
open Go.AL
def bL(c:Int):Bool:=decide (97<=c)&&decide (c<=122)
def bM(c:Int):Bool:=decide (65<=c)&&decide (c<=90)
def cv(c:Int):Bool:=decide (48<=c)&&decide (c<=57)
def bB(c:Int):Bool:=bL c||bM c||cv c||decide (c=95)
def bI(b:UInt8):Int:=(b.toNat:Int)
def de(first:Int->Bool)(s:Str):Bool:=!decide (s=[])&&decide (s.length<=24)&&first (bI (s.getD 0 0))&&s.all fun c=>bB (bI c)
def str(s:String):Str:=s.toUTF8.data.toList
def nB:List Str:=[[109,111,100,117,108,101],[105,109,112,111,114,116],[112,105,110],[114,97,110,103,101],[116,121,112,101],[111,112,97,113,117,101],[108,101,116],[105,110],[101,120,112,111,114,116],[102,117,110],[105,102],[116,104,101,110],[101,108,115,101],[99,97,115,101],[111,102],[97,115],[110,101,119],[114,97,119],[116,114,117,101],[102,97,108,115,101]]
def lE(s:Str):Bool:=decide (s∈nB)
def aG(s:Str):Bool:=de bL s&&!lE s
def cW(s:Str):Bool:=de bM s
mutual
def sz:Shape->Nat
 |⟨_,_,_,_,ps⟩=>szL ps+1
def szL:List Shape->Nat
 |[]=>0
 |p::r=>sz p+szL r
end
mutual
def eqS:Shape->Shape->Bool
 |⟨k,p,n,ns,ps⟩,⟨k',p',n',ns',ps'⟩=>decide (k=k')&&decide (p=p')&&decide (n=n')&&decide (ns=ns')&&eqL ps ps'
def eqL:List Shape->List Shape->Bool
 |[],[]=>true
 |a::r,b::s=>eqS a b&&eqL r s
 |_,_=>false
end
mutual
def allS(f:Shape->Bool):Shape->Bool
 |⟨k,p,n,ns,ps⟩=>f ⟨k,p,n,ns,ps⟩&&allL f ps
def allL(f:Shape->Bool):List Shape->Bool
 |[]=>true
 |p::r=>allS f p&&allL f r
end
mutual
def deepS:Shape->Int->Int
 |⟨_,_,_,_,ps⟩,l=>deepL ps (l+1) l
def deepL:List Shape->Int->Int->Int
 |[],_,d=>d
 |p::r,l,d=>deepL r l (max d (deepS p l))
end
def l6(s:Str):Bool:=decide (s=[73,110,116])||decide (s=[66,111,111,108])||decide (s=[84,101,120,116])||decide (s=[65,110,121])
def gh:List Str->Str->Int->Int
 |[],_,_=>-1
 |a::r,v,i=>if a=v then i else gh r v (i+1)
theorem ky(a:Shape):sz a=szL a.parts+1:=by cases a;rfl
theorem gi:∀{l:List Shape} {a:Shape},a∈l->sz a<=szL l
 |b::r,a,h=>by
  simp only[szL];rcases Nw.1 h with rfl|h
  ·omega
  ·have:=gi h;omega
theorem wL:∀{a b:List Shape},a.length≠b.length->eqL a b=false
 |[],[],h=>absurd rfl h
 |[],_::_,_=>rfl
 |_::_,[],_=>rfl
 |a::r,b::s,h=>by simp only[eqL];rw[wL (fun e=>h (by simp[e]))];simp
theorem ve:∀(a:List Str)(v:Str)(i:Int),0<=i->(0<=gh a v i↔v∈a)
 |[],v,i,_=>by simp[gh]
 |x::r,v,i,h=>by
  simp only[gh,Nw];by_cases e:x=v
  ·simp[e,h]
  ·rw[N3 e,ve r v (i+1) (by omega)];constructor
   ·exact Or.inr
   ·rintro(rfl|h)
    ·exact absurd rfl e
    ·exact h
def dm(s:Shape):Bool:=decide (s.names.length=s.parts.length)&&s.names.all aG&&decide s.names.Nodup
def bc(s:Shape):Bool:=
 let bare:=decide (s.pkg=[])&&decide (s.name=[])
 if s.kind=1∨s.kind=2∨s.kind=3∨s.kind=4 then bare&&decide (s.names=[])&&decide (s.parts=[])
 else if s.kind=5 then bare&&decide (s.names=[])&&decide (s.parts.length=1)
 else if s.kind=6∨s.kind=7 then bare&&dm s
 else if s.kind=8 then bare&&decide (s.names=[])&&!decide (s.parts=[])
 else if s.kind=9 then cW s.name&&(decide (s.pkg=[])&&!l6 s.name||aG s.pkg)&&decide (s.names=[])&&decide (s.parts=[])
 else if s.kind=10 then cW s.name&&aG s.pkg&&decide (s.names=[])&&decide (s.parts=[])
 else false
theorem gj(a:Shape):0<sz a:=by rw[ky];omega
theorem oR:∀(l:List Shape),l.length<=szL l
 |[]=>Nt _
 |a::r=>by have:=oR r;have:=gj a;simp only[szL,N7];omega
theorem fH(f:Shape->Bool)(s:Shape):allS f s=(f s&&allL f s.parts):=by cases s;rfl
def Ep:Shape:=⟨0,[],[],[],[]⟩
theorem kx{α:Type}(l:List α)(k:Nat)(d:α)(h:k<l.length):l.take (k+1)=l.take k++[l.getD k d]:=by rw[List.take_add_one,Nb,N9 h];rfl
end Go.Pd
end
section
namespace Go.Pd
open Go.AL
def bz(s:Shape):Int:=if 400<sz s then 3 else if 40<deepS s 1 then 91 else if allS bc s=true then 0 else 70
def L7(t:Nat)(c:Int):Ans:=⟨some (0<=c/\c<=400),some (decide (400<c+1),.iface t (.agg []),[(900,.box (.int .i64 (c+1)))]),.tup [],[(900,.box (.int .i64 (c+1)))]⟩
def wM(t:Nat):Pat:=fun args S=>
 match args,S with
 |[.ptr 900 0],[(900,.box (.int .i64 c))]=>some (L7 t c)
 |_,_=>none
theorem Bw[Tabs]{P:Program}{f t:Nat}(he:aw P f)(h:∀c,0<=c/\c<=400->ax P f [.ptr 900 0] [(900,.box (.int .i64 c))] (L7 t c)):ae P f (wM t):=by
 intro args S A hA ho _;unfold wM at hA;split at hA
 ·simp only[Xs]at hA;subst hA;exact⟨he,h _ (ho _ rfl)⟩
 ·cases hA
def Hh(t:Nat)(s:Shape)(l c:Int)(q:Prop):Ans:=
 ⟨some (q/\0<=c/\c<=400/\1<=l/\l<=c+1),some (decide (400<c+(sz s:Int)),.iface t (.agg []),[(900,.box (.int .i64 401))]),.int .i64 (deepS s l),[(900,.box (.int .i64 (c+(sz s:Int))))]⟩
def ru(t g:Nat)(n:Nat):Pat:=fun args S=>
 match args,S with
 |[a,.int .i64 l,.fn g' [.ptr 900 0]],[(900,.box (.int .i64 c))]=>
  (match Nat.beq g' g,arg (.st .shape) a with
  |true,some s=>some (Hh t s l c (sz s<=n))
  |_,_=>none)
 |_,_=>none
theorem sA[Tabs]{P:Program}{f t g n:Nat}(he:aw P f)(h:∀s l c,Wf (.st .shape) s->sz s<=n->(0<=c/\c<=400/\1<=l/\l<=c+1)->ax P f [.st .shape s,.int .i64 l,.fn g [.ptr 900 0]] [(900,.box (.int .i64 c))] (Hh t s l c (sz s<=n))) :
  ae P f (ru t g n):=by
 intro args S A hA ho _;unfold ru at hA;split at hA
 ·split at hA
  ·rename_i s hb hs;simp only[Xs]at hA;subst hA;have e:=Nx hb;subst e;obtain⟨h1,h2⟩:=ho _ rfl;exact⟨he,ax.args (.cons (Rd.arg hs) (.cons (Rd.refl _) (.cons (Rd.refl _) .nil))) (ax.wf fun hw=>h _ _ _ hw.one h1 h2)⟩
  ·cases hA
 ·cases hA
theorem nC:∀(l:List Shape)(k:Nat)(d:Shape),k<l.length->szL (l.take (k+1))=szL (l.take k)+sz (l.getD k d)
 |a::r,0,d,_=>by simp[szL]
 |a::r,k+1,d,h=>by have:=nC r k d (by simpa using h);simp only[Pz,szL,OL]at this⊢;omega
theorem yB(l:List Shape)(k:Nat):szL (l.take k)<=szL l:=by
 induction l generalizing k with
 |nil=>simp[szL]
 |cons a r ih=>
  cases k with|zero=>simp[szL]|succ k=>have:=ih k;simp only[Pz,szL];omega
theorem jJ{s:Shape}(h:bz s=0):sz s<=400/\deepS s 1<=40/\allS bc s=true:=by
 unfold bz at h;split at h
 ·omega
 split at h
 ·omega
 split at h
 ·exact⟨by omega,by omega,by assumption⟩
 ·omega
end Go.Pd
end
section
namespace Go.Pd
open Go.AL
abbrev PS:=Par
def dP(l:List Tokn)(a:Int):Tokn:=
 if a<(l.length:Int)then l.getD a.toNat (dfl (.st .token))
 else if l.length=0 then⟨0,[],0⟩else⟨0,[],(l.getD ((l.length:Int)-1).toNat (dfl (.st .token))).pos⟩
def jK(l:List Tokn)(a:Int)(t:Str):Bool:=(decide ((dP l a).kind=6)||decide ((dP l a).kind=5))&&decide ((dP l a).text=t)
def an(s:PS):Tokn:=dP s.toks s.pos
def aY(s:PS):Bool:=!decide (s.err=0)
def cC(e a:Int)(s:PS):PS:=if s.err=0 then⟨s.toks,s.pos,e,a⟩else s
def aD(s:PS):PS:=⟨s.toks,s.pos+1,s.err,s.fat⟩
def isF(t:Str)(s:PS):Bool:=jK s.toks s.pos t&&!aY s
def cA(t:Str)(s:PS):PS:=if isF t s=true then aD s else s
def aj(t:Str)(s:PS):PS:=if isF t s=true then aD s else cC 90 (an s).pos s
def aM(k:Int)(s:PS):Tokn×PS:=
 if(an s).kind=k/\aY s=false then(an s,aD s)else(⟨0,[],0⟩,cC 90 (an s).pos s)
def bN(ns:List Str)(s:PS):Str×PS:=
 ((aM 1 s).1.text,if aY (aM 1 s).2=false/\(aM 1 s).1.text∈ns then cC 111 (aM 1 s).1.pos (aM 1 s).2 else(aM 1 s).2)
def aV{σ:Type}(btw en:Str)(one:σ->PS->σ×PS):Nat->σ->PS->σ×PS
 |0,x,s=>(x,s)
 |n+1,x,s=>if aY s=true then(x,s)else if isF en (one x s).2=true then((one x s).1,aD (one x s).2)else aV btw en one n (one x s).1 (aj btw (one x s).2)
def ab{σ:Type}(btw en:Str)(one:σ->PS->σ×PS)(x:σ)(s:PS):σ×PS:=
 if isF en s=true then(x,aD s)else aV btw en one (s.toks.length+2) x s
def gL(pkg name:Str):Shape:=
 if pkg=[]/\name=[73,110,116]then⟨1,[],[],[],[]⟩
 else if pkg=[]/\name=[66,111,111,108]then⟨2,[],[],[],[]⟩
 else if pkg=[]/\name=[84,101,120,116]then⟨3,[],[],[],[]⟩
 else if pkg=[]/\name=[65,110,121]then⟨4,[],[],[],[]⟩
 else⟨9,pkg,name,[],[]⟩
def az(R:PS->Shape×PS)(x:Shape)(s:PS):Shape×PS:=
 let a:=bN x.names s
 let b:=R (aj [58] a.2)
 (⟨x.kind,x.pkg,x.name,x.names++[a.1],x.parts++[b.1]⟩,b.2)
def aB(R:PS->Shape×PS)(x:Shape)(s:PS):Shape×PS:=(⟨x.kind,x.pkg,x.name,x.names,x.parts++[(R s).1]⟩,(R s).2)
def eV(R:PS->Shape×PS)(s:PS):Shape×PS:=
 let t:=an s
 if t.kind=2/\aY s=false then(gL [] t.text,aD s)
 else if t.kind=1/\aY s=false then
  let a:=aM 2 (aj [47] (aD s))
  (gL t.text a.1.text,a.2)
 else if isF [91] s=true then
  let a:=R (aD s)
  (⟨5,[],[],[],[a.1]⟩,aj [93] a.2)
 else if isF [123] s=true then ab [44] [125] (az R) ⟨6,[],[],[],[]⟩ (aD s)
 else if isF [60] s=true then ab [124] [62] (az R) ⟨7,[],[],[],[]⟩ (aD s)
 else if isF [40] s=true then
  let a:=ab [44] [41] (aB R) ⟨8,[],[],[],[]⟩ (aD s)
  aB R a.1 (aj [45,62] a.2)
 else(⟨0,[],[],[],[]⟩,cC 90 t.pos s)
def ah:Nat->PS->Shape×PS
 |0,s=>(⟨0,[],[],[],[]⟩,s)
 |n+1,s=>eV (ah n) s
abbrev big:Nat:=5000
def bw(s:PS):Shape×PS:=
 let a:=ah big s
 (a.1,if aY a.2=true then a.2 else if bz a.1=0 then a.2 else cC (bz a.1) (an s).pos a.2)
def ca(t:Trm)(u:Trm):Trm:=⟨t.kind,t.pkg,t.name,t.n,t.names,t.vars,t.shapes,t.parts++[u],t.pos⟩
def bd(t:Trm)(u:Shape):Trm:=⟨t.kind,t.pkg,t.name,t.n,t.names,t.vars,t.shapes++[u],t.parts,t.pos⟩
def bR(t:Trm)(u:Str):Trm:=⟨t.kind,t.pkg,t.name,t.n,t.names++[u],t.vars,t.shapes,t.parts,t.pos⟩
def df(t:Trm)(u:Str):Trm:=⟨t.kind,t.pkg,t.name,t.n,t.names,t.vars++[u],t.shapes,t.parts,t.pos⟩
def aA(R:PS->Trm×PS)(t:Trm)(s:PS):Trm×PS:=(ca t (R s).1,(R s).2)
def eQ(ahead:Str)(t:Trm)(s:PS):Trm×PS:=(bd t (bw (aj ahead s)).1,(bw (aj ahead s)).2)
def aC(t:Trm)(s:PS):Trm×PS:=eQ [58] (bR t (bN t.names s).1) (bN t.names s).2
def ak(R:PS->Trm×PS)(t:Trm)(s:PS):Trm×PS:=
 let a:=bN t.names s
 let b:=aM 1 (aj [40] a.2)
 let c:=eQ [58] (df (bR t a.1) b.1.text) b.2
 aA R c.1 (aj [45,62] (aj [41] c.2))
def ai(R:PS->Trm×PS)(t:Trm)(s:PS):Trm×PS:=
 let a:=bN t.names s
 aA R (bR t a.1) (aj [61] a.2)
def cz(R:PS->Trm×PS)(s:PS):List Trm×PS:=
 let a:=R (aj [40] s)
 ([a.1],aj [41] a.2)
def im(s:Str):Int:=s.foldl (fun n c=>10 *n+((c.toNat:Int)-48)) 0
def cE(R:PS->Trm×PS)(s:PS):Trm×PS:=
 if aY s=true then(⟨0,[],[],0,[],[],[],[],(an s).pos⟩,s)
 else if(an s).kind=3 then(⟨1,[],[],im (an s).text,[],[],[],[],(an s).pos⟩,aD s)
 else if(an s).kind=4 then(⟨2,[],(an s).text,0,[],[],[],[],(an s).pos⟩,aD s)
 else if(an s).kind=1 then
  if isF [47] (aD s)=true then
   let a:=aM 1 (aD (aD s))
   (⟨5,(an s).text,a.1.text,0,[],[],[],[],(an s).pos⟩,a.2)
  else(⟨5,[],(an s).text,0,[],[],[],[],(an s).pos⟩,aD s)
 else if isF [116,114,117,101] s=true then(⟨3,[],[],0,[],[],[],[],(an s).pos⟩,aD s)
 else if isF [102,97,108,115,101] s=true then(⟨4,[],[],0,[],[],[],[],(an s).pos⟩,aD s)
 else if isF [40] s=true then
  let u:=R (aD s)
  if isF [97,115] u.2=true then
   let a:=bw (aD u.2)
   (⟨15,[],[],0,[],[],[a.1],[u.1],(an s).pos⟩,aj [41] a.2)
  else(u.1,aj [41] u.2)
 else if isF [123] s=true then ab [44] [125] (ai R) ⟨8,[],[],0,[],[],[],[],(an s).pos⟩ (aD s)
 else if isF [64] s=true then
  let a:=aM 1 (aD s)
  let b:=cz R a.2
  (⟨10,[],a.1.text,0,[],[],[],b.1,(an s).pos⟩,b.2)
 else if isF [110,101,119] s=true then
  let a:=aM 2 (aD s)
  let b:=cz R a.2
  (⟨16,[],a.1.text,0,[],[],[],b.1,(an s).pos⟩,b.2)
 else if isF [114,97,119] s=true then
  let a:=aM 2 (aD s)
  let b:=cz R a.2
  (⟨17,[],a.1.text,0,[],[],[],b.1,(an s).pos⟩,b.2)
 else(⟨0,[],[],0,[],[],[],[],(an s).pos⟩,cC 90 (an s).pos s)
def dU(R:PS->Trm×PS)(p:Int):Nat->Trm->PS->Trm×PS
 |0,t,s=>(t,s)
 |n+1,t,s=>
  if aY s=true then(t,s)
  else if isF [40] s=true then
   let a:=ab [44] [41] (aA R) ⟨7,[],[],0,[],[],[],[t],p⟩ (aD s)
   dU R p n a.1 a.2
  else if isF [46] s=true then
   let a:=aM 1 (aD s)
   dU R p n ⟨9,[],a.1.text,0,[],[],[],[t],p⟩ a.2
  else(t,s)
def fT(R:PS->Trm×PS)(s:PS):Trm×PS:=dU R (an s).pos (s.toks.length+2) (cE R s).1 (cE R s).2
def fC(R:PS->Trm×PS)(s:PS):Trm×PS:=
 if isF [102,117,110] s=true then
  let a:=ab [44] [41] (aC) ⟨6,[],[],0,[],[],[],[],(an s).pos⟩ (aj [40] (aD s))
  aA R a.1 (aj [45,62] a.2)
 else if isF [108,101,116] s=true then
  let a:=aM 1 (aD s)
  let b:=aA R ⟨14,[],a.1.text,0,[],[],[],[],(an s).pos⟩ (aj [61] a.2)
  aA R b.1 (aj [105,110] b.2)
 else if isF [105,102] s=true then
  let a:=aA R ⟨12,[],[],0,[],[],[],[],(an s).pos⟩ (aD s)
  let b:=aA R a.1 (aj [116,104,101,110] a.2)
  let c:=aA R b.1 (aj [101,108,115,101] b.2)
  eQ [97,115] c.1 c.2
 else if isF [99,97,115,101] s=true then
  let a:=aA R ⟨13,[],[],0,[],[],[],[],(an s).pos⟩ (aD s)
  let b:=ab [124] [125] (ak R) a.1 (aj [123] (aj [111,102] a.2))
  eQ [97,115] b.1 b.2
 else if isF [91] s=true then
  let a:=ab [44] [93] (aA R) ⟨11,[],[],0,[],[],[],[],(an s).pos⟩ (aD s)
  eQ [111,102] a.1 a.2
 else fT R s
def a7:Nat->PS->Trm×PS
 |0,s=>(⟨0,[],[],0,[],[],[],[],0⟩,s)
 |n+1,s=>fC (a7 n) s
end Go.Pd
end
section
namespace Go.Pd
open Go.AL
def kz(t:Str):Prop:=t≠[]/\t.length<=15/\∀c∈t,48<=c.toNat/\c.toNat<=57
def qW(l:List Tokn):Prop:=∀t∈l,t.kind=3->kz t.text
def a8(s:Par):Prop:=0<=s.pos/\s.pos<=(s.toks.length:Int)/\s.toks.length<=4097/\qW s.toks
def rem(s:Par):Nat:=if s.err=0 then((s.toks.length:Int)-s.pos).toNat+1 else 0
theorem gV{l:List Tokn}{a:Int}(h:¬(dP l a).kind=0):a<(l.length:Int):=by
 unfold dP at h;by_cases c:a<(l.length:Int)
 ·exact c
 ·rw[N3 c]at h;split at h<;>exact absurd rfl h
theorem dV{t:Str}{s:Par}(h:isF t s=true):s.pos<(s.toks.length:Int)/\s.err=0:=by simp only[isF,jK,aY,N4,NW,N8,Pm]at h;refine⟨gV ?_,h.2⟩;rcases h.1.1 with e|e<;>omega
theorem yC{s:Par}(h:a8 s)(h2:s.pos<(s.toks.length:Int)):a8 (aD s):=by obtain⟨a,b,c⟩:=h;exact⟨by simp only[aD];omega,by simp only[aD];omega,c⟩
theorem aL{t:Str}{s:Par}(h:isF t s=true):cA t s=aD s:=by unfold cA;rw[N6 h]
theorem aR{t:Str}{s:Par}(h:isF t s=false):cA t s=s:=by unfold cA;rw[h];rfl
theorem oS{s:Par}(h:a8 s)(h2:s.pos<(s.toks.length:Int))(h3:s.err=0):rem (aD s)+1=rem s:=by obtain⟨a,b,c⟩:=h;simp only[rem,aD,h3,NS];omega
theorem aW{t:Str}{s:Par}(h:a8 s)(h2:isF t s=true):rem (aD s)+1=rem s:=oS h (dV h2).1 (dV h2).2
theorem wN{s:Par}(h:¬s.err=0):rem s=0:=by simp[rem,h]
theorem Hi{s:Par}:rem s=0↔¬s.err=0:=by unfold rem;split<;>simp_all
theorem bY{s:Par}:aY s=true↔¬s.err=0:=by simp[aY]
theorem bK{s:Par}:aY s=false↔s.err=0:=by simp[aY]
theorem Er{e a:Int}{s:Par}(h:a8 s):a8 (cC e a s):=by unfold cC;split<;>exact h
theorem jh{e a:Int}{s:Par}(he:¬e=0):rem (cC e a s)=0:=by
 unfold cC;split
 ·exact wN he
 ·rename_i h;exact wN h
structure Goes(s s':Par):Prop where
 good:a8 s'
 toks:s'.toks=s.toks
 le:rem s'<=rem s
 cap:∀q:Int,(dP s.toks q).kind=0->s.pos<=q->s'.pos<=q
theorem Goes.refl{s:Par}(h:a8 s):Goes s s:=⟨h,rfl,Nf _,fun _ _ h=>h⟩
theorem Goes.trans{a b c:Par}(h:Goes a b)(k:Goes b c):Goes a c:=⟨k.good,k.toks.trans h.toks,NG k.le h.le,fun q h0 h1=>k.cap q (by rw[h.toks];exact h0) (h.cap q h0 h1)⟩
theorem oT{s:Par}(h:a8 s)(h2:s.pos<(s.toks.length:Int))(h3:s.err=0)(hk:¬(dP s.toks s.pos).kind=0):Goes s (aD s):=
 ⟨yC h h2,rfl,by have:=oS h h2 h3;omega,fun q h0 h1=>by
  have:s.pos≠q:=fun e=>hk (by rw[e];exact h0);show s.pos+1<=q;omega⟩
theorem Hj{t:Str}{s:Par}(h:isF t s=true):¬(dP s.toks s.pos).kind=0:=by simp only[isF,jK,aY,N4,NW,N8,Pm]at h;rcases h.1.1 with e|e<;>omega
theorem cZ{t:Str}{s:Par}(h:a8 s)(h2:isF t s=true):Goes s (aD s):=oT h (dV h2).1 (dV h2).2 (Hj h2)
theorem iV{e a:Int}{s:Par}(h:a8 s)(he:¬e=0):Goes s (cC e a s):=⟨Er h,by unfold cC;split<;>rfl,by rw[jh he];exact Nt _,fun q _ h=>by unfold cC;split<;>exact h⟩
theorem cb{t:Str}{s:Par}(h:a8 s):Goes s (aj t s):=by
 unfold aj;split
 ·rename_i c;exact cZ h c
 ·exact iV h (by decide)
def l7(s s':Par):Prop:=rem s'<rem s∨rem s'=0
theorem Es{t:Str}{s:Par}(h:a8 s):l7 s (aj t s):=by
 unfold aj l7;split
 ·rename_i c;have:=aW h c;exact .inl (by omega)
 ·exact .inr (jh (by decide))
theorem mT{k:Int}{s:Par}(h:a8 s)(hk:¬k=0):Goes s (aM k s).2/\l7 s (aM k s).2:=by
 unfold aM l7;split
 ·rename_i c;have h3:=bK.1 c.2;have h2:s.pos<(s.toks.length:Int):=gV (by have:=c.1;unfold an at this;rw[this];exact hk);have:=oS h h2 h3;exact⟨oT h h2 h3 (by have:=c.1;unfold an at this;rw[this];exact hk),.inl (by show rem (aD s)<_;omega)⟩
 ·exact⟨iV h (by decide),.inr (jh (by decide))⟩
theorem l8{ns:List Str}{s:Par}(h:a8 s):Goes s (bN ns s).2/\l7 s (bN ns s).2:=by
 obtain⟨h1,h2⟩:=mT (k:=1) h (by decide);unfold bN;simp only;split
 ·exact⟨h1.trans (iV h1.good (by decide)),.inr (jh (by decide))⟩
 ·exact⟨h1,h2⟩
theorem l7.then{a b c:Par}(h:l7 a b)(k:Goes b c):l7 a c:=by
 rcases h with h|h
 ·exact .inl (Nat.lt_of_le_of_lt k.le h)
 ·exact .inr (Nat.le_zero.1 (by rw[<-h];exact k.le))
theorem Goes.then{a b c:Par}(h:Goes a b)(k:l7 b c):l7 a c:=by
 rcases k with k|k
 ·exact .inl (Pl k h.le)
 ·exact .inr k
def fD{α:Type}(R:Par->α×Par)(n:Nat):Prop:=∀s,a8 s->rem s<n->Goes s (R s).2/\l7 s (R s).2
def ec{σ:Type}(one:σ->Par->σ×Par)(n:Nat):Prop:=∀x s,a8 s->s.err=0->rem s<=n->Goes s (one x s).2/\l7 s (one x s).2
theorem da{s:Par}(h:s.err=0):1<=rem s:=by simp[rem,h]
theorem l7.lt{a b:Par}{n:Nat}(h:l7 a b)(k:rem a<=n)(h0:a.err=0):rem b<n:=by have:=da h0;rcases h with h|h<;>omega
theorem fL{σ:Type}{n:Nat}{one:σ->Par->σ×Par}(h:ec one n){btw en:Str}{x:σ}{s:Par}{k:Nat}(hi:a8 s)(h0:s.err=0)(hn:rem s<=n)(hk:rem s<k+1) :
  a8 (aj btw (one x s).2)/\(aj btw (one x s).2).toks=s.toks/\rem (aj btw (one x s).2)<=n/\rem (aj btw (one x s).2)<k:=by
 obtain⟨g,e⟩:=h x s hi h0 hn;have gm:=cb (t:=btw) g.good;have hp:=da h0;refine⟨gm.good,gm.toks.trans g.toks,NG (g.trans gm).le hn,?_⟩;rcases e.then gm with q|q<;>omega
theorem pY{σ:Type}{n:Nat}{one:σ->Par->σ×Par}(h:ec one n)(btw en:Str):∀(k:Nat)(x:σ)(s:Par),a8 s->rem s<=n->Goes s (aV btw en one k x s).2
 |0,x,s,hi,_=>Goes.refl hi
 |k+1,x,s,hi,hn=>by
  simp only[aV];by_cases b:aY s=true
  ·rw[N6 b];exact Goes.refl hi
  ·rw[N3 b];have h0:s.err=0:=bK.1 (by simpa using b);obtain⟨g,e⟩:=h x s hi h0 hn;by_cases c:isF en (one x s).2=true
   ·rw[N6 c];exact g.trans (cZ g.good c)
   ·rw[N3 c];have gm:=g.trans (cb (t:=btw) g.good);exact gm.trans (pY h btw en k _ _ gm.good (NG gm.le hn))
theorem bf{σ:Type}{n:Nat}{one:σ->Par->σ×Par}(h:ec one n)(btw en:Str)(x:σ){s:Par}(hi:a8 s)(hn:rem s<=n):Goes s (ab btw en one x s).2:=by
 unfold ab;by_cases c:isF en s=true
 ·rw[N6 c];exact cZ hi c
 ·rw[N3 c];exact pY h btw en _ x s hi hn
theorem yD{σ:Type}{one:σ->Par->σ×Par}(m:σ->Nat)(h:∀x s,m (one x s).1<=m x+1)(btw en:Str):∀(k:Nat)(x:σ)(s:Par),m (aV btw en one k x s).1<=m x+k
 |0,x,s=>Nf _
 |k+1,x,s=>by
  simp only[aV];have h1:=h x s;split
  ·show m x<=_;omega
  split
  ·show m (one x s).1<=_;omega
  ·have:=yD m h btw en k (one x s).1 (aj btw (one x s).2);omega
theorem dK{σ:Type}{one:σ->Par->σ×Par}(m:σ->Nat)(h:∀x s,m (one x s).1<=m x+1)(btw en:Str)(x:σ)(s:Par):m (ab btw en one x s).1<=m x+(s.toks.length+2):=by
 unfold ab;split
 ·show m x<=_;omega
 ·exact yD m h btw en _ x s
theorem vf{σ:Type}{one:σ->Par->σ×Par}(p:σ->Prop)(h:∀x s,p x->p (one x s).1)(btw en:Str):∀(k:Nat)(x:σ)(s:Par),p x->p (aV btw en one k x s).1
 |0,x,s,hx=>hx
 |k+1,x,s,hx=>by
  simp only[aV];split
  ·exact hx
  split
  ·exact h x s hx
  ·exact vf p h btw en k _ _ (h x s hx)
theorem cw{σ:Type}{one:σ->Par->σ×Par}(p:σ->Prop)(h:∀x s,p x->p (one x s).1)(btw en:Str){x:σ}(s:Par)(hx:p x):p (ab btw en one x s).1:=by
 unfold ab;split
 ·exact hx
 ·exact vf p h btw en _ x s hx
theorem dh{R:Par->Shape×Par}{n:Nat}(hR:fD R n):ec (az R) n:=by intro x s hi h0 hn;obtain⟨g1,e1⟩:=l8 (ns:=x.names) hi;have g2:=g1.trans (cb (t:=[58]) g1.good);have e2:l7 s (aj [58] (bN x.names s).2):=e1.then (cb g1.good);obtain⟨g3,e3⟩:=hR _ g2.good (e2.lt hn h0);exact⟨g2.trans g3,g2.then e3⟩
theorem gM{R:Par->Shape×Par}{n:Nat}(hR:fD R (n+1)):ec (aB R) n:=by intro x s hi h0 hn;exact hR s hi (by omega)
theorem wO{R:Par->Shape×Par}{n:Nat}(hR:fD R n):fD (eV R) (n+1):=by
 intro s hi hn;unfold eV;simp only;have hadv:∀{t:Str},isF t s=true->Goes s (aD s)/\rem (aD s)+1=rem s/\l7 s (aD s):=fun c=>⟨cZ hi c,aW hi c,.inl (by have:=aW hi c;omega)⟩;have tk:∀k:Int,¬k=0->(an s).kind=k/\aY s=false->Goes s (aD s)/\rem (aD s)+1=rem s/\l7 s (aD s):=fun k hk c=>by have h3:=bK.1 c.2;have h2:s.pos<(s.toks.length:Int):=gV (by have:=c.1;unfold an at this;rw[this];exact hk);have:=oS hi h2 h3;exact⟨oT hi h2 h3 (by have:=c.1;unfold an at this;rw[this];exact hk),this,.inl (by omega)⟩
 split
 ·rename_i c;obtain⟨a,_,b⟩:=tk 2 (by decide) c;exact⟨a,b⟩
 split
 ·rename_i c;obtain⟨a,_,b⟩:=tk 1 (by decide) c;have g:=cb (t:=[47]) a.good;obtain⟨t1,t2⟩:=mT (k:=2) g.good (by decide);exact⟨(a.trans g).trans t1,(b.then g).then t1⟩
 split
 ·rename_i c;obtain⟨a,d,b⟩:=hadv c;obtain⟨r1,r2⟩:=hR _ a.good (by omega);have g:=cb (t:=[93]) r1.good;exact⟨(a.trans r1).trans g,(b.then r1).then g⟩
 split
 ·rename_i c;obtain⟨a,d,b⟩:=hadv c;have g:=bf (dh hR) [44] [125] ⟨6,[],[],[],[]⟩ a.good (by omega);exact⟨a.trans g,b.then g⟩
 split
 ·rename_i c;obtain⟨a,d,b⟩:=hadv c;have g:=bf (dh hR) [124] [62] ⟨7,[],[],[],[]⟩ a.good (by omega);exact⟨a.trans g,b.then g⟩
 split
 ·rename_i c;obtain⟨a,d,b⟩:=hadv c;have hp:=da (dV c).2;obtain⟨m,rfl⟩:∃m,n=m+1:=⟨n-1,by omega⟩;have g:=bf (gM hR) [44] [41] ⟨8,[],[],[],[]⟩ a.good (by omega);have g2:=g.trans (cb (t:=[45,62]) g.good);obtain⟨r1,r2⟩:=hR _ g2.good (by have:=g2.le;omega);exact⟨(a.trans g2).trans r1,(b.then g2).then r1⟩
 ·exact⟨iV hi (by decide),.inr (jh (by decide))⟩
theorem bj:∀n,fD (ah n) n
 |0=>fun s _ h=>absurd h (OO _)
 |n+1=>wO (bj n)
theorem nT{s:Par}(h:a8 s):rem s<=4098:=by obtain⟨a,b,c⟩:=h;unfold rem;split<;>omega
theorem mg{s:Par}(hi:a8 s):Goes s (bw s).2/\l7 s (bw s).2:=by
 obtain⟨a,b⟩:=bj big s hi (by have:=nT hi;unfold big;omega);unfold bw;simp only;split
 ·exact⟨a,b⟩
 split
 ·exact⟨a,b⟩
 ·rename_i h;exact⟨a.trans (iV a.good h),.inr (jh h)⟩
end Go.Pd
end
section
namespace Go.AL
open Go.Proofs Go.Shelf Go.RowKit Go.Pd
theorem qI:∀(l:Str)(acc:Nat),(∀c∈l,48<=c.toNat/\c.toNat<=57)->∃m:Nat,Lib.decFrom acc l=some m/\(m:Int)=l.foldl (fun n c=>10 *n+((c.toNat:Int)-48)) (acc:Int)/\m<(acc+1) *10 ^ l.length
 |[],acc,_=>⟨acc,rfl,rfl,by simp⟩
 |c::r,acc,h=>by
  obtain⟨h1,h2⟩:=h c (NF ..);obtain⟨m,e1,e2,e3⟩:=qI r (acc *10+(c.toNat-48)) (fun d hd=>h d (Nn _ hd));refine⟨m,?_,?_,?_⟩
  ·simp only[Lib.decFrom,Lib.digitVal,h1,h2,Qn,NS];exact e1
  ·rw[e2,PY];congr 1;omega
  ·refine Pl e3 ?_;rw[N7,Nat.pow_succ,<-Nat.mul_assoc,Nat.mul_right_comm];exact O8 _ (by omega)
theorem atoi_num{t:Str}(h:kz t):Lib.atoi t=some (im t)/\0<=im t/\im t<1000000000000000:=by
 obtain⟨h1,h2,h3⟩:=h;obtain⟨m,e1,e2,e3⟩:=qI t 0 h3;have e4:(m:Int)=im t:=e2;refine⟨?_,by omega,?_⟩
 ·cases t with
  |nil=>exact absurd rfl h1
  |cons c r=>
   have hc:=h3 c (NF ..);have n1:(c ==45)=false:=by rw[Pg];rintro rfl;simp at hc
   have n2:(c ==43)=false:=by rw[Pg];rintro rfl;simp at hc
   simp only[Lib.atoi,n1,n2,NC,ND,Lib.decNat,List.isEmpty_cons,e1,OC,e4]
 ·have:m<10 ^ t.length:=by simpa using e3
  have h10:10 ^ t.length<=10 ^ 15:=Nat.pow_le_pow_right (by decide) h2;have:m<1000000000000000:=Pl this h10;omega
variable [Tabs] {P:Program} {ρ:Ren}
theorem After.below{w w':World}{pub:Nat->Nat->Prop}{e:Nat->Option CObj}(hp:kh w pub)(hd:∀id,e id=none)(hb:Below w.heap.size w w'):After w pub e (aE (putB [] [])) w' pub e where
 os:=hb.os
 tape:=hb.tape
 output:=hb.output
 size:=hb.size
 block b h _:=hb.block b h
 cell b o h _:=aF (hb.block b h) o
 kind b h _:=⟨bZ (hb.block b h),fun o=>bC (hb.block b h) o⟩
 ext:=⟨fun _ c h=>⟨c,h,CLe.refl c⟩,fun _ _ h=>h,fun b o h=>by obtain⟨v,hv⟩:=hp b o h;exact aF (hb.block b (b7 hv)) o⟩
 fresh b o h:=.inl h
 ok b o h:=by obtain⟨v,hv⟩:=hp b o h;exact⟨v,(aF (hb.block b (b7 hv)) o).trans hv⟩
 slots id o h:=by simp[putB,aE]at h
 dom id _:=hd id
 inj i j c d b o h:=by rw[hd i]at h;cases h
theorem Bx(L:Lays.n172 P ρ)(t:Str)(h:kz t):ax P (ρ.f 172) [.str t] [] ⟨some (kz t),none,.tup [.int .i64 (im t),.nilif],[]⟩:=by intro w pub e vs hp ht hv hs hd hi;obtain⟨v,rfl,h1⟩:=VL.one_inv hv;obtain⟨rfl,hl⟩:=h1.str_inv;obtain⟨a1,a2,a3⟩:=atoi_num h;refine(Any.strconv_Atoi L ⟨t.toArray⟩ (im t) (by have:=h.2.1;show t.toArray.size<=18;simp;omega) (by simpa using a1) w).mono ?_;rintro en w' ⟨rfl,ty,rfl⟩;refine⟨pub,e,?_⟩;refine And.intro (fun b pv u h=>by cases h) (And.intro ?_ (After.below hp (fun id=>hd id rfl) (Lib.bytesWorld_below w _ _)));have b1:inR .i64 (im t):=aK (by omega) (by omega);exact V.of_tup (VL.cons (.int _ _ b1.1 b1.2) (VL.cons .nilif .nil))
def JZ:Pat:=p1 .str fun t=>⟨some (kz t),none,.tup [.int .i64 (im t),.nilif],[]⟩
theorem By{f:Nat}(L:Lays.n172 P ρ)(hf:ρ.f 172=f)(he:aw P f):ae P f JZ:=by subst hf;exact bX he fun t _ ho=>Bx L t (ho _ rfl)
end Go.AL
end
section
namespace Go.AL
variable [Tabs]
def RdO:SObj->SObj->Prop
 |.box c,.box d=>RdL (aa c) (aa d)
 |o,o'=>o=o'
theorem RdO.refl(o:SObj):RdO o o:=by
 cases o with|box c=>exact RdL.refl _|_=>rfl
theorem RdO.slot{Ω:Om}{own:Nat->Nat->Prop}{id:Nat}{o o':SObj}(h:bH Ω own id o)(hr:RdO o o'):bH Ω own id o':=by
 cases o with
 |box c=>
  cases o' with
  |box d=>exact bH.rd h hr
  |_=>cases hr
 |_=>cases o'<;>first|(cases hr;exact h)|cases hr
inductive RdS:List (Nat×SObj)->List (Nat×SObj)->Prop
 |nil:RdS [] []
 |cons {i:Nat} {o o':SObj} {r r':List (Nat×SObj)}:RdO o o'->RdS r r'->RdS ((i,o)::r) ((i,o')::r')
theorem RdS.get{S S':List (Nat×SObj)}(h:RdS S S')(id:Nat):(aE S id=none/\aE S' id=none)∨∃o o',aE S id=some o/\aE S' id=some o'/\RdO o o':=by
 induction h with
 |nil=>exact .inl ⟨rfl,rfl⟩
 |@cons i o o' r r' ho _ ih=>
  simp only[aE];by_cases hi:i=id
  ·simp only[hi,Pw,NS];exact .inr ⟨o,o',rfl,rfl,ho⟩
  ·simp only[O7,hi,ND];exact ih
theorem vg(S:List (Nat×SObj))(u:List (Nat×SObj))(id:Nat):aE (AL.putB S u) id=AL.updB (aE S) u id:=by rw[je]
theorem Dr:∀(u:List (Nat×SObj))(B B':Nat->Option SObj)(id:Nat),id∈au u->updB B u id=updB B' u id
 |(i,o)::r,B,B',id,h=>by
  simp only[updB];by_cases hr:id∈au r
  ·exact Dr r _ _ id hr
  ·have hi:id=i:=by simp only[au,Nj,Nw]at h hr;exact h.resolve_right hr
   subst hi;rw[gf r _ id hr,gf r _ id hr];simp
theorem ax.slots{P:Program}{f:Nat}{args:List AV}{S S':List (Nat×SObj)}{A:Ans}(hr:RdS S S')(hp:A.pan=none)(hu:∀i∈au S,i∈au A.upd)
 (h:ax P f args S' A):ax P f args S A:=by
 intro w pub e vs hpo ht hv hs hd hi
 have e2:aE (putB S A.upd)=aE (putB S' A.upd):=by
  funext id;rw[vg,vg];by_cases hk:id∈au A.upd
  ·exact Dr _ _ _ _ hk
  ·rw[gf _ _ _ hk,gf _ _ _ hk];rcases hr.get id with⟨h1,h2⟩|⟨o,o',h1,h2,_⟩
   ·rw[h1,h2]
   ·exact absurd (hu id (by
     have:=dT _ _ _ h1;exact O5.2 ⟨_,this,rfl⟩)) hk
 refine(h w pub e vs hpo ht hv (fun id o ho=>?_) (fun id hid=>?_) hi).mono ?_
 ·rcases hr.get id with⟨h1,h2⟩|⟨o1,o2,h1,h2,h3⟩
  ·rw[h2]at ho;cases ho
  ·rw[h2]at ho;cases ho;exact h3.slot (hs id o1 h1)
 ·rcases hr.get id with⟨h1,_⟩|⟨o1,o2,_,h2,_⟩
  ·exact hd id h1
  ·rw[h2]at hid;cases hid
 ·intro en w' hq;obtain⟨pub',e',hq⟩:=hq;refine⟨pub',e',?_⟩
  cases en with
  |returned v=>simp only at hq⊢;rw[e2];exact hq
  |panicked ch=>obtain⟨pv,u,v,h1,_⟩:=hq;rw[hp]at h1;cases h1
  |outgrown=>exact hq
section
variable {P:Program} {f:Nat}
def pP0(F:Par->Ans):Pat
 |[.ptr 900 0],[(900,.box c)]=>(match arg (.st .par) c with|some x=>some (F x)|none=>none)
 |_,_=>none
def pP1(τ:Ty)(F:Par->den τ->Ans):Pat
 |[.ptr 900 0,a],[(900,.box c)]=>(match arg (.st .par) c,arg τ a with|some x,some y=>some (F x y)|_,_=>none)
 |_,_=>none
def pP2(τ σ:Ty)(F:Par->den τ->den σ->Ans):Pat
 |[.ptr 900 0,a,b],[(900,.box c)]=>(match arg (.st .par) c,arg τ a,arg σ b with|some x,some y,some z=>some (F x y z)|_,_,_=>none)
 |_,_=>none
theorem rdP{c:AV}{x:Par}(h:arg (.st .par) c=some x):RdS [(900,.box c)] [(900,.box (.st .par x))]:=.cons (dA _ h) .nil
theorem ji{F:Par->Ans}(he:aw P f)(hp:∀x,(F x).pan=none)(hu:∀x,900∈au (F x).upd)(h:∀x,(∀q,(F x).ob=some q->q)->ax P f [.ptr 900 0] [(900,.box (.st .par x))] (F x)):ae P f (pP0 F):=by
 intro args S A hA ho _;unfold pP0 at hA;split at hA
 ·split at hA
  ·rename_i x hx;simp only[Xs]at hA;subst hA;exact⟨he,ax.slots (rdP hx) (hp x) (by simpa[au]using hu x) (h x ho)⟩
  ·cases hA
 ·cases hA
theorem sB{τ:Ty}{F:Par->den τ->Ans}(he:aw P f)(hp:∀x y,(F x y).pan=none)(hu:∀x y,900∈au (F x y).upd)
 (h:∀x y,Wf τ y->(∀q,(F x y).ob=some q->q)->ax P f [.ptr 900 0,inj τ y] [(900,.box (.st .par x))] (F x y)):ae P f (pP1 τ F):=by
 intro args S A hA ho _;unfold pP1 at hA;split at hA
 ·split at hA
  ·rename_i x y hx hy;simp only[Xs]at hA;subst hA;exact⟨he,ax.slots (rdP hx) (hp x y) (by simpa[au]using hu x y) (ax.args (.cons (Rd.refl _) (.cons (Rd.arg hy) .nil)) (ax.wf fun hw=>h x y hw.two ho))⟩
  ·cases hA
 ·cases hA
theorem Lw{τ σ:Ty}{F:Par->den τ->den σ->Ans}(he:aw P f)(hp:∀x y z,(F x y z).pan=none)(hu:∀x y z,900∈au (F x y z).upd)
 (h:∀x y z,Wf τ y->Wf σ z->(∀q,(F x y z).ob=some q->q)->ax P f [.ptr 900 0,inj τ y,inj σ z] [(900,.box (.st .par x))] (F x y z)):ae P f (pP2 τ σ F):=by
 intro args S A hA ho _;unfold pP2 at hA;split at hA
 ·split at hA
  ·rename_i x y z hx hy hz;simp only[Xs]at hA;subst hA;exact⟨he,ax.slots (rdP hx) (hp x y z) (by simpa[au]using hu x y z) (ax.args (.cons (Rd.refl _) (.cons (Rd.arg hy) (.cons (Rd.arg hz) .nil))) (ax.wf fun hw=>h x y z hw.two hw.three ho))⟩
  ·cases hA
 ·cases hA
end
end Go.AL
end
section
namespace Go.AL
variable [Tabs]
section
variable {P:Program} {f:Nat}
def sC(F:Shape->Par->Nat->Nat->Ans):Pat
 |[.ptr 900 0,.ptr 901 0],[(900,.box (.ptr 902 0)),(901,.box (.agg [.int .i64 k,.str p,.str q,.lst .str ns (some 903),.lst (.st .shape) ps (some 904)])),(902,.box c),(903,.tail .str m),(904,.tail (.st .shape) m')]=>
  (match arg (.st .par) c with|some s=>some (F ⟨k,p,q,ns,ps⟩ s m m')|none=>none)
 |_,_=>none
def Hk(x:Shape)(c:AV)(m m':Nat):List (Nat×SObj):=
 [(900,.box (.ptr 902 0)),(901,.box (.agg [.int .i64 x.kind,.str x.pkg,.str x.name,.lst .str x.names (some 903),.lst (.st .shape) x.parts (some 904)])),(902,.box c),(903,.tail .str m),(904,.tail (.st .shape) m')]
theorem Et{F:Shape->Par->Nat->Nat->Ans}(he:aw P f)(hp:∀x s m m',(F x s m m').pan=none)(hu:∀x s m m',∀i∈[900,901,902,903,904],i∈au (F x s m m').upd)
 (h:∀x s m m',(∀q,(F x s m m').ob=some q->q)->ax P f [.ptr 900 0,.ptr 901 0] (Hk x (.st .par s) m m') (F x s m m')):ae P f (sC F):=by
 intro args S A hA ho _;unfold sC at hA;split at hA
 ·split at hA
  ·rename_i s hs;simp only[Xs]at hA;subst hA;refine⟨he,ax.slots ?_ (hp _ _ _ _) (by simpa[au]using hu _ _ _ _) (h _ _ _ _ ho)⟩;exact .cons (RdO.refl _) (.cons (RdO.refl _) (.cons (dA _ hs) (.cons rfl (.cons rfl .nil))))
  ·cases hA
 ·cases hA
def yE(F:Shape->Par->Nat->Ans):Pat
 |[.ptr 900 0,.ptr 901 0],[(900,.box (.agg [.int .i64 k,.str p,.str q,.nils,.lst (.st .shape) ps (some 902)])),(901,.box (.ptr 903 0)),(902,.tail (.st .shape) m),(903,.box c)]=>
  (match arg (.st .par) c with|some s=>some (F ⟨k,p,q,[],ps⟩ s m)|none=>none)
 |_,_=>none
def L8(x:Shape)(c:AV)(m:Nat):List (Nat×SObj):=
 [(900,.box (.agg [.int .i64 x.kind,.str x.pkg,.str x.name,.nils,.lst (.st .shape) x.parts (some 902)])),(901,.box (.ptr 903 0)),(902,.tail (.st .shape) m),(903,.box c)]
theorem Hl{F:Shape->Par->Nat->Ans}(he:aw P f)(hp:∀x s m,(F x s m).pan=none)(hu:∀x s m,∀i∈[900,901,902,903],i∈au (F x s m).upd)
 (h:∀x s m,x.names=[]->(∀q,(F x s m).ob=some q->q)->ax P f [.ptr 900 0,.ptr 901 0] (L8 x (.st .par s) m) (F x s m)):ae P f (yE F):=by
 intro args S A hA ho _;unfold yE at hA;split at hA
 ·split at hA
  ·rename_i s hs;simp only[Xs]at hA;subst hA;refine⟨he,ax.slots ?_ (hp _ _ _) (by simpa[au]using hu _ _ _) (h _ _ _ rfl ho)⟩;exact .cons (RdO.refl _) (.cons (RdO.refl _) (.cons rfl (.cons (dA _ hs) .nil)))
  ·cases hA
 ·cases hA
def wP(g:Nat)(F:Str->Str->Int->Par->Ans):Pat
 |[.ptr 900 0,.str b,.str e,.fn g' [.ptr 901 0,.ptr 902 0]],[(900,.box c),(901,.box (.ptr 900 0)),(902,.box (.agg [.int .i64 k,.str [],.str [],.nils,.nils]))]=>
  (match Nat.beq g' g,arg (.st .par) c with|true,some s=>some (F b e k s)|_,_=>none)
 |_,_=>none
def Hm(k:Int)(c:AV):List (Nat×SObj):=[(900,.box c),(901,.box (.ptr 900 0)),(902,.box (.agg [.int .i64 k,.str [],.str [],.nils,.nils]))]
theorem Eu{g:Nat}{F:Str->Str->Int->Par->Ans}(he:aw P f)(hp:∀b e k s,(F b e k s).pan=none)(hu:∀b e k s,∀i∈[900,901,902],i∈au (F b e k s).upd)
 (h:∀b e k s,(∀q,(F b e k s).ob=some q->q)->ax P f [.ptr 900 0,.str b,.str e,.fn g [.ptr 901 0,.ptr 902 0]] (Hm k (.st .par s)) (F b e k s)):ae P f (wP g F):=by
 intro args S A hA ho _;unfold wP at hA;split at hA
 ·split at hA
  ·rename_i hb hs;simp only[Xs]at hA;subst hA;have e:=Nx hb;subst e;refine⟨he,ax.slots ?_ (hp _ _ _ _) (by simpa[au]using hu _ _ _ _) (h _ _ _ _ ho)⟩;exact .cons (dA _ hs) (.cons (RdO.refl _) (.cons (RdO.refl _) .nil))
  ·cases hA
 ·cases hA
def wQ(g:Nat)(F:Str->Str->Int->Par->Ans):Pat
 |[.ptr 900 0,.str b,.str e,.fn g' [.ptr 901 0,.ptr 902 0]],[(900,.box c),(901,.box (.agg [.int .i64 k,.str [],.str [],.nils,.nils])),(902,.box (.ptr 900 0))]=>
  (match Nat.beq g' g,arg (.st .par) c with|true,some s=>some (F b e k s)|_,_=>none)
 |_,_=>none
def Hn(k:Int)(c:AV):List (Nat×SObj):=[(900,.box c),(901,.box (.agg [.int .i64 k,.str [],.str [],.nils,.nils])),(902,.box (.ptr 900 0))]
theorem Ev{g:Nat}{F:Str->Str->Int->Par->Ans}(he:aw P f)(hp:∀b e k s,(F b e k s).pan=none)(hu:∀b e k s,∀i∈[900,901,902],i∈au (F b e k s).upd)
 (h:∀b e k s,(∀q,(F b e k s).ob=some q->q)->ax P f [.ptr 900 0,.str b,.str e,.fn g [.ptr 901 0,.ptr 902 0]] (Hn k (.st .par s)) (F b e k s)):ae P f (wQ g F):=by
 intro args S A hA ho _;unfold wQ at hA;split at hA
 ·split at hA
  ·rename_i hb hs;simp only[Xs]at hA;subst hA;have e:=Nx hb;subst e;refine⟨he,ax.slots ?_ (hp _ _ _ _) (by simpa[au]using hu _ _ _ _) (h _ _ _ _ ho)⟩;exact .cons (dA _ hs) (.cons (RdO.refl _) (.cons (RdO.refl _) .nil))
  ·cases hA
 ·cases hA
end
end Go.AL
end
section
namespace Go.Pd
open Go.AL
structure Moves(s s':Par):Prop where
 goes:Goes s s'
 eats:l7 s s'
theorem Moves.goes_then{a b c:Par}(h:Moves a b)(k:Goes b c):Moves a c:=⟨h.goes.trans k,h.eats.then k⟩
theorem Moves.then{a b c:Par}(h:Moves a b)(k:Moves b c):Moves a c:=h.goes_then k.goes
theorem Moves.lt{a b:Par}{n:Nat}(h:Moves a b)(k:rem a<=n)(h0:a.err=0):rem b<n:=h.eats.lt k h0
theorem Moves.good{a b:Par}(h:Moves a b):a8 b:=h.goes.good
theorem aO{t:Str}{s:Par}(h:a8 s)(c:isF t s=true):Moves s (aD s):=⟨cZ h c,.inl (by have:=aW h c;omega)⟩
theorem ay{t:Str}{s:Par}(h:a8 s):Moves s (aj t s):=⟨cb h,Es h⟩
theorem bU{k:Int}{s:Par}(h:a8 s)(hk:¬k=0):Moves s (aM k s).2:=⟨(mT h hk).1,(mT h hk).2⟩
theorem dx{ns:List Str}{s:Par}(h:a8 s):Moves s (bN ns s).2:=⟨(l8 h).1,(l8 h).2⟩
theorem iq{s:Par}(h:a8 s):Moves s (bw s).2:=⟨(mg h).1,(mg h).2⟩
theorem Bz{e a:Int}{s:Par}(h:a8 s)(he:¬e=0):Moves s (cC e a s):=⟨iV h he,.inr (jh he)⟩
theorem fD.moves{α:Type}{R:Par->α×Par}{n:Nat}(h:fD R n){s:Par}(hi:a8 s)(hn:rem s<n):Moves s (R s).2:=⟨(h s hi hn).1,(h s hi hn).2⟩
theorem gN{a:Str}{t:Trm}{s:Par}(h:a8 s):Moves s (eQ a t s).2:=(ay h).then (iq (ay h).good)
theorem jj{k:Int}{s:Par}(hi:a8 s)(hk:¬k=0)(c:(an s).kind=k)(b:aY s=false):Moves s (aD s)/\rem (aD s)+1=rem s:=by have h3:=bK.1 b;have h2:s.pos<(s.toks.length:Int):=gV (by have:=c;unfold an at this;rw[this];exact hk);have:=oS hi h2 h3;exact⟨⟨oT hi h2 h3 (by have:=c;unfold an at this;rw[this];exact hk),.inl (by omega)⟩,this⟩
theorem iW(n:Nat):ec aC n:=by intro x s hi h0 hn;have m:=(dx (ns:=x.names) hi).then (gN (a:=[58]) (t:=bR x (bN x.names s).1) (dx hi).good);exact⟨m.goes,m.eats⟩
theorem dy{R:Par->Trm×Par}{n:Nat}(hR:fD R (n+1)):ec (aA R) n:=by intro x s hi h0 hn;exact hR s hi (by omega)
theorem kA{R:Par->Trm×Par}{n:Nat}(hR:fD R n):ec (ak R) n:=by intro x s hi h0 hn;have m1:=dx (ns:=x.names) hi;have m2:=m1.then (ay (t:=[40]) m1.good);have m3:=m2.then (bU (k:=1) m2.good (by decide));have m4:=m3.then (gN (a:=[58]) (t:=df (bR x (bN x.names s).1) (aM 1 (aj [40] (bN x.names s).2)).1.text) m3.good);have m5:=m4.then (ay (t:=[41]) m4.good);have m6:=m5.then (ay (t:=[45,62]) m5.good);have m7:=m6.then (hR.moves m6.good (m6.lt hn h0));exact⟨m7.goes,m7.eats⟩
theorem mh{R:Par->Trm×Par}{n:Nat}(hR:fD R n):ec (ai R) n:=by intro x s hi h0 hn;have m1:=dx (ns:=x.names) hi;have m2:=m1.then (ay (t:=[61]) m1.good);have m3:=m2.then (hR.moves m2.good (m2.lt hn h0));exact⟨m3.goes,m3.eats⟩
theorem yF{R:Par->Trm×Par}{n:Nat}(hR:fD R n){s:Par}(hi:a8 s)(hn:rem (aj [40] s)<n):Moves s (cz R s).2:=by have m1:=ay (t:=[40]) hi;have m2:=m1.then (hR.moves m1.good hn);exact m2.then (ay (t:=[41]) m2.good)
theorem Moves.ite{α:Type}{s:Par}{c:Prop}[Decidable c]{p q:α×Par}(h1:c->Moves s p.2)(h2:¬c->Moves s q.2):Moves s (if c then p else q).2:=by
 by_cases h:c
 ·rw[N6 h];exact h1 h
 ·rw[N3 h];exact h2 h
theorem nU{R:Par->Trm×Par}{n:Nat}(hR:fD R n){s:Par}(hi:a8 s)(hn:rem s<n+1):Moves s (cE R s).2:=by
 unfold cE;refine Moves.ite (fun b=>⟨Goes.refl hi,.inr (Hi.2 (bY.1 b))⟩) (fun b=>?_);have b:aY s=false:=by simpa using b
 refine Moves.ite (fun c=>(jj hi (by decide) c b).1) (fun _=>?_);refine Moves.ite (fun c=>(jj hi (by decide) c b).1) (fun _=>?_);refine Moves.ite (fun c=>?_) (fun _=>?_)
 ·have m:=(jj hi (by decide) c b).1;refine Moves.ite (fun c2=>?_) (fun _=>m);have m2:=m.then (aO m.good c2);exact m2.then (bU m2.good (by decide))
 refine Moves.ite (fun c=>aO hi c) (fun _=>?_);refine Moves.ite (fun c=>aO hi c) (fun _=>?_);refine Moves.ite (fun c=>?_) (fun _=>?_)
 ·have m:=aO hi c;have r:=aW hi c;have m2:=m.then (hR.moves m.good (by omega));refine Moves.ite (fun c2=>?_) (fun _=>m2.then (ay m2.good));have m3:=m2.then (aO m2.good c2);have m4:=m3.then (iq m3.good);exact m4.then (ay m4.good)
 refine Moves.ite (fun c=>?_) (fun _=>?_)
 ·have m:=aO hi c;have r:=aW hi c;exact m.goes_then (bf (mh hR) [44] [125] _ m.good (by omega))
 have inn:∀k:Int,¬k=0->∀t:Str,isF t s=true->Moves s (cz R (aM k (aD s)).2).2:=fun k hk t c=>by have m:=aO hi c;have r:=aW hi c;have m2:=bU (k:=k) m.good hk;have m3:=ay (t:=[40]) m2.good;exact(m.then m2).then (yF hR m2.good (by have:=m2.goes.le;have:=m3.goes.le;omega))
 refine Moves.ite (fun c=>inn 1 (by decide) _ c) (fun _=>?_);refine Moves.ite (fun c=>inn 2 (by decide) _ c) (fun _=>?_);refine Moves.ite (fun c=>inn 2 (by decide) _ c) (fun _=>?_);exact Bz hi (by decide)
theorem iX{R:Par->Trm×Par}{n:Nat}(hR:fD R n)(p:Int):∀(k:Nat)(t:Trm)(s:Par),a8 s->rem s<n+1->Goes s (dU R p k t s).2
 |0,t,s,hi,_=>Goes.refl hi
 |k+1,t,s,hi,hn=>by
  simp only[dU];split
  ·exact Goes.refl hi
  split
  ·rename_i c;have m:=aO hi c;have r:=aW hi c;have hp:=da (dV c).2;obtain⟨j,rfl⟩:∃j,n=j+1:=⟨n-1,by have:=da (dV c).2;have:rem (aD s)=rem (aD s):=rfl;omega⟩;have g:=bf (dy hR) [44] [41] (⟨7,[],[],0,[],[],[],[t],p⟩:Trm) m.good (by omega);exact(m.goes.trans g).trans (iX hR p k _ _ g.good (by have:=g.le;omega))
  split
  ·rename_i c;have m:=aO hi c;have m2:=m.then (bU (k:=1) m.good (by decide));exact m2.goes.trans (iX hR p k _ _ m2.good (by have:=m2.goes.le;omega))
  ·exact Goes.refl hi
theorem yG{R:Par->Trm×Par}{n:Nat}(hR:fD R n){s:Par}(hi:a8 s)(hn:rem s<n+1):Moves s (fT R s).2:=by have m:=nU hR hi hn;exact m.goes_then (iX hR _ _ _ _ m.good (by have:=m.goes.le;omega))
theorem yH{R:Par->Trm×Par}{n:Nat}(hR:fD R n):fD (fC R) (n+1):=by
 intro s hi hn
 suffices m:Moves s (fC R s).2 from⟨m.goes,m.eats⟩
 unfold fC;simp only;split
 ·rename_i c;have m:=aO hi c;have r:=aW hi c;have m2:=m.then (ay (t:=[40]) m.good);have g:=bf (iW n) [44] [41] (⟨6,[],[],0,[],[],[],[],(an s).pos⟩:Trm) m2.good (by have:=(ay (t:=[40]) m.good).goes.le;omega);have m3:=(m2.goes_then g).then (ay (t:=[45,62]) g.good);have l1:=(ay (t:=[40]) m.good).goes.le;have l2:=g.le;have l3:=(ay (t:=[45,62]) g.good).goes.le;exact m3.then (hR.moves m3.good (by omega))
 split
 ·rename_i c;have m:=aO hi c;have r:=aW hi c;have a:=bU (k:=1) m.good (by decide);have b:=a.then (ay (t:=[61]) a.good);have p1:=b.then (hR.moves b.good (by have:=b.goes.le;omega));have q:=p1.then (ay (t:=[105,110]) p1.good);exact m.then (q.then (hR.moves q.good (by have:=q.goes.le;omega)))
 split
 ·rename_i c;have m:=aO hi c;have r:=aW hi c;have p1:=hR.moves m.good (by omega);have b:=p1.then (ay (t:=[116,104,101,110]) p1.good);have p2:=b.then (hR.moves b.good (by have:=b.goes.le;omega));have d:=p2.then (ay (t:=[101,108,115,101]) p2.good);have p3:=d.then (hR.moves d.good (by have:=d.goes.le;omega));exact m.then (p3.then (gN p3.good))
 split
 ·rename_i c;have m:=aO hi c;have r:=aW hi c;have p1:=hR.moves m.good (by omega);have b:=p1.then (ay (t:=[111,102]) p1.good);have d:=b.then (ay (t:=[123]) b.good);have g:=bf (kA hR) [124] [125] (aA R ⟨13,[],[],0,[],[],[],[],(an s).pos⟩ (aD s)).1 d.good (by have:=d.goes.le;omega);have e:=d.goes_then g;exact m.then (e.then (gN e.good))
 split
 ·rename_i c;have m:=aO hi c;have r:=aW hi c;have hp:=da (dV c).2;obtain⟨j,rfl⟩:∃j,n=j+1:=⟨n-1,by omega⟩;have g:=bf (dy hR) [44] [93] (⟨11,[],[],0,[],[],[],[],(an s).pos⟩:Trm) m.good (by omega);have e:=m.goes_then g;exact e.then (gN e.good)
 ·exact yG hR hi hn
theorem dB:∀n,fD (a7 n) n
 |0=>fun s _ h=>absurd h (OO _)
 |n+1=>yH (dB n)
end Go.Pd
end
section
namespace Go.AL
variable [Tabs]
section
variable {P:Program} {f:Nat}
def pT_(F:Trm->Par->Ans):Pat
 |[.ptr 900 0,.ptr 901 0],[(900,.box (.agg [.int .i64 k,.str g,.str q,.int .i64 z,.nils,.nils,.nils,.nils,.int .i64 pp])),(901,.box (.ptr 902 0)),(902,.box c)]=>
  (match arg (.st .par) c with|some s=>some (F ⟨k,g,q,z,[],[],[],[],pp⟩ s)|_=>none)
 |_,_=>none
def sT_(x:Trm)(c:AV):List (Nat×SObj):=
 [(900,.box (.agg [.int .i64 (x).kind,.str (x).pkg,.str (x).name,.int .i64 (x).n,.nils,.nils,.nils,.nils,.int .i64 (x).pos])),(901,.box (.ptr 902 0)),(902,.box c)]
theorem Lx{F:Trm->Par->Ans}(he:aw P f)(hp:∀x s,(F x s).pan=none)(hu:∀x s,∀i∈[900,901,902],i∈au (F x s).upd)
 (h:∀x s,x.names=[]->x.vars=[]->x.shapes=[]->x.parts=[]->(∀q,(F x s).ob=some q->q)->ax P f [.ptr 900 0,.ptr 901 0] (sT_ x (.st .par s)) (F x s)):ae P f (pT_ F):=by
 intro args S A hA ho _;unfold pT_ at hA;split at hA
 ·split at hA
  ·rename_i hs;simp only[Xs]at hA;subst hA;refine⟨he,ax.slots ?_ (hp _ _) (by simpa[au]using hu _ _) (h _ _ rfl rfl rfl rfl ho)⟩;exact .cons (RdO.refl _) (.cons (RdO.refl _) (.cons (dA _ hs) .nil))
  ·cases hA
 ·cases hA
def wR(F:Trm->Par->Nat->Ans):Pat
 |[.ptr 900 0,.ptr 901 0],[(900,.box (.agg [.int .i64 k,.str g,.str q,.int .i64 z,.nils,.nils,.nils,.lst (.st .term) ps (some 902),.int .i64 pp])),(901,.box (.ptr 903 0)),(902,.tail (.st .term) mp),(903,.box c)]=>
  (match arg (.st .par) c with|some s=>some (F ⟨k,g,q,z,[],[],[],ps,pp⟩ s mp)|_=>none)
 |_,_=>none
def Ly(x:Trm)(c:AV)(mp:Nat):List (Nat×SObj):=
 [(900,.box (.agg [.int .i64 (x).kind,.str (x).pkg,.str (x).name,.int .i64 (x).n,.nils,.nils,.nils,.lst (.st .term) (x).parts (some 902),.int .i64 (x).pos])),(901,.box (.ptr 903 0)),(902,.tail (.st .term) mp),(903,.box c)]
theorem Ds{F:Trm->Par->Nat->Ans}(he:aw P f)(hp:∀x s mp,(F x s mp).pan=none)(hu:∀x s mp,∀i∈[900,901,902,903],i∈au (F x s mp).upd)
 (h:∀x s mp,x.names=[]->x.vars=[]->x.shapes=[]->(∀q,(F x s mp).ob=some q->q)->ax P f [.ptr 900 0,.ptr 901 0] (Ly x (.st .par s) mp) (F x s mp)):ae P f (wR F):=by
 intro args S A hA ho _;unfold wR at hA;split at hA
 ·split at hA
  ·rename_i hs;simp only[Xs]at hA;subst hA;refine⟨he,ax.slots ?_ (hp _ _ _) (by simpa[au]using hu _ _ _) (h _ _ _ rfl rfl rfl ho)⟩;exact .cons (RdO.refl _) (.cons (RdO.refl _) (.cons (RdO.refl _) (.cons (dA _ hs) .nil)))
  ·cases hA
 ·cases hA
def Dt(F:Trm->Par->Nat->Nat->Ans):Pat
 |[.ptr 900 0,.ptr 901 0],[(900,.box (.agg [.int .i64 k,.str g,.str q,.int .i64 z,.lst .str ns (some 902),.nils,.lst (.st .shape) ss (some 903),.nils,.int .i64 pp])),(901,.box (.ptr 904 0)),(902,.tail .str mn),(903,.tail (.st .shape) ms),(904,.box c)]=>
  (match arg (.st .par) c with|some s=>some (F ⟨k,g,q,z,ns,[],ss,[],pp⟩ s mn ms)|_=>none)
 |_,_=>none
def L9(x:Trm)(c:AV)(mn ms:Nat):List (Nat×SObj):=
 [(900,.box (.agg [.int .i64 (x).kind,.str (x).pkg,.str (x).name,.int .i64 (x).n,.lst .str (x).names (some 902),.nils,.lst (.st .shape) (x).shapes (some 903),.nils,.int .i64 (x).pos])),(901,.box (.ptr 904 0)),(902,.tail .str mn),(903,.tail (.st .shape) ms),(904,.box c)]
theorem Ho{F:Trm->Par->Nat->Nat->Ans}(he:aw P f)(hp:∀x s mn ms,(F x s mn ms).pan=none)(hu:∀x s mn ms,∀i∈[900,901,902,903,904],i∈au (F x s mn ms).upd)
 (h:∀x s mn ms,x.vars=[]->x.parts=[]->(∀q,(F x s mn ms).ob=some q->q)->ax P f [.ptr 900 0,.ptr 901 0] (L9 x (.st .par s) mn ms) (F x s mn ms)):ae P f (Dt F):=by
 intro args S A hA ho _;unfold Dt at hA;split at hA
 ·split at hA
  ·rename_i hs;simp only[Xs]at hA;subst hA;refine⟨he,ax.slots ?_ (hp _ _ _ _) (by simpa[au]using hu _ _ _ _) (h _ _ _ _ rfl rfl ho)⟩;exact .cons (RdO.refl _) (.cons (RdO.refl _) (.cons (RdO.refl _) (.cons (RdO.refl _) (.cons (dA _ hs) .nil))))
  ·cases hA
 ·cases hA
def yI(F:Trm->Par->Nat->Nat->Ans):Pat
 |[.ptr 900 0,.ptr 901 0],[(900,.box (.agg [.int .i64 k,.str g,.str q,.int .i64 z,.lst .str ns (some 902),.nils,.nils,.lst (.st .term) ps (some 903),.int .i64 pp])),(901,.box (.ptr 904 0)),(902,.tail .str mn),(903,.tail (.st .term) mp),(904,.box c)]=>
  (match arg (.st .par) c with|some s=>some (F ⟨k,g,q,z,ns,[],[],ps,pp⟩ s mn mp)|_=>none)
 |_,_=>none
def La(x:Trm)(c:AV)(mn mp:Nat):List (Nat×SObj):=
 [(900,.box (.agg [.int .i64 (x).kind,.str (x).pkg,.str (x).name,.int .i64 (x).n,.lst .str (x).names (some 902),.nils,.nils,.lst (.st .term) (x).parts (some 903),.int .i64 (x).pos])),(901,.box (.ptr 904 0)),(902,.tail .str mn),(903,.tail (.st .term) mp),(904,.box c)]
theorem Hp{F:Trm->Par->Nat->Nat->Ans}(he:aw P f)(hp:∀x s mn mp,(F x s mn mp).pan=none)(hu:∀x s mn mp,∀i∈[900,901,902,903,904],i∈au (F x s mn mp).upd)
 (h:∀x s mn mp,x.vars=[]->x.shapes=[]->(∀q,(F x s mn mp).ob=some q->q)->ax P f [.ptr 900 0,.ptr 901 0] (La x (.st .par s) mn mp) (F x s mn mp)):ae P f (yI F):=by
 intro args S A hA ho _;unfold yI at hA;split at hA
 ·split at hA
  ·rename_i hs;simp only[Xs]at hA;subst hA;refine⟨he,ax.slots ?_ (hp _ _ _ _) (by simpa[au]using hu _ _ _ _) (h _ _ _ _ rfl rfl ho)⟩;exact .cons (RdO.refl _) (.cons (RdO.refl _) (.cons (RdO.refl _) (.cons (RdO.refl _) (.cons (dA _ hs) .nil))))
  ·cases hA
 ·cases hA
def oU(F:Trm->Par->Nat->Nat->Nat->Nat->Ans):Pat
 |[.ptr 900 0,.ptr 901 0],[(900,.box (.agg [.int .i64 k,.str g,.str q,.int .i64 z,.lst .str ns (some 902),.lst .str vs (some 903),.lst (.st .shape) ss (some 904),.lst (.st .term) ps (some 905),.int .i64 pp])),(901,.box (.ptr 906 0)),(902,.tail .str mn),(903,.tail .str mv),(904,.tail (.st .shape) ms),(905,.tail (.st .term) mp),(906,.box c)]=>
  (match arg (.st .par) c with|some s=>some (F ⟨k,g,q,z,ns,vs,ss,ps,pp⟩ s mn mv ms mp)|_=>none)
 |_,_=>none
def Du(x:Trm)(c:AV)(mn mv ms mp:Nat):List (Nat×SObj):=
 [(900,.box (.agg [.int .i64 (x).kind,.str (x).pkg,.str (x).name,.int .i64 (x).n,.lst .str (x).names (some 902),.lst .str (x).vars (some 903),.lst (.st .shape) (x).shapes (some 904),.lst (.st .term) (x).parts (some 905),.int .i64 (x).pos])),(901,.box (.ptr 906 0)),(902,.tail .str mn),(903,.tail .str mv),(904,.tail (.st .shape) ms),(905,.tail (.st .term) mp),(906,.box c)]
theorem BA{F:Trm->Par->Nat->Nat->Nat->Nat->Ans}(he:aw P f)(hp:∀x s mn mv ms mp,(F x s mn mv ms mp).pan=none)(hu:∀x s mn mv ms mp,∀i∈[900,901,902,903,904,905,906],i∈au (F x s mn mv ms mp).upd)
 (h:∀x s mn mv ms mp,True->(∀q,(F x s mn mv ms mp).ob=some q->q)->ax P f [.ptr 900 0,.ptr 901 0] (Du x (.st .par s) mn mv ms mp) (F x s mn mv ms mp)):ae P f (oU F):=by
 intro args S A hA ho _;unfold oU at hA;split at hA
 ·split at hA
  ·rename_i hs;simp only[Xs]at hA;subst hA;refine⟨he,ax.slots ?_ (hp _ _ _ _ _ _) (by simpa[au]using hu _ _ _ _ _ _) (h _ _ _ _ _ _ trivial ho)⟩;exact .cons (RdO.refl _) (.cons (RdO.refl _) (.cons (RdO.refl _) (.cons (RdO.refl _) (.cons (RdO.refl _) (.cons (RdO.refl _) (.cons (dA _ hs) .nil))))))
  ·cases hA
 ·cases hA
def Hq(F:Trm->Str->Par->Nat->Nat->Ans):Pat
 |[.str a,.ptr 900 0,.ptr 901 0],[(900,.box (.ptr 902 0)),(901,.box (.agg [.int .i64 k,.str g,.str q,.int .i64 z,.lst .str ns (some 903),.nils,.lst (.st .shape) ss (some 904),.nils,.int .i64 pp])),(902,.box c),(903,.tail .str mn),(904,.tail (.st .shape) ms)]=>
  (match arg (.st .par) c with|some s=>some (F ⟨k,g,q,z,ns,[],ss,[],pp⟩ a s mn ms)|_=>none)
 |_,_=>none
def Mn(x:Trm)(c:AV)(mn ms:Nat):List (Nat×SObj):=
 [(900,.box (.ptr 902 0)),(901,.box (.agg [.int .i64 (x).kind,.str (x).pkg,.str (x).name,.int .i64 (x).n,.lst .str (x).names (some 903),.nils,.lst (.st .shape) (x).shapes (some 904),.nils,.int .i64 (x).pos])),(902,.box c),(903,.tail .str mn),(904,.tail (.st .shape) ms)]
theorem Hr{F:Trm->Str->Par->Nat->Nat->Ans}(he:aw P f)(hp:∀x a s mn ms,(F x a s mn ms).pan=none)(hu:∀x a s mn ms,∀i∈[900,901,902,903,904],i∈au (F x a s mn ms).upd)
 (h:∀x a s mn ms,x.vars=[]->x.parts=[]->(∀q,(F x a s mn ms).ob=some q->q)->ax P f [.str a,.ptr 900 0,.ptr 901 0] (Mn x (.st .par s) mn ms) (F x a s mn ms)):ae P f (Hq F):=by
 intro args S A hA ho _;unfold Hq at hA;split at hA
 ·split at hA
  ·rename_i hs;simp only[Xs]at hA;subst hA;refine⟨he,ax.slots ?_ (hp _ _ _ _ _) (by simpa[au]using hu _ _ _ _ _) (h _ _ _ _ _ rfl rfl ho)⟩;exact .cons (RdO.refl _) (.cons (RdO.refl _) (.cons (dA _ hs) (.cons (RdO.refl _) (.cons (RdO.refl _) .nil))))
  ·cases hA
 ·cases hA
def Lz(F:Trm->Str->Par->Nat->Ans):Pat
 |[.str a,.ptr 900 0,.ptr 901 0],[(900,.box (.ptr 902 0)),(901,.box (.agg [.int .i64 k,.str g,.str q,.int .i64 z,.nils,.nils,.nils,.lst (.st .term) ps (some 903),.int .i64 pp])),(902,.box c),(903,.tail (.st .term) mp)]=>
  (match arg (.st .par) c with|some s=>some (F ⟨k,g,q,z,[],[],[],ps,pp⟩ a s mp)|_=>none)
 |_,_=>none
def sY_p(x:Trm)(c:AV)(mp:Nat):List (Nat×SObj):=
 [(900,.box (.ptr 902 0)),(901,.box (.agg [.int .i64 (x).kind,.str (x).pkg,.str (x).name,.int .i64 (x).n,.nils,.nils,.nils,.lst (.st .term) (x).parts (some 903),.int .i64 (x).pos])),(902,.box c),(903,.tail (.st .term) mp)]
theorem K0{F:Trm->Str->Par->Nat->Ans}(he:aw P f)(hp:∀x a s mp,(F x a s mp).pan=none)(hu:∀x a s mp,∀i∈[900,901,902,903],i∈au (F x a s mp).upd)
 (h:∀x a s mp,x.names=[]->x.vars=[]->x.shapes=[]->(∀q,(F x a s mp).ob=some q->q)->ax P f [.str a,.ptr 900 0,.ptr 901 0] (sY_p x (.st .par s) mp) (F x a s mp)):ae P f (Lz F):=by
 intro args S A hA ho _;unfold Lz at hA;split at hA
 ·split at hA
  ·rename_i hs;simp only[Xs]at hA;subst hA;refine⟨he,ax.slots ?_ (hp _ _ _ _) (by simpa[au]using hu _ _ _ _) (h _ _ _ _ rfl rfl rfl ho)⟩;exact .cons (RdO.refl _) (.cons (RdO.refl _) (.cons (dA _ hs) (.cons (RdO.refl _) .nil)))
  ·cases hA
 ·cases hA
def wS(F:Trm->Str->Par->Nat->Nat->Nat->Nat->Ans):Pat
 |[.str a,.ptr 900 0,.ptr 901 0],[(900,.box (.ptr 902 0)),(901,.box (.agg [.int .i64 k,.str g,.str q,.int .i64 z,.lst .str ns (some 903),.lst .str vs (some 904),.lst (.st .shape) ss (some 905),.lst (.st .term) ps (some 906),.int .i64 pp])),(902,.box c),(903,.tail .str mn),(904,.tail .str mv),(905,.tail (.st .shape) ms),(906,.tail (.st .term) mp)]=>
  (match arg (.st .par) c with|some s=>some (F ⟨k,g,q,z,ns,vs,ss,ps,pp⟩ a s mn mv ms mp)|_=>none)
 |_,_=>none
def K1(x:Trm)(c:AV)(mn mv ms mp:Nat):List (Nat×SObj):=
 [(900,.box (.ptr 902 0)),(901,.box (.agg [.int .i64 (x).kind,.str (x).pkg,.str (x).name,.int .i64 (x).n,.lst .str (x).names (some 903),.lst .str (x).vars (some 904),.lst (.st .shape) (x).shapes (some 905),.lst (.st .term) (x).parts (some 906),.int .i64 (x).pos])),(902,.box c),(903,.tail .str mn),(904,.tail .str mv),(905,.tail (.st .shape) ms),(906,.tail (.st .term) mp)]
theorem BB{F:Trm->Str->Par->Nat->Nat->Nat->Nat->Ans}(he:aw P f)(hp:∀x a s mn mv ms mp,(F x a s mn mv ms mp).pan=none)(hu:∀x a s mn mv ms mp,∀i∈[900,901,902,903,904,905,906],i∈au (F x a s mn mv ms mp).upd)
 (h:∀x a s mn mv ms mp,True->(∀q,(F x a s mn mv ms mp).ob=some q->q)->ax P f [.str a,.ptr 900 0,.ptr 901 0] (K1 x (.st .par s) mn mv ms mp) (F x a s mn mv ms mp)):ae P f (wS F):=by
 intro args S A hA ho _;unfold wS at hA;split at hA
 ·split at hA
  ·rename_i hs;simp only[Xs]at hA;subst hA;refine⟨he,ax.slots ?_ (hp _ _ _ _ _ _ _) (by simpa[au]using hu _ _ _ _ _ _ _) (h _ _ _ _ _ _ _ trivial ho)⟩;exact .cons (RdO.refl _) (.cons (RdO.refl _) (.cons (dA _ hs) (.cons (RdO.refl _) (.cons (RdO.refl _) (.cons (RdO.refl _) (.cons (RdO.refl _) .nil))))))
  ·cases hA
 ·cases hA
def LB(gY:Nat)(F:Trm->Par->Nat->Nat->Ans):Pat
 |[.ptr 900 0,.ptr 901 0,.ptr 902 0],[(900,.box (.agg [.int .i64 k,.str g,.str q,.int .i64 z,.lst .str ns (some 903),.nils,.lst (.st .shape) ss (some 904),.nils,.int .i64 pp])),(901,.box (.ptr 905 0)),(902,.box (.fn gY' [.ptr 901 0,.ptr 900 0])),(903,.tail .str mn),(904,.tail (.st .shape) ms),(905,.box c)]=>
  (match Nat.beq gY' gY,arg (.st .par) c with|true,some s=>some (F ⟨k,g,q,z,ns,[],ss,[],pp⟩ s mn ms)|_,_=>none)
 |_,_=>none
def sFun(gY:Nat)(x:Trm)(c:AV)(mn ms:Nat):List (Nat×SObj):=
 [(900,.box (.agg [.int .i64 (x).kind,.str (x).pkg,.str (x).name,.int .i64 (x).n,.lst .str (x).names (some 903),.nils,.lst (.st .shape) (x).shapes (some 904),.nils,.int .i64 (x).pos])),(901,.box (.ptr 905 0)),(902,.box (.fn gY [.ptr 901 0,.ptr 900 0])),(903,.tail .str mn),(904,.tail (.st .shape) ms),(905,.box c)]
theorem K2{gY:Nat}{F:Trm->Par->Nat->Nat->Ans}(he:aw P f)(hp:∀x s mn ms,(F x s mn ms).pan=none)(hu:∀x s mn ms,∀i∈[900,901,902,903,904,905],i∈au (F x s mn ms).upd)
 (h:∀x s mn ms,x.vars=[]->x.parts=[]->(∀q,(F x s mn ms).ob=some q->q)->ax P f [.ptr 900 0,.ptr 901 0,.ptr 902 0] (sFun gY x (.st .par s) mn ms) (F x s mn ms)):ae P f (LB gY F):=by
 intro args S A hA ho _;unfold LB at hA;split at hA
 ·split at hA
  ·rename_i hb0 hs;simp only[Xs]at hA;subst hA;have e0:=Nx hb0;subst e0;refine⟨he,ax.slots ?_ (hp _ _ _ _) (by simpa[au]using hu _ _ _ _) (h _ _ _ _ rfl rfl ho)⟩;exact .cons (RdO.refl _) (.cons (RdO.refl _) (.cons (RdO.refl _) (.cons (RdO.refl _) (.cons (RdO.refl _) (.cons (dA _ hs) .nil)))))
  ·cases hA
 ·cases hA
def Hs(gY:Nat)(gT:Nat)(F:Trm->Par->Nat->Nat->Nat->Nat->Ans):Pat
 |[.ptr 900 0,.ptr 901 0,.ptr 902 0,.ptr 903 0],[(900,.box (.agg [.int .i64 k,.str g,.str q,.int .i64 z,.lst .str ns (some 904),.lst .str vs (some 905),.lst (.st .shape) ss (some 906),.lst (.st .term) ps (some 907),.int .i64 pp])),(901,.box (.ptr 908 0)),(902,.box (.fn gY' [.ptr 901 0,.ptr 900 0])),(903,.box (.fn gT' [.ptr 900 0,.ptr 901 0])),(904,.tail .str mn),(905,.tail .str mv),(906,.tail (.st .shape) ms),(907,.tail (.st .term) mp),(908,.box c)]=>
  (match Nat.beq gY' gY,Nat.beq gT' gT,arg (.st .par) c with|true,true,some s=>some (F ⟨k,g,q,z,ns,vs,ss,ps,pp⟩ s mn mv ms mp)|_,_,_=>none)
 |_,_=>none
def sWay(gY:Nat)(gT:Nat)(x:Trm)(c:AV)(mn mv ms mp:Nat):List (Nat×SObj):=
 [(900,.box (.agg [.int .i64 (x).kind,.str (x).pkg,.str (x).name,.int .i64 (x).n,.lst .str (x).names (some 904),.lst .str (x).vars (some 905),.lst (.st .shape) (x).shapes (some 906),.lst (.st .term) (x).parts (some 907),.int .i64 (x).pos])),(901,.box (.ptr 908 0)),(902,.box (.fn gY [.ptr 901 0,.ptr 900 0])),(903,.box (.fn gT [.ptr 900 0,.ptr 901 0])),(904,.tail .str mn),(905,.tail .str mv),(906,.tail (.st .shape) ms),(907,.tail (.st .term) mp),(908,.box c)]
theorem K3{gY:Nat}{gT:Nat}{F:Trm->Par->Nat->Nat->Nat->Nat->Ans}(he:aw P f)(hp:∀x s mn mv ms mp,(F x s mn mv ms mp).pan=none)(hu:∀x s mn mv ms mp,∀i∈[900,901,902,903,904,905,906,907,908],i∈au (F x s mn mv ms mp).upd)
 (h:∀x s mn mv ms mp,True->(∀q,(F x s mn mv ms mp).ob=some q->q)->ax P f [.ptr 900 0,.ptr 901 0,.ptr 902 0,.ptr 903 0] (sWay gY gT x (.st .par s) mn mv ms mp) (F x s mn mv ms mp)):ae P f (Hs gY gT F):=by
 intro args S A hA ho _;unfold Hs at hA;split at hA
 ·split at hA
  ·rename_i hb0 hb1 hs;simp only[Xs]at hA;subst hA;have e0:=Nx hb0;subst e0;have e1:=Nx hb1;subst e1;refine⟨he,ax.slots ?_ (hp _ _ _ _ _ _) (by simpa[au]using hu _ _ _ _ _ _) (h _ _ _ _ _ _ trivial ho)⟩;exact .cons (RdO.refl _) (.cons (RdO.refl _) (.cons (RdO.refl _) (.cons (RdO.refl _) (.cons (RdO.refl _) (.cons (RdO.refl _) (.cons (RdO.refl _) (.cons (RdO.refl _) (.cons (dA _ hs) .nil))))))))
  ·cases hA
 ·cases hA
def Dv(gC:Nat)(gY:Nat)(F:Trm->Str->Str->Par->Ans):Pat
 |[.ptr 900 0,.str b,.str e,.fn gC' [.ptr 901 0,.ptr 902 0,.ptr 903 0]],[(900,.box c),(901,.box (.agg [.int .i64 k,.str g,.str q,.int .i64 z,.nils,.nils,.nils,.nils,.int .i64 pp])),(902,.box (.ptr 900 0)),(903,.box (.fn gY' [.ptr 902 0,.ptr 901 0]))]=>
  (match Nat.beq gC' gC,Nat.beq gY' gY,arg (.st .par) c with|true,true,some s=>some (F ⟨k,g,q,z,[],[],[],[],pp⟩ b e s)|_,_,_=>none)
 |_,_=>none
def Lb(gC:Nat)(gY:Nat)(x:Trm)(c:AV):List (Nat×SObj):=
 [(900,.box c),(901,.box (.agg [.int .i64 (x).kind,.str (x).pkg,.str (x).name,.int .i64 (x).n,.nils,.nils,.nils,.nils,.int .i64 (x).pos])),(902,.box (.ptr 900 0)),(903,.box (.fn gY [.ptr 902 0,.ptr 901 0]))]
theorem Ht{gC:Nat}{gY:Nat}{F:Trm->Str->Str->Par->Ans}(he:aw P f)(hp:∀x b e s,(F x b e s).pan=none)(hu:∀x b e s,∀i∈[900,901,902,903],i∈au (F x b e s).upd)
 (h:∀x b e s,x.names=[]->x.vars=[]->x.shapes=[]->x.parts=[]->(∀q,(F x b e s).ob=some q->q)->ax P f [.ptr 900 0,.str b,.str e,.fn gC [.ptr 901 0,.ptr 902 0,.ptr 903 0]] (Lb gC gY x (.st .par s)) (F x b e s)):ae P f (Dv gC gY F):=by
 intro args S A hA ho _;unfold Dv at hA;split at hA
 ·split at hA
  ·rename_i hb0 hb1 hs;simp only[Xs]at hA;subst hA;have e0:=Nx hb0;subst e0;have e1:=Nx hb1;subst e1;refine⟨he,ax.slots ?_ (hp _ _ _ _) (by simpa[au]using hu _ _ _ _) (h _ _ _ _ rfl rfl rfl rfl ho)⟩;exact .cons (dA _ hs) (.cons (RdO.refl _) (.cons (RdO.refl _) (.cons (RdO.refl _) .nil)))
  ·cases hA
 ·cases hA
def Dw(gC:Nat)(gY:Nat)(gT:Nat)(F:Trm->Str->Str->Par->Nat->Ans):Pat
 |[.ptr 900 0,.str b,.str e,.fn gC' [.ptr 901 0,.ptr 902 0,.ptr 903 0,.ptr 904 0]],[(900,.box c),(901,.box (.agg [.int .i64 k,.str g,.str q,.int .i64 z,.nils,.nils,.nils,.lst (.st .term) ps (some 905),.int .i64 pp])),(902,.box (.ptr 900 0)),(903,.box (.fn gY' [.ptr 902 0,.ptr 901 0])),(904,.box (.fn gT' [.ptr 901 0,.ptr 902 0])),(905,.tail (.st .term) mp)]=>
  (match Nat.beq gC' gC,Nat.beq gY' gY,Nat.beq gT' gT,arg (.st .par) c with|true,true,true,some s=>some (F ⟨k,g,q,z,[],[],[],ps,pp⟩ b e s mp)|_,_,_,_=>none)
 |_,_=>none
def Lc(gC:Nat)(gY:Nat)(gT:Nat)(x:Trm)(c:AV)(mp:Nat):List (Nat×SObj):=
 [(900,.box c),(901,.box (.agg [.int .i64 (x).kind,.str (x).pkg,.str (x).name,.int .i64 (x).n,.nils,.nils,.nils,.lst (.st .term) (x).parts (some 905),.int .i64 (x).pos])),(902,.box (.ptr 900 0)),(903,.box (.fn gY [.ptr 902 0,.ptr 901 0])),(904,.box (.fn gT [.ptr 901 0,.ptr 902 0])),(905,.tail (.st .term) mp)]
theorem Hu{gC:Nat}{gY:Nat}{gT:Nat}{F:Trm->Str->Str->Par->Nat->Ans}(he:aw P f)(hp:∀x b e s mp,(F x b e s mp).pan=none)(hu:∀x b e s mp,∀i∈[900,901,902,903,904,905],i∈au (F x b e s mp).upd)
 (h:∀x b e s mp,x.names=[]->x.vars=[]->x.shapes=[]->(∀q,(F x b e s mp).ob=some q->q)->ax P f [.ptr 900 0,.str b,.str e,.fn gC [.ptr 901 0,.ptr 902 0,.ptr 903 0,.ptr 904 0]] (Lc gC gY gT x (.st .par s) mp) (F x b e s mp)):ae P f (Dw gC gY gT F):=by
 intro args S A hA ho _;unfold Dw at hA;split at hA
 ·split at hA
  ·rename_i hb0 hb1 hb2 hs;simp only[Xs]at hA;subst hA;have e0:=Nx hb0;subst e0;have e1:=Nx hb1;subst e1;have e2:=Nx hb2;subst e2;refine⟨he,ax.slots ?_ (hp _ _ _ _ _) (by simpa[au]using hu _ _ _ _ _) (h _ _ _ _ _ rfl rfl rfl ho)⟩;exact .cons (dA _ hs) (.cons (RdO.refl _) (.cons (RdO.refl _) (.cons (RdO.refl _) (.cons (RdO.refl _) (.cons (RdO.refl _) .nil)))))
  ·cases hA
 ·cases hA
def sD(gC:Nat)(F:Trm->Str->Str->Par->Ans):Pat
 |[.ptr 900 0,.str b,.str e,.fn gC' [.ptr 901 0,.ptr 902 0]],[(900,.box c),(901,.box (.agg [.int .i64 k,.str g,.str q,.int .i64 z,.nils,.nils,.nils,.nils,.int .i64 pp])),(902,.box (.ptr 900 0))]=>
  (match Nat.beq gC' gC,arg (.st .par) c with|true,some s=>some (F ⟨k,g,q,z,[],[],[],[],pp⟩ b e s)|_,_=>none)
 |_,_=>none
def Hv(gC:Nat)(x:Trm)(c:AV):List (Nat×SObj):=
 [(900,.box c),(901,.box (.agg [.int .i64 (x).kind,.str (x).pkg,.str (x).name,.int .i64 (x).n,.nils,.nils,.nils,.nils,.int .i64 (x).pos])),(902,.box (.ptr 900 0))]
theorem yJ{gC:Nat}{F:Trm->Str->Str->Par->Ans}(he:aw P f)(hp:∀x b e s,(F x b e s).pan=none)(hu:∀x b e s,∀i∈[900,901,902],i∈au (F x b e s).upd)
 (h:∀x b e s,x.names=[]->x.vars=[]->x.shapes=[]->x.parts=[]->(∀q,(F x b e s).ob=some q->q)->ax P f [.ptr 900 0,.str b,.str e,.fn gC [.ptr 901 0,.ptr 902 0]] (Hv gC x (.st .par s)) (F x b e s)):ae P f (sD gC F):=by
 intro args S A hA ho _;unfold sD at hA;split at hA
 ·split at hA
  ·rename_i hb0 hs;simp only[Xs]at hA;subst hA;have e0:=Nx hb0;subst e0;refine⟨he,ax.slots ?_ (hp _ _ _ _) (by simpa[au]using hu _ _ _ _) (h _ _ _ _ rfl rfl rfl rfl ho)⟩;exact .cons (dA _ hs) (.cons (RdO.refl _) (.cons (RdO.refl _) .nil))
  ·cases hA
 ·cases hA
def sE(gC:Nat)(F:Trm->Str->Str->Par->Nat->Ans):Pat
 |[.ptr 900 0,.str b,.str e,.fn gC' [.ptr 901 0,.ptr 902 0]],[(900,.box c),(901,.box (.agg [.int .i64 k,.str g,.str q,.int .i64 z,.nils,.nils,.nils,.lst (.st .term) ps (some 903),.int .i64 pp])),(902,.box (.ptr 900 0)),(903,.tail (.st .term) mp)]=>
  (match Nat.beq gC' gC,arg (.st .par) c with|true,some s=>some (F ⟨k,g,q,z,[],[],[],ps,pp⟩ b e s mp)|_,_=>none)
 |_,_=>none
def Hw(gC:Nat)(x:Trm)(c:AV)(mp:Nat):List (Nat×SObj):=
 [(900,.box c),(901,.box (.agg [.int .i64 (x).kind,.str (x).pkg,.str (x).name,.int .i64 (x).n,.nils,.nils,.nils,.lst (.st .term) (x).parts (some 903),.int .i64 (x).pos])),(902,.box (.ptr 900 0)),(903,.tail (.st .term) mp)]
theorem Ew{gC:Nat}{F:Trm->Str->Str->Par->Nat->Ans}(he:aw P f)(hp:∀x b e s mp,(F x b e s mp).pan=none)(hu:∀x b e s mp,∀i∈[900,901,902,903],i∈au (F x b e s mp).upd)
 (h:∀x b e s mp,x.names=[]->x.vars=[]->x.shapes=[]->(∀q,(F x b e s mp).ob=some q->q)->ax P f [.ptr 900 0,.str b,.str e,.fn gC [.ptr 901 0,.ptr 902 0]] (Hw gC x (.st .par s) mp) (F x b e s mp)):ae P f (sE gC F):=by
 intro args S A hA ho _;unfold sE at hA;split at hA
 ·split at hA
  ·rename_i hb0 hs;simp only[Xs]at hA;subst hA;have e0:=Nx hb0;subst e0;refine⟨he,ax.slots ?_ (hp _ _ _ _ _) (by simpa[au]using hu _ _ _ _ _) (h _ _ _ _ _ rfl rfl rfl ho)⟩;exact .cons (dA _ hs) (.cons (RdO.refl _) (.cons (RdO.refl _) (.cons (RdO.refl _) .nil)))
  ·cases hA
 ·cases hA
end
end Go.AL
end
section
namespace Go.Pd
open Go.AL
def aZ(l:List Tokn)(a:Int):Par:=if a<0∨(l.length:Int)<a then⟨l,a,2,0⟩else if 4097<l.length then⟨l,a,3,0⟩else⟨l,a,0,0⟩
def ni{α:Type}(z:α)(p:α×Par):α×Int×Flt:=if aY p.2=true then(z,0,⟨p.2.err,p.2.fat⟩)else(p.1,p.2.pos,⟨0,0⟩)
def eF:Shape:=⟨0,[],[],[],[]⟩
def cd:Trm:=⟨0,[],[],0,[],[],[],[],0⟩
def eL(l:List Tokn)(a:Int):Shape×Int×Flt:=if aY (aZ l a)=true then(eF,0,⟨(aZ l a).err,(aZ l a).fat⟩)else ni eF (bw (aZ l a))
def cM(l:List Tokn)(a:Int):Flt:=if a=(l.length:Int)-1 then⟨0,0⟩else⟨90,(l.getD a.toNat (dfl (.st .token))).pos⟩
theorem jk{l:List Tokn}{a:Int}(hN:qW l)(h:aY (aZ l a)=false):a8 (aZ l a):=by
 unfold aZ at h⊢;split
 ·rename_i c;rw[N6 c]at h;exact absurd h (by simp[aY])
 rename_i c;rw[N3 c]at h;split
 ·rename_i d;rw[N6 d]at h;exact absurd h (by simp[aY])
 rename_i d;exact⟨by show 0<=a;omega,by show a<=(l.length:Int);omega,by show l.length<=4097;omega,hN⟩
end Go.Pd
end
section
namespace Go.Pd
open Go.AL
mutual
def szT:Trm->Nat
 |⟨_,_,_,_,_,_,_,ps,_⟩=>szTL ps+1
def szTL:List Trm->Nat
 |[]=>0
 |p::r=>szT p+szTL r
end
mutual
def countT:Trm->Int->Int×Int
 |⟨_,_,_,_,_,_,_,ps,_⟩,m=>((countL ps m 1 0).1,(countL ps m 1 0).2+1)
def countL:List Trm->Int->Int->Int->Int×Int
 |[],_,n,d=>(n,d)
 |p::r,m,n,d=>if m<n then(n,d)else countL r m (n+(countT p (m-n)).1) (max d (countT p (m-n)).2)
end
theorem Ex(t:Trm)(m:Int):countT t m=((countL t.parts m 1 0).1,(countL t.parts m 1 0).2+1):=by cases t;rw[countT]
theorem mi(t:Trm):szT t=szTL t.parts+1:=by cases t;rw[szT]
theorem jL(t:Trm):1<=szT t:=by rw[mi];omega
mutual
theorem countT_bound:∀(t:Trm)(m:Int),0<=m->1<=(countT t m).1/\(countT t m).1<=m+1/\1<=(countT t m).2/\(countT t m).2<=(countT t m).1
 |⟨k,g,q,z,ns,vs,ss,ps,pp⟩,m,hm=>by have h:=countL_bound ps m 1 0 (by omega) (by omega) (by omega) (by omega);rw[countT];exact⟨h.1,h.2.1,by show 1<=(countL ps m 1 0).2+1;omega,by show(countL ps m 1 0).2+1<=_;omega⟩
theorem countL_bound:∀(l:List Trm)(m n d:Int),1<=n->n<=m+1->0<=d->d+1<=n->1<=(countL l m n d).1/\(countL l m n d).1<=m+1/\0<=(countL l m n d).2/\(countL l m n d).2+1<=(countL l m n d).1
 |[],m,n,d,h1,h2,h3,h4=>by rw[countL];exact⟨h1,h2,h3,h4⟩
 |p::r,m,n,d,h1,h2,h3,h4=>by
  rw[countL];split
  ·exact⟨h1,h2,h3,h4⟩
  ·have h:=countT_bound p (m-n) (by omega);exact countL_bound r m _ _ (by omega) (by omega) (by omega) (by omega)
end
theorem oV:∀{l:List Trm} {t:Trm},t∈l->szT t<=szTL l
 |p::r,t,h=>by
  rw[szTL];rcases Nw.1 h with e|e
  ·subst e;omega
  ·have:=oV e;omega
def bu{α:Type}(F:α->Bool):List α->Nat->Int
 |[],_=>-1
 |x::r,k=>if F x=true then bu F r (k+1)else(k:Int)
theorem jl{α:Type}(F:α->Bool):∀(l:List α)(k:Nat),decide (0<=bu F l k)=!l.all F
 |[],_=>rfl
 |x::r,k=>by
  rw[bu,NI];by_cases h:F x=true
  ·rw[N6 h,jl F r (k+1),h];rfl
  ·rw[N3 h];have:F x=false:=by simpa using h
   rw[this];simp
def bn(s:Shape):Bool:=!decide (s.kind=10)
theorem eX(f:Shape->Bool):∀l:List Shape,allL f l=l.all (allS f)
 |[]=>rfl
 |p::r=>by rw[NI,<-eX f r];rfl
end Go.Pd
end
section
namespace Go.AL
variable [Tabs]
section
variable {P:Program} {f:Nat}
def pfc(τ:Ty)(n g:Nat)(F:den τ->Ans):Pat
 |[a,.fn f [.ptr 900 0]],[(900,.box (.fn h []))]=>(match Nat.beq f n,Nat.beq h g,arg τ a with|true,true,some a=>some (F a)|_,_,_=>none)
 |_,_=>none
theorem jV{τ:Ty}{n g:Nat}{F:den τ->Ans}(he:aw P f)(h:∀x,Wf τ x->(∀q,(F x).ob=some q->q)->ax P f [inj τ x,.fn n [.ptr 900 0]] [(900,.box (.fn g []))] (F x)):ae P f (pfc τ n g F):=by
 intro args S A hA ho _;unfold pfc at hA;split at hA
 ·split at hA
  ·rename_i hb hc hx;simp only[Xs]at hA;subst hA;have e:=Nx hb;subst e;have e:=Nx hc;subst e;exact⟨he,ax.args (.cons (Rd.arg hx) (.cons (Rd.refl _) .nil)) (ax.wf fun hw=>h _ hw.one ho)⟩
  ·cases hA
 ·cases hA
def pcl(τ:Ty)(g:Nat)(F:den τ->Ans):Pat
 |[a,.ptr 900 0],[(900,.box (.fn h []))]=>(match Nat.beq h g,arg τ a with|true,some a=>some (F a)|_,_=>none)
 |_,_=>none
theorem sF{τ:Ty}{g:Nat}{F:den τ->Ans}(he:aw P f)(h:∀x,Wf τ x->(∀q,(F x).ob=some q->q)->ax P f [inj τ x,.ptr 900 0] [(900,.box (.fn g []))] (F x)):ae P f (pcl τ g F):=by
 intro args S A hA ho _;unfold pcl at hA;split at hA
 ·split at hA
  ·rename_i hc hx;simp only[Xs]at hA;subst hA;have e:=Nx hc;subst e;exact⟨he,ax.args (.cons (Rd.arg hx) (.cons (Rd.refl _) .nil)) (ax.wf fun hw=>h _ hw.one ho)⟩
  ·cases hA
 ·cases hA
end
end Go.AL
end
