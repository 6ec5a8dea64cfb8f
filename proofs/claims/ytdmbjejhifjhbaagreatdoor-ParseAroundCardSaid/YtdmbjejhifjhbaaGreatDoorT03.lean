/- The layer: Go code as conditions, and that they are sound. Plain facts. No condition. -/
import Derived.Test.YtdmbjejhifjhbaaGreatDoorT02
import Derived.ChangeMaps
import Derived.Deep.LoopGhost
import Derived.JoinedCond
import Derived.KernelRfl
import Derived.Lib.AtoiErrMem
import Derived.Maps.RangeRun
import Derived.OpenShut
import Derived.ProofKit
import Derived.Scope
import Derived.Shelf.SlIter.Sorted
import Derived.Shelf.SlSortCmp.Whole1
import Derived.Shelf.Slices.CompactS
import Derived.Shelf.Slices.In.SortNone
import Derived.Shelf.Small.Strs
import Derived.Shelf.Sort.Plain
import Derived.Shelf.Strconv.Atoi
import Derived.Shelf.Strings.BuilderF
import Derived.WalkKit
import Derived.WideKeyArgs
set_option linter.all false
set_option maxRecDepth 100000
section
namespace Go.AL
variable [Tabs]
theorem er:∀{cs:List AV} {j:Nat} {c:AV},cs[j]?=some c->∀i∈ids c,i∈ids.idsL cs
 |[],j,c,h,_,_=>by simp at h
 |a::r,0,c,h,i,hi=>by simp at h;subst h;simp[ids.idsL,hi]
 |a::r,j+1,c,h,i,hi=>by simp only[ids.idsL,HX];exact Or.inr (er (by simpa using h) i hi)
theorem fS(τ:Ty)(x:den τ):ids.idsL (cells τ x)=[]:=by
 cases τ with
 |st n=>cases n<;>rfl
 |_=>rfl
theorem CQ(τ:Ty)(xs:List (den τ)):∀c∈bp τ xs,ids c=[]:=by
 intro c hc;simp only[bp,Iw]at hc;obtain⟨x,_,hx⟩:=hc;obtain⟨j,hj⟩:=List.getElem?_of_mem hx
 cases hi:ids c with
 |nil=>rfl
 |cons a r=>have:=er hj a (by rw[hi];simp);rw[fS]at this;cases this
theorem nL{c:AV}{j:Nat}{c':AV}(hc:(aa c)[j]?=some c')(k:Nat)(hk:k∈ids c'):k∈ids c:=by
 cases c with
 |agg cs=>exact er (cs:=cs) hc k hk
 |st n x=>have:=er (cs:=cells (.st n) x) hc k hk;rw[fS]at this;cases this
 |row τ xs=>rw[CQ τ xs c' (HO hc)]at hk;cases hk
 |_=>
  cases j with|zero=>simp[aa]at hc;subst hc;exact hk|succ j=>simp[aa]at hc
theorem V.agree{Ω:Om}{e':Nat->Option CObj}{a:AV}{v:Value}(h:V Ω a v):(∀i∈ids a,e' i=Ω.e i)->V ⟨e',Ω.w,Ω.pub⟩ a v:=by
 have tok:∀{o:Option Nat} {n:Nat} {v:Value},(∀i,o=some i->e' i=Ω.e i)->gj Ω o n v->gj ⟨e',Ω.w,Ω.pub⟩ o n v:=by intro o n v hi ht id hid;obtain⟨m,base,cap,h1,h2,h3⟩:=ht id hid;exact⟨m,base,cap,by simp only;rw[hi id hid,h1],h2,h3⟩
 induction h with
 |undef v=>exact fun _=>.undef v
 |int k n h1 h2=>exact fun _=>.int k n h1 h2
 |bool b=>exact fun _=>.bool b
 |str s h=>exact fun _=>.str s h
 |lstNil τ o ht=>exact fun hi=>.lstNil τ o (tok (fun i e=>hi i (by subst e;simp[ids])) ht)
 |lstVoid τ a=>exact fun _=>.lstVoid τ a
 |lst τ xs o b off cap vals h1 h2 h3 h4 h5 ih=>intro hi;refine .lst τ xs o b off cap vals h1 h2 (tok (fun i e=>hi i (by subst e;simp[ids])) h3) h4 (fun i x hx j c hc=>ih i x hx j c hc (fun k hk=>?_));have:=er hc k hk;rw[fS]at this;cases this
 |nils=>exact fun _=>.nils
 |ptr id off b o len hb=>exact fun hi=>.ptr id off b o len (by simp only;rw[hi id (by simp[ids]),hb])
 |ptNone n=>exact fun _=>.ptNone n
 |ptSome n x v _ ih=>exact fun _=>.ptSome n x v (ih (fun k hk=>by simp[ids]at hk))
 |arr id n w b len cap a he h1 h2 h3 h4=>exact fun hi=>.arr id n w b len cap a (by simp only;rw[hi id (by simp[ids]),he]) h1 h2 h3 h4
 |aptr id i w off b o len he=>exact fun hi=>.aptr id i w off b o len (by simp only;rw[hi id (by simp[ids]),he])
 |bptr id b g he=>exact fun hi=>.bptr id b g (by simp only;rw[hi id (by simp[ids]),he])
 |iface t a v _ ih=>exact fun hi=>.iface t a v (ih (fun k hk=>hi k (by simp only[ids];exact hk)))
 |nilif=>exact fun _=>.nilif
 |lstp τ xs k b off cap vals h1 h2 h3 h4 h5 ih=>intro hi;refine .lstp τ xs k b off cap vals h1 h2 (tok (fun i e=>hi i (by cases e;simp[ids])) h3) h4 (fun i x hx j c hc=>ih i x hx j c hc (fun k hk=>?_));have:=er hc k hk;rw[fS]at this;cases this
 |tptr τ n k p hp=>intro hi;obtain⟨m,base,cap,h1,h2⟩:=hp;exact .tptr τ n k p ⟨m,base,cap,by simp only;rw[hi k (by simp[ids]),h1],h2⟩
 |st n x v _ ih=>exact fun hi=>.st n x v (ih (fun k hk=>by
   have e:ids (.agg (cells (.st n) x))=[]:=fS (.st n) x;rw[e]at hk;cases hk))
 |cptr c b off vals h1 h2 ih=>exact fun hi=>.cptr c b off vals h1 (fun j c' hc=>ih j c' hc (fun k hk=>hi k (nL hc k hk)))
 |nilp=>exact fun _=>.nilp
 |agg cs vs hl _ ih=>exact fun hi=>.agg cs vs hl (fun j c v hc hv=>ih j c v hc hv (fun k hk=>hi k (by simp only[ids];exact er hc k hk)))
 |tup cs vs hl _ ih=>exact fun hi=>.tup cs vs hl (fun j c v hc hv=>ih j c v hc hv (fun k hk=>hi k (by simp only[ids];exact er hc k hk)))
 |fn f cs vs hl _ ih=>exact fun hi=>.fn f cs vs hl (fun j c v hc hv=>ih j c v hc hv (fun k hk=>hi k (by simp only[ids];exact er hc k hk)))
theorem mR:∀(l:List (Nat×AV))(i:Nat),cm l i=.undef∨(i,cm l i)∈l
 |[],i=>Or.inl rfl
 |(j,v)::r,i=>by
  simp only[cm];by_cases h:j=i
  ·subst h;simp
  ·simp only[I3,h,HW];rcases mR r i with k|k
   ·exact Or.inl k
   ·exact Or.inr (HH _ k)
theorem dE:∀(l:List (Nat×SObj))(i:Nat)(o:SObj),aD l i=some o->(i,o)∈l
 |[],i,o,h=>by simp[aD]at h
 |(j,v)::r,i,o,h=>by
  simp only[aD]at h;by_cases hj:j=i
  ·subst hj;simp at h;simp[h]
  ·simp only[I3,hj,HW]at h;exact HH _ (dE r i o h)
theorem l9:∀(l:List (Nat×SObj))(i:Nat),aD l i=none->i∉l.map (·.1)
 |[],i,_=>by simp
 |(j,v)::r,i,h=>by
  simp only[aD]at h;by_cases hj:j=i
  ·subst hj;simp at h
  ·simp only[I3,hj,HW]at h;have:=l9 r i h;simp only[HN,Hy,JV];exact⟨fun e=>hj e.symm,this⟩
theorem oj(l:List (Nat×AV))(p:Nat->Bool)(i:Nat):cm (l.filter fun x=>p x.1) i=if p i then cm l i else .undef:=by
 induction l with
 |nil=>simp[cm]
 |cons x r ih=>
  obtain⟨j,v⟩:=x;by_cases hp:p j=true
  ·rw[List.filter_cons_of_pos (by simpa using hp)];simp only[cm,ih];by_cases hj:j=i
   ·subst hj;simp[hp]
   ·simp[hj]
  ·rw[List.filter_cons_of_neg (by simpa using hp),ih];by_cases hj:j=i
   ·subst hj;simp[hp]
   ·simp[cm,hj]
theorem iQ(l:List (Nat×SObj))(p:Nat->Bool)(i:Nat):aD (l.filter fun x=>p x.1) i=if p i then aD l i else none:=by
 induction l with
 |nil=>simp[aD]
 |cons x r ih=>
  obtain⟨j,v⟩:=x;by_cases hp:p j=true
  ·rw[List.filter_cons_of_pos (by simpa using hp)];simp only[aD,ih];by_cases hj:j=i
   ·subst hj;simp[hp]
   ·simp[hj]
  ·rw[List.filter_cons_of_neg (by simpa using hp),ih];by_cases hj:j=i
   ·subst hj;simp[hp]
   ·simp[aD,hj]
theorem Holds.forget{F:Fr}{s:AS}{s':St}{a:Act}{Ω:Om}{A:List Nat}(h:Holds F s a Ω)(hT:∀i,s'.abs.T i=.undef∨s'.abs.T i=s.T i)
 (hB:∀i,i∈A->s'.abs.B i=none)(hB':∀i,i∉A->s'.abs.B i=s.B i)(hn:eE A s'=true)(hA:∀i∈A,cN i=false) :
  ∃Ω',Ω'.w=Ω.w/\Holds F s'.abs a Ω':=by
 have hn':(∀x∈s'.t,∀i∈ids x.2,i∉A)/\(∀x∈s'.b,∀i∈xA x.2,i∉A):=by simp only[eE,Hk,HE]at hn;exact⟨fun x hx=>hX (hn.1 x hx),fun x hx=>hX (hn.2 x hx)⟩
 have he:∀i,i∉A->(fun i=>if i∈A then none else Ω.e i) i=Ω.e i:=fun i hi=>by simp[hi]
 refine⟨⟨fun i=>if i∈A then none else Ω.e i,Ω.w,Ω.pub⟩,rfl,fun i=>?_,h.size,h.defers,fun id o ho=>?_,fun id hid=>?_,fun i j ci cj b o hi hj hbi hbj=>?_,h.pubok,fun id c hc=>?_,?_⟩
 ·rcases mR s'.t i with k|k
  ·have:s'.abs.T i=.undef:=k;rw[this];exact .undef _
  ·rcases hT i with hu|hu
   ·rw[hu];exact .undef _
   ·refine V.agree (Ω:=Ω) ?_ (fun j hj=>he j (hn'.1 _ k j hj));have:=h.tmps i;rw[<-hu]at this;exact this
 ·have hid:id∉A:=fun hm=>by rw[hB id hm]at ho;cases ho
  have hs:=h.slots id o (by rw[<-hB' id hid];exact ho);have hm:=hn'.2 _ (dE _ _ _ ho)
  cases o with
  |box c=>obtain⟨b,off,h1,h2⟩:=hs;refine⟨b,off,by simp only[Hh hid,h1],fun j c' hc=>?_⟩;obtain⟨k1,k2,k3,v,k4,k5⟩:=h2 j c' hc;exact⟨k1,k2,k3,v,k4,k5.agree (fun j hj=>he j (hm j (nL hc j hj)))⟩
  |tail τ n=>obtain⟨base,cap,h1,h2⟩:=hs;exact⟨base,cap,by simp only[Hh hid,h1],h2⟩
  |bld t u l=>obtain⟨b,g,h1,h2,h3⟩:=hs;exact⟨b,g,by simp only[Hh hid,h1],h2,h3⟩
  |tailp τ n x=>obtain⟨b,cap,h1,h2,h3,h4,h5,h6,h7⟩:=hs;refine⟨b,cap,by simp only[Hh hid,h1],h2,h3,h4,h5,h6,fun j c hc=>?_⟩;obtain⟨v,g1,g2⟩:=h7 j c hc;refine⟨v,g1,g2.agree (fun i hi=>?_)⟩;have:=er hc i hi;rw[fS]at this;cases this
 ·by_cases hA:id∈A
  ·simp[hA]
  ·simp only[Hh hA];exact h.dom id (by rw[<-hB' id hA];exact hid)
 ·by_cases hi':i∈A
  ·simp[hi']at hi
  ·by_cases hj':j∈A
   ·simp[hj']at hj
   ·simp only[Hh hi']at hi;simp only[Hh hj']at hj;exact h.inj i j ci cj b o hi hj hbi hbj
 ·have hl:=F.dom0 id c hc;have hid:id∉A:=fun hm=>by rw[hA id hm]at hl;cases hl
  obtain⟨c',h1,h2⟩:=h.keep id c hc;exact⟨c',by simp only[Hh hid];exact h1,h2⟩
 ·exact⟨h.frame.os,h.frame.tape,h.frame.output,h.frame.size,h.frame.block,h.frame.cell,h.frame.kind,h.frame.pub,h.frame.old,h.frame.pcell⟩
theorem Gl{A:List Nat}{i:Nat}(h:i∈A):¬((!A.contains i)=true):=by simp[h]
theorem F0{A:List Nat}{i:Nat}(h:i∉A):(!A.contains i)=true:=by simp[h]
theorem vn{F:Fr}{ops:List Oper}{s s':St}{a:Act}{Ω:Om}(h:Holds F s.abs a Ω)(he:enter ops s=some s') :
  ∃Ω',Ω'.w=Ω.w/\Holds F s'.abs a Ω':=by
 simp only[enter]at he;generalize hA:((s.b.map (·.1)).filter fun i=>Cw (uM ops) (zI ops) i&&!cN i)=A at he;have hAl:∀i∈A,cN i=false:=by intro i hi;rw[<-hA]at hi;simp only[Iy,Hk,HB]at hi;exact hi.2.2
 split at he
 ·simp at he;subst he;exact⟨Ω,rfl,h⟩
 ·split at he
  ·rename_i hn;simp only[Xs]at he;subst he;refine h.forget (A:=A) (fun i=>?_) (fun i hi=>?_) (fun i hi=>?_) hn hAl
   ·have:=oj s.t (fun i=>!A.contains i) i;simp only[St.abs];rw[this];split<;>simp
   ·have:=iQ s.b (fun i=>!A.contains i) i;simp only[St.abs];rw[this,Hh (Gl hi)]
   ·have:=iQ s.b (fun i=>!A.contains i) i;simp only[St.abs];rw[this,Hj (F0 hi)]
  ·simp at he
theorem mS{G:List Nat}:∀{cs ds:List AV},LeL G cs ds->cs.length=ds.length/\∀(j:Nat)(c d:AV),cs[j]?=some c->ds[j]?=some d->LeV G c d
 |[],[],_=>⟨rfl,fun j c d h=>by simp at h⟩
 |[],_::_,h=>by simp[LeL]at h
 |_::_,[],h=>by simp[LeL]at h
 |a::r,b::s,h=>by
  simp only[LeL]at h;obtain⟨h1,h2⟩:=mS h.2;refine⟨by simp[h1],fun j c d hc hd=>?_⟩
  cases j with|zero=>simp at hc hd;subst hc hd;exact h.1|succ j=>exact h2 j c d (by simpa using hc) (by simpa using hd)
theorem kF{G:List Nat}:∀{cs ds:List AV},uN G cs ds->cs.length=ds.length/\∀(j:Nat)(c d:AV),cs[j]?=some c->ds[j]?=some d->LeF G c d
 |[],[],_=>⟨rfl,fun j c d h=>by simp at h⟩
 |[],_::_,h=>by simp[uN]at h
 |_::_,[],h=>by simp[uN]at h
 |a::r,b::s,h=>by
  simp only[uN]at h;obtain⟨h1,h2⟩:=kF h.2;refine⟨by simp[h1],fun j c d hc hd=>?_⟩
  cases j with|zero=>simp at hc hd;subst hc hd;exact h.1|succ j=>exact h2 j c d (by simpa using hc) (by simpa using hd)
theorem V.leF{Ω:Om}{G:List Nat}(hG:∀k∈G,Ω.e k=some (.tail 0 none 0)){a:AV}{v:Value}(h:V Ω a v){b:AV}(hb:LeF G a b):V Ω b v:=by
 cases b with
 |undef=>exact .undef v
 |int k n=>cases a<;>simp[LeF]at hb;obtain⟨rfl,rfl⟩:=hb;exact h
 |bool b=>cases a<;>simp[LeF]at hb;subst hb;exact h
 |str b=>cases a<;>simp[LeF]at hb;subst hb;exact h
 |nilp=>cases a<;>simp[LeF]at hb;exact h
 |nilif=>cases a<;>simp[LeF]at hb;exact h
 |bptr i=>cases a<;>simp[LeF]at hb;subst hb;exact h
 |arr i n w=>cases a<;>simp[LeF]at hb;obtain⟨⟨rfl,rfl⟩,rfl⟩:=hb;exact h
 |aptr i n w o=>cases a<;>simp[LeF]at hb;obtain⟨⟨rfl,rfl,rfl⟩,rfl⟩:=hb;exact h
 |row τ xs=>cases h<;>simp[LeF]at hb
 |lstp τ xs k=>cases a<;>simp[LeF]at hb
 |tptr τ n k=>cases a<;>simp[LeF]at hb
 |iface t c=>cases a<;>simp[LeF]at hb
 |pt m y=>
  cases a with
  |pt n x=>
   simp only[LeF]at hb;split at hb
   ·rename_i x' hx;obtain⟨e,e2⟩:=pK hx;subst e;simp only at e2;subst e2;subst hb;exact h
   ·exact hb.elim
  |nilp=>simp[LeF]at hb;subst hb;cases h;exact .ptNone m
  |_=>simp[LeF]at hb
 |nils=>cases a<;>simp[LeF]at hb;exact h
 |ptr i o=>cases a<;>simp[LeF]at hb;obtain⟨rfl,rfl⟩:=hb;exact h
 |cptr c=>cases a<;>simp[LeF]at hb
 |agg c=>cases a<;>simp[LeF]at hb
 |tup c=>cases a<;>simp[LeF]at hb
 |fn f c=>cases a<;>simp[LeF]at hb
 |st m y=>
  cases a with
  |st n x=>
   simp only[LeF]at hb;split at hb
   ·rename_i x' hx;obtain⟨e,e2⟩:=kx hx;subst e;simp only at e2;subst e2;subst hb;exact h
   ·exact hb.elim
  |_=>simp[LeF]at hb
 |lst σ ys p=>
  cases a with
  |lst τ xs o=>
   simp only[LeF]at hb;obtain⟨k1,k2⟩:=hb
   have hp:∀id,p=some id->o=some id:=by
    intro id hid
    have:p=none∨p=o:=by
     rcases IY (p=none∨p=o)with k|k
     ·exact k
     ·rw[Hh k]at k2;exact k2.elim
    rcases this with k|k
    ·rw[k]at hid;cases hid
    ·rw[<-k];exact hid
   split at k1
   ·rename_i xs' hx;obtain⟨e,e2⟩:=ji hx;subst e;simp only at e2;subst e2;subst k1
    cases h with
    |lstNil _ _ ht=>exact .lstNil _ p (fun id hid=>ht id (hp id hid))
    |lstVoid _ a=>
     cases p with|none=>exact .lstVoid _ a|some k=>exact absurd (hp k rfl) (by simp)
    |lst _ _ _ b' off cap vals h1 h2 h3 h4 h5=>exact .lst _ _ p b' off cap vals h1 h2 (fun id hid=>h3 id (hp id hid)) h4 h5
   ·exact k1.elim
  |nils=>
   simp only[LeF]at hb;obtain⟨h1,h2⟩:=hb;subst h2;cases h;refine .lstNil σ p (fun id hid=>?_);subst hid;simp only at h1
   have hk:id∈G:=by
    rcases IY (G.contains id=true)with k|k
    ·simpa using k
    ·rw[Hh k]at h1;exact h1.elim
   exact⟨0,none,0,hG id hk,Hu _,fun _=>rfl⟩
  |_=>simp[LeF]at hb
theorem p7{G:List Nat}{a b:AV}(h:LeF G a b):LeV G a b:=by
 cases a<;>cases b<;>first|exact h|exact h.elim
theorem vo{G:List Nat}{c d:AV}(h0:uO c d)(h:LeV G c d):(aa c).length=(aa d).length/\
  ∀(j:Nat)(c' d':AV),(aa c)[j]?=some c'->(aa d)[j]?=some d'->(c'=d'∨LeV G c' d'):=by
 have one:∀{c d:AV},aa c=[c]->aa d=[d]->LeV G c d->(aa c).length=(aa d).length/\
   ∀(j:Nat)(c' d':AV),(aa c)[j]?=some c'->(aa d)[j]?=some d'->(c'=d'∨LeV G c' d'):=by
  intro c d hc hd h;rw[hc,hd];refine⟨rfl,fun j c' d' h1 h2=>?_⟩
  cases j with|zero=>simp at h1 h2;subst h1 h2;exact Or.inr h|succ j=>simp at h1
 cases c with
 |agg cs=>
  cases d with
  |agg ds=>obtain⟨l1,l2⟩:=mS (cs:=cs) (ds:=ds) h;exact⟨l1,fun j c' d' h1 h2=>Or.inr (l2 j c' d' h1 h2)⟩
  |st m y=>obtain⟨l1,l2⟩:=kF (cs:=cs) (ds:=cells (.st m) y) h;exact⟨l1,fun j c' d' h1 h2=>Or.inr (p7 (l2 j c' d' h1 h2))⟩
  |undef=>exact h0.elim
  |_=>exact h.elim
 |st n x=>
  cases d with
  |agg ds=>obtain⟨l1,l2⟩:=kF (cs:=cells (.st n) x) (ds:=ds) h;exact⟨l1,fun j c' d' h1 h2=>Or.inr (p7 (l2 j c' d' h1 h2))⟩
  |st m y=>
   have h':(match mD n m x with|some x=>x=y|none=>False):=h;split at h'
   ·rename_i x' hx;obtain⟨e,e2⟩:=kx hx;subst e;simp only at e2;subst e2;subst h';exact⟨rfl,fun j c' d' h1 h2=>Or.inl (by rw[h1]at h2;exact Iz h2)⟩
   ·exact h'.elim
  |undef=>exact h0.elim
  |_=>exact h.elim
 |row τ xs=>
  cases d with
  |row σ ys=>
   have h':(match kg τ σ xs with|some xs=>xs=ys|none=>False):=h;split at h'
   ·rename_i x' hx;obtain⟨e,e2⟩:=ji hx;subst e;simp only at e2;subst e2;subst h';exact⟨rfl,fun j c' d' h1 h2=>Or.inl (by rw[h1]at h2;exact Iz h2)⟩
   ·exact h'.elim
  |undef=>exact h0.elim
  |_=>exact h.elim
 |_=>
  cases d with|agg ds=>exact h.elim|st m y=>exact h.elim|row τ xs=>exact h.elim|_=>exact one rfl rfl h
theorem V.le{Ω:Om}{G:List Nat}(hG:∀k∈G,Ω.e k=some (.tail 0 none 0)){a:AV}{v:Value}(h:V Ω a v):∀{b:AV},LeV G a b->V Ω b v:=by
 have part:∀{cs ds:List AV} {vs:List Value},cs.length=ds.length->(∀(j:Nat)(c:AV)(v:Value),cs[j]?=some c->vs[j]?=some v->∀{b:AV},LeV G c b->V Ω b v)->
   (∀(j:Nat)(c d:AV),cs[j]?=some c->ds[j]?=some d->LeV G c d)->∀(j:Nat)(d:AV)(v:Value),ds[j]?=some d->vs[j]?=some v->V Ω d v:=by
  intro cs ds vs hl ih l2 j d v hd hv
  have:j<cs.length:=by
   rw[hl];rcases Hw j ds.length with k|k
   ·exact k
   ·rw[Hn k]at hd;cases hd
  exact ih j _ v (Hi this) hv (l2 j _ d (Hi this) hd)
 induction h with
 |undef v=>intro b hb;exact(V.undef v).leF hG (by cases b<;>exact hb)
 |int k n h1 h2=>intro b hb;exact(V.int k n h1 h2).leF hG (by cases b<;>exact hb)
 |bool b'=>intro b hb;exact(V.bool b').leF hG (by cases b<;>exact hb)
 |str s h=>intro b hb;exact(V.str s h).leF hG (by cases b<;>exact hb)
 |lstNil τ o ht=>intro b hb;exact(V.lstNil τ o ht).leF hG (by cases b<;>exact hb)
 |lstVoid τ a=>intro b hb;exact(V.lstVoid τ a).leF hG (by cases b<;>exact hb)
 |lst τ xs o b' off cap vals h1 h2 h3 h4 h5 ih=>intro b hb;exact(V.lst τ xs o b' off cap vals h1 h2 h3 h4 h5).leF hG (by cases b<;>exact hb)
 |nils=>intro b hb;exact V.nils.leF hG (by cases b<;>exact hb)
 |ptr id off b' o len hb'=>intro b hb;exact(V.ptr id off b' o len hb').leF hG (by cases b<;>exact hb)
 |nilp=>intro b hb;exact V.nilp.leF hG (by cases b<;>exact hb)
 |ptNone n=>intro b hb;exact(V.ptNone n).leF hG (by cases b<;>exact hb)
 |ptSome n x v hv _=>intro b hb;exact(V.ptSome n x v hv).leF hG (by cases b<;>exact hb)
 |arr id n w b' len cap a he h1 h2 h3 h4=>intro b hb;exact(V.arr id n w b' len cap a he h1 h2 h3 h4).leF hG (by cases b<;>exact hb)
 |aptr id i w off b' o len he=>intro b hb;exact(V.aptr id i w off b' o len he).leF hG (by cases b<;>exact hb)
 |bptr id b' g he=>intro b hb;exact(V.bptr id b' g he).leF hG (by cases b<;>exact hb)
 |nilif=>intro b hb;exact V.nilif.leF hG (by cases b<;>exact hb)
 |lstp τ xs k b' off cap vals h1 h2 h3 h4 h5 ih=>intro b hb;exact(V.lstp τ xs k b' off cap vals h1 h2 h3 h4 h5).leF hG (by cases b<;>exact hb)
 |tptr τ n k p hp=>intro b hb;exact(V.tptr τ n k p hp).leF hG (by cases b<;>exact hb)
 |iface t a v hv ih=>
  intro b hb
  cases b with
  |iface u d=>
   simp only[LeV]at hb;obtain⟨h0,hb⟩:=hb
   have htu:t=u:=by
    rcases IY (t=u)with k|k
    ·exact k
    ·rw[Hh k]at h0;exact h0.elim
   subst htu;exact .iface t d v (ih hb)
  |undef=>exact .undef _
  |_=>exact hb.elim
 |st n x v hv ih=>
  intro b hb
  cases b with
  |agg ds=>
   obtain⟨vs,rfl,hvl⟩:=hv.agg_inv;obtain⟨l1,l2⟩:=kF (cs:=cells (.st n) x) (ds:=ds) hb;refine .agg ds vs (by rw[<-l1,hvl.1]) (fun j d u hd hu=>?_)
   have:j<(cells (.st n) x).length:=by
    rw[l1];rcases Hw j ds.length with k|k
    ·exact k
    ·rw[Hn k]at hd;cases hd
   exact(hvl.2 j _ u (Hi this) hu).leF hG (l2 j _ d (Hi this) hd)
  |_=>exact(V.st n x v hv).leF hG hb
 |cptr c b' off vals h1 h2 ih=>
  intro b hb
  cases b with
  |cptr d=>
   simp only[LeV]at hb;obtain⟨l1,l2⟩:=vo hb.1 hb.2
   have hc:∀(j:Nat)(d':AV),(aa d)[j]?=some d'->∃c',(aa c)[j]?=some c':=by
    intro j d' hd
    have:j<(aa c).length:=by
     rw[l1];rcases Hw j (aa d).length with k|k
     ·exact k
     ·rw[Hn k]at hd;cases hd
    exact⟨_,Hi this⟩
   refine .cptr d b' off vals (fun j d' hd=>?_) (fun j d' hd=>?_)
   ·obtain⟨c',hcj⟩:=hc j d' hd;exact h1 j c' hcj
   ·obtain⟨c',hcj⟩:=hc j d' hd;rcases l2 j c' d' hcj hd with rfl|k
    ·exact h2 j c' hcj
    ·exact ih j c' hcj k
  |pt m y=>
   cases c with
   |st n x=>
    have hb':(match mD n m x with|some x=>some x=y|none=>False):=hb;split at hb'
    ·rename_i x' hx;obtain⟨e,e2⟩:=kx hx;subst e;simp only at e2;subst e2;subst hb';exact .ptSome _ _ _ (.cptr _ b' off vals h1 h2)
    ·exact hb'.elim
   |_=>exact hb.elim
  |undef=>exact .undef _
  |_=>exact hb.elim
 |agg cs vs hl hv ih=>
  intro b hb
  cases b with
  |agg ds=>obtain⟨l1,l2⟩:=mS (cs:=cs) (ds:=ds) hb;exact .agg ds vs (by rw[<-l1,hl]) (part l1 ih l2)
  |st m y=>obtain⟨l1,l2⟩:=kF (cs:=cs) (ds:=cells (.st m) y) hb;exact .st m y _ (.agg _ vs (by rw[<-l1,hl]) (part l1 ih (fun j c d h1 h2=>p7 (l2 j c d h1 h2))))
  |undef=>exact .undef _
  |_=>exact hb.elim
 |tup cs vs hl hv ih=>
  intro b hb
  cases b with
  |tup ds=>obtain⟨l1,l2⟩:=mS (cs:=cs) (ds:=ds) hb;exact .tup ds vs (by rw[<-l1,hl]) (part l1 ih l2)
  |undef=>exact .undef _
  |_=>exact hb.elim
 |fn f cs vs hl hv ih=>
  intro b hb
  cases b with
  |fn g ds=>
   simp only[LeV]at hb;obtain⟨h0,hb⟩:=hb
   have hfg:f=g:=by
    rcases IY (f=g)with k|k
    ·exact k
    ·rw[Hh k]at h0;exact h0.elim
   subst hfg;obtain⟨l1,l2⟩:=mS hb;exact .fn f ds vs (by rw[<-l1,hl]) (part l1 ih l2)
  |undef=>exact .undef _
  |_=>exact hb.elim
theorem CR{G:List Nat}{s:St}:∀{l:List (Nat×AV)},LeT G s l->∀i,cm l i=.undef∨LeV G (cm s.t i) (cm l i)
 |[],_,i=>Or.inl rfl
 |(j,v)::r,h,i=>by
  simp only[LeT]at h;simp only[cm];by_cases hj:j=i
  ·subst hj;simp[h.1]
  ·simp only[I3,hj,HW];exact CR h.2 i
theorem tL{G:List Nat}{s:St}:∀{l:List (Nat×SObj)},LeB G s l->∀i o,aD l i=some o->
  (∃c d,o=.box d/\aD s.b i=some (.box c)/\uO c d/\LeV G c d)∨
  (∃τ n,o=.tail τ n/\(aD s.b i=some (.tail τ n)∨(aD s.b i=none/\n=0)))∨
  (∃t u l,o=.bld t u l/\aD s.b i=some (.bld t u l))
 |[],_,i,o,ho=>by simp[aD]at ho
 |(j,.box d)::r,h,i,o,ho=>by
  simp only[LeB]at h;simp only[aD]at ho;by_cases hj:j=i
  ·subst hj;simp at ho;subst ho;have h1:=h.1;split at h1
   ·rename_i c hc;exact Or.inl ⟨c,d,rfl,hc,h1⟩
   ·exact h1.elim
  ·simp only[I3,hj,HW]at ho;exact tL h.2 i o ho
 |(j,.bld t u l)::r,h,i,o,ho=>by
  simp only[LeB]at h;simp only[aD]at ho;by_cases hj:j=i
  ·subst hj;simp at ho;subst ho;have h1:=h.1;split at h1
   ·rename_i t' u' l' hm;split at h1
    ·rename_i e;obtain⟨rfl,rfl⟩:=e;subst h1;exact Or.inr (Or.inr ⟨_,_,_,rfl,hm⟩)
    ·exact h1.elim
   ·exact h1.elim
  ·simp only[I3,hj,HW]at ho;exact tL h.2 i o ho
 |(j,.tail τ n)::r,h,i,o,ho=>by
  simp only[LeB]at h;simp only[aD]at ho;by_cases hj:j=i
  ·subst hj;simp at ho;subst ho;have h1:=h.1;split at h1
   ·rename_i σ m hm;split at h1
    ·rename_i e;subst e;subst h1;exact Or.inr (Or.inl ⟨_,_,rfl,Or.inl hm⟩)
    ·exact h1.elim
   ·rename_i hm;exact Or.inr (Or.inl ⟨τ,n,rfl,Or.inr ⟨hm,h1⟩⟩)
   ·exact h1.elim
  ·simp only[I3,hj,HW]at ho;exact tL h.2 i o ho
theorem Holds.begin{F:Fr}{s:AS}{a:Act}{Ω:Om}(h:Holds F s a Ω)(G:List Nat)(hG:∀k∈G,s.B k=none)(ty:Nat->Ty) :
  ∃Ω',Ω'.w=Ω.w/\Holds F ⟨s.T,fun i=>if i∈G then some (.tail (ty i) 0)else s.B i⟩ a Ω'/\∀k∈G,Ω'.e k=some (.tail 0 none 0):=by
 have hx:Ext Ω ⟨fun i=>if i∈G then some (.tail 0 none 0)else Ω.e i,Ω.w,Ω.pub⟩:=by
  refine⟨fun id c hc=>⟨c,?_,CLe.refl c⟩,fun _ _ p=>p,fun _ _ _=>rfl⟩;have:id∉G:=fun hm=>by rw[h.dom id (hG id hm)]at hc;cases hc
  simp[this,hc]
 refine⟨⟨fun i=>if i∈G then some (.tail 0 none 0)else Ω.e i,Ω.w,Ω.pub⟩,rfl,⟨fun i=>(h.tmps i).ext hx,h.size,h.defers,fun id o ho=>?_,fun id hid=>?_,fun i j ci cj b o hi hj hbi hbj=>?_,h.pubok,fun id c hc=>let ⟨c1,h1,l1⟩:=h.keep id c hc;let ⟨c2,h2,l2⟩:=hx.e id c1 h1;⟨c2,h2,l1.trans l2⟩,?_⟩,fun k hk=>by simp[hk]⟩
 ·by_cases hm:id∈G
  ·simp only[Hj hm,Xs]at ho;subst ho;exact⟨none,0,by simp[hm],Hu _,by unfold cn;omega,fun _=>rfl,fun b hb=>by simp at hb⟩
  ·simp only[Hh hm]at ho;exact(h.slots id o ho).keep hx (by simp[hm]) (fun _ _=>oJ.of_blocks fun _ _ _=>⟨rfl,fun _ p=>p⟩)
 ·by_cases hm:id∈G
  ·simp[hm]at hid
  ·simp only[Hh hm]at hid⊢;exact h.dom id hid
 ·by_cases hi':i∈G
  ·simp only[Hj hi',Xs]at hi;subst hi;cases hbi
  ·by_cases hj':j∈G
   ·simp only[Hj hj',Xs]at hj;subst hj;cases hbj
   ·simp only[Hh hi']at hi;simp only[Hh hj']at hj;exact h.inj i j ci cj b o hi hj hbi hbj
 ·exact⟨h.frame.os,h.frame.tape,h.frame.output,h.frame.size,h.frame.block,h.frame.cell,h.frame.kind,h.frame.pub,h.frame.old,h.frame.pcell⟩
theorem dx{b:Bool}{k:Prop}(h:chk b k):b=true/\k:=by
 cases b with|true=>exact⟨rfl,h⟩|false=>exact h.elim
theorem zQ{G:List Nat}{a b:AV}{k:Prop}(h:cF G a b k):LeF G a b/\k:=by
 unfold cF at h;split at h
 ·exact⟨by cases a<;>trivial,h⟩
 ·obtain⟨h1,h2,h3⟩:=dx h;simp only[Hq]at h1;exact⟨by simp only[LeF,h1,Ia];exact h2,h3⟩
 ·exact h
 ·exact h
 ·split at h
  ·rename_i hc;obtain⟨h1,h2,h3⟩:=dx h;simp only[Hq]at h1;exact⟨by simp only[LeF,hc];exact⟨h2,by rw[Hj h1];trivial⟩,h3⟩
  ·exact h.elim
 ·split at h
  ·exact⟨by simp only[LeF];exact⟨trivial,h.1⟩,h.2⟩
  ·obtain⟨h1,h2,h3⟩:=dx h;exact⟨by simp only[LeF,h1,Ia];exact⟨trivial,h2⟩,h3⟩
 ·exact⟨trivial,h⟩
 ·exact⟨trivial,h⟩
 ·obtain⟨h1,h2⟩:=dx h;simp only[Hq]at h1;exact⟨by simp only[LeF];rw[Hj h1];trivial,h2⟩
 ·split at h
  ·rename_i hc;exact⟨by simp only[LeF,hc];exact h.1,h.2⟩
  ·exact h.elim
 ·split at h
  ·rename_i hc;exact⟨by simp only[LeF,hc];exact h.1,h.2⟩
  ·exact h.elim
 ·obtain⟨h1,h2,h3⟩:=dx h;simp only[Hq]at h1;exact⟨by simp only[LeF];rw[Hj h1];exact h2,h3⟩
 ·obtain⟨h1,h2,h3⟩:=dx h;simp only[Hq]at h1;exact⟨by simp only[LeF];rw[Hj h1];exact h2,h3⟩
 ·obtain⟨h1,h2⟩:=dx h;simp only[Hq]at h1;exact⟨by simp only[LeF];rw[Hj h1];trivial,h2⟩
 ·split at h
  ·rename_i hc;exact⟨by simp only[LeF,hc];exact h.1,h.2⟩
  ·exact h.elim
 ·exact⟨by simp only[LeF];exact h.1,h.2⟩
 ·exact⟨trivial,h⟩
 ·exact h.elim
theorem pX{G:List Nat}{k:Prop}:∀{cs ds:List AV},cFs G cs ds k->uN G cs ds/\k
 |[],[],h=>⟨trivial,h⟩
 |a::r,b::s,h=>let ⟨h1,h2⟩:=zQ (k:=cFs G r s k) h;let ⟨h3,h4⟩:=pX h2;⟨⟨h1,h3⟩,h4⟩
 |[],_::_,h=>h.elim
 |_::_,[],h=>h.elim
theorem om{c d:AV}(h:tn c d=true):uO c d:=by
 cases c<;>cases d<;>first|trivial|(simp[tn]at h)
mutual
theorem cV_spec{G:List Nat}:∀{a b:AV} {k:Prop},cV G a b k->LeV G a b/\k:=by
 intro a b k h;unfold cV at h;split at h
 ·rename_i c d;obtain⟨h1,h2⟩:=dx h;obtain⟨h3,h4⟩:=cV_spec (a:=c) (b:=d) h2;exact⟨by simp only[LeV];exact⟨om h1,h3⟩,h4⟩
 ·split at h
  ·rename_i hc;exact⟨by simp only[LeV,hc];exact h.1,h.2⟩
  ·exact h.elim
 ·rename_i t a u b;obtain⟨h1,h2⟩:=dx h;obtain⟨h3,h4⟩:=cV_spec (a:=a) (b:=b) h2;exact⟨by simp only[LeV];exact⟨by rw[Hj (HF h1)];trivial,h3⟩,h4⟩
 ·obtain⟨h1,h2⟩:=pX h;exact⟨by simp only[LeV];exact h1,h2⟩
 ·obtain⟨h1,h2⟩:=pX h;exact⟨by simp only[LeV];exact h1,h2⟩
 ·rename_i cs ds;obtain⟨h1,h2⟩:=cL_spec (cs:=cs) (ds:=ds) h;exact⟨by simp only[LeV];exact h1,h2⟩
 ·rename_i cs ds;obtain⟨h1,h2⟩:=cL_spec (cs:=cs) (ds:=ds) h;exact⟨by simp only[LeV];exact h1,h2⟩
 ·rename_i f cs g ds;obtain⟨h0,h⟩:=dx h;obtain⟨h1,h2⟩:=cL_spec (cs:=cs) (ds:=ds) h;exact⟨by simp only[LeV];exact⟨by rw[Hj (HF h0)];trivial,h1⟩,h2⟩
 ·obtain⟨h1,h2⟩:=zQ h;exact⟨p7 h1,h2⟩
theorem cL_spec{G:List Nat}:∀{cs ds:List AV} {k:Prop},cL G cs ds k->LeL G cs ds/\k
 |[],[],k,h=>by simp only[cL]at h;exact⟨by simp only[LeL],h⟩
 |a::r,b::s,k,h=>by simp only[cL]at h;obtain⟨h1,h2⟩:=cV_spec (a:=a) (b:=b) h;obtain⟨h3,h4⟩:=cL_spec (cs:=r) (ds:=s) h2;exact⟨by simp only[LeL];exact⟨h1,h3⟩,h4⟩
 |[],_::_,k,h=>by simp only[cL]at h
 |_::_,[],k,h=>by simp only[cL]at h
end
theorem zR{G:List Nat}{s:St}:∀{l:List (Nat×AV)} {k:Prop},cT G s l k->LeT G s l/\k
 |[],k,h=>⟨trivial,h⟩
 |(i,a)::r,k,h=>let ⟨h1,h2⟩:=cV_spec (k:=cT G s r k) h;let ⟨h3,h4⟩:=zR h2;⟨⟨h1,h3⟩,h4⟩
theorem mT{G:List Nat}{s:St}:∀{l:List (Nat×SObj)},cB G s l->LeB G s l
 |[],_=>trivial
 |(i,.box d)::r,h=>by
  simp only[cB]at h;simp only[LeB];split at h
  ·rename_i c hc;obtain⟨h1,h2⟩:=dx h;obtain⟨h3,h4⟩:=cV_spec h2;exact⟨⟨om h1,h3⟩,mT h4⟩
  ·exact h.elim
 |(i,.tail τ n)::r,h=>by
  simp only[cB]at h;simp only[LeB];split at h
  ·rename_i σ m hc;obtain⟨h1,h2,h3⟩:=dx h;simp only[Hq]at h1;exact⟨by rw[Hj h1];exact h2,mT h3⟩
  ·exact⟨h.1,mT h.2⟩
  ·exact h.elim
 |(i,.bld t u l)::r,h=>by
  simp only[cB]at h;simp only[LeB];split at h
  ·rename_i t' u' l' hc;obtain⟨h1,h2,h3⟩:=dx h;simp only[Hq]at h1;exact⟨by rw[Hj h1];exact h2,mT h3⟩
  ·exact h.elim
theorem gK{s s':St}(h:cS s s'):LeS s s':=by unfold cS at h;obtain⟨h1,h2⟩:=dx h;obtain⟨h3,h4⟩:=zR h2;exact⟨by rw[Hj h1];trivial,h3,mT h4⟩
def F1:Option SObj->Ty
 |some (.tail τ _)=>τ
 |_=>.bool
theorem eF{F:Fr}{s s':St}{a:Act}{Ω:Om}(h:Holds F s.abs a Ω)(hle:LeS s s'):∃Ω',Ω'.w=Ω.w/\Holds F s'.abs a Ω':=by
 obtain⟨h0,h1,h2⟩:=hle
 have hn2:(eE ((aq s.b).filter fun i=>!(aq s'.b).contains i) s'&&((aq s.b).filter fun i=>!(aq s'.b).contains i).all (fun i=>!cN i))=true:=by
  rcases IY ((eE ((aq s.b).filter fun i=>!(aq s'.b).contains i) s'&&((aq s.b).filter fun i=>!(aq s'.b).contains i).all (fun i=>!cN i))=true)with k|k
  ·exact k
  ·rw[Hh k]at h0;exact h0.elim
 obtain⟨hn,hnl⟩:=Bool.and_eq_true_iff.1 hn2;have hGs:∀k,k∈fx s s'↔(k∈aq s'.b/\aD s.b k=none):=by intro k;simp[fx]
 obtain⟨Ω1,e1,h1',hg⟩:=h.begin (fx s s') (fun k hk=>((hGs k).1 hk).2) (fun i=>F1 (aD s'.b i))
 have hmid:Holds F ⟨s'.abs.T,fun i=>match aD s'.b i with|some o=>some o|none=>if i∈fx s s' then some (.tail (F1 (aD s'.b i)) 0)else s.abs.B i⟩ a Ω1:=by
  refine⟨fun i=>?_,h1'.size,h1'.defers,fun id o ho=>?_,fun id hid=>?_,h1'.inj,h1'.pubok,h1'.keep,h1'.frame⟩
  ·rcases CR h1 i with k|k
   ·have:s'.abs.T i=.undef:=k;rw[this];exact .undef _
   ·exact(h1'.tmps i).le hg k
  ·simp only at ho
   cases hb:aD s'.b id with
   |none=>rw[hb]at ho;simp only at ho;refine h1'.slots id o ?_;simp only[hb];exact ho
   |some o'=>
    rw[hb]at ho;simp at ho;subst ho;rcases tL h2 id o' hb with⟨c,d,rfl,hcs,hl0,hl⟩|⟨τ,n,rfl,hcs⟩|⟨t,u,l,rfl,hcs⟩
    ·have hng:id∉fx s s':=fun hm=>by rw[((hGs id).1 hm).2]at hcs;cases hcs
     obtain⟨b,off,k1,k2⟩:=h1'.slots id (.box c) (by simp only[Hh hng];exact hcs);obtain⟨l1,l2⟩:=vo hl0 hl;refine⟨b,off,by rw[<-l1];exact k1,fun j d' hd=>?_⟩
     have hj:j<(aa c).length:=by
      rw[l1];rcases Hw j (aa d).length with k|k
      ·exact k
      ·rw[Hn k]at hd;cases hd
     obtain⟨m1,m2,m3,v,m4,m5⟩:=k2 j _ (Hi hj);refine⟨m1,m2,m3,v,m4,?_⟩;rcases l2 j _ d' (Hi hj) hd with e|k
     ·rw[<-e];exact m5
     ·exact m5.le hg k
    ·rcases hcs with hcs|⟨hcs,rfl⟩
     ·have hng:id∉fx s s':=fun hm=>by rw[((hGs id).1 hm).2]at hcs;cases hcs
      exact h1'.slots id (.tail τ n) (by simp only[Hh hng];exact hcs)
     ·have hin:id∈fx s s':=(hGs id).2 ⟨I7.2 ⟨(id,.tail τ 0),dE _ _ _ hb,rfl⟩,hcs⟩;have:=h1'.slots id (.tail τ 0) (by simp only[Hj hin,hb,F1]);exact this
    ·have hng:id∉fx s s':=fun hm=>by rw[((hGs id).1 hm).2]at hcs;cases hcs
     exact h1'.slots id (.bld t u l) (by simp only[Hh hng];exact hcs)
  ·refine h1'.dom id ?_;simp only at hid⊢
   cases hb:aD s'.b id with|none=>rw[hb]at hid;simpa[hb]using hid|some o'=>rw[hb]at hid;simp at hid
 have f1:∀i,i∈((aq s.b).filter fun i=>!(aq s'.b).contains i)->s'.abs.B i=none:=by
  intro i hi;simp at hi
  cases hb:aD s'.b i with|none=>exact hb|some o=>exact absurd (I7.2 ⟨(i,o),dE _ _ _ hb,rfl⟩) hi.2
 have f2:∀i,i∉((aq s.b).filter fun i=>!(aq s'.b).contains i)->
   s'.abs.B i=(match aD s'.b i with|some o=>some o|none=>if i∈fx s s' then some (.tail (F1 (aD s'.b i)) 0)else s.abs.B i):=by
  intro i hi;simp only[St.abs]
  cases hb:aD s'.b i with
  |some o=>rfl
  |none=>
   have hk:i∉aq s'.b:=l9 _ _ hb;have hng:i∉fx s s':=fun hm=>hk ((hGs i).1 hm).1;simp only[Hh hng]
   cases hsb:aD s.b i with|none=>rfl|some o=>exfalso;apply hi;simp only[Iy,HB,Il,HI];exact⟨I7.2 ⟨(i,o),dE _ _ _ hsb,rfl⟩,hk⟩
 obtain⟨Ω2,e2,h2'⟩:=hmid.forget (s':=s') (fun i=>Or.inr rfl) f1 f2 hn (fun i hi=>by
  have:=HE.1 hnl i hi;simpa using this)
 exact⟨Ω2,e2.trans e1,h2'⟩
end Go.AL
end
section
namespace Go.AL
variable [Tabs]
section
variable {id:Nat} {c:AV}
theorem nM:∀(l:List AV)(j:Nat),(pubVs id c l)[j]?=(l[j]?).map (pubV id c)
 |[],j=>by simp[pubVs]
 |a::r,0=>by simp[pubVs]
 |a::r,j+1=>by simp only[pubVs,Jn];exact nM r j
theorem jP:∀l:List AV,(pubVs id c l).length=l.length
 |[]=>rfl
 |a::r=>by simp[pubVs,jP r]
theorem pY(τ:Ty)(x:den τ):∀d∈cells τ x,pubV id c d=d:=by
 cases τ with
 |st n=>cases n<;>simp[cells,dL,gQ,fe,fL,fM,fN,dv,fO,ja,gS,gU,gV,jb,jc,ie,gW,kV,fP,jd,kW,je,jf,gX,pubV]
 |_=>simp[cells,pubV]
theorem AJ(τ:Ty)(xs:List (den τ)):∀d∈bp τ xs,pubV id c d=d:=by intro d hd;simp only[bp,Iw]at hd;obtain⟨x,_,hx⟩:=hd;exact pY τ x d hx
theorem pZ(d:AV):(aa (pubV id c d)).length=(aa d).length/\∀(j:Nat)(a:AV),(aa d)[j]?=some a->(aa (pubV id c d))[j]?=some (pubV id c a):=by
 have one:∀{d:AV},aa d=[d]->aa (pubV id c d)=[pubV id c d]->(aa (pubV id c d)).length=(aa d).length/\
   ∀(j:Nat)(a:AV),(aa d)[j]?=some a->(aa (pubV id c d))[j]?=some (pubV id c a):=by
  intro d h1 h2;rw[h1,h2];refine⟨rfl,fun j a ha=>?_⟩
  cases j with|zero=>simp at ha;subst ha;rfl|succ j=>simp at ha
 cases d with
 |agg cs=>exact⟨jP cs,fun j a ha=>by show(pubVs id c cs)[j]?=_;rw[nM];have:cs[j]?=some a:=ha;rw[this];rfl⟩
 |st n x=>exact⟨rfl,fun j a ha=>by show(cells (.st n) x)[j]?=_;rw[pY (.st n) x a (HO ha)];exact ha⟩
 |row τ xs=>exact⟨rfl,fun j a ha=>by show(bp τ xs)[j]?=_;rw[AJ τ xs a (HO ha)];exact ha⟩
 |ptr i o=>
  refine one rfl ?_
  cases o with|zero=>simp only[pubV];split<;>rfl|succ o=>rfl
 |arr i n w=>
  refine one rfl ?_;simp only[pubV];split
  ·split
   ·split<;>rfl
   ·rfl
  ·rfl
 |_=>exact one rfl rfl
structure Fast(Ω:Om)(id:Nat)(c:AV)(b off:Nat)(vals:Nat->Value):Prop where
 e:Ω.e id=some (.box b off (aa c).length)
 at_:∀(j:Nat)(c':AV),(aa c)[j]?=some c'->Ω.pub b (off+j)/\Ω.w.cell? ⟨b,off+j,none⟩=some (vals j)/\V Ω c' (vals j)
theorem V.pubV{Ω:Om}{b off:Nat}{vals:Nat->Value}(hf:Fast Ω id c b off vals){a:AV}{v:Value}(h:V Ω a v):V Ω (AL.pubV id c a) v:=by
 have many:∀{cs:List AV} {vs:List Value},cs.length=vs.length->(∀(j:Nat)(d:AV)(v:Value),cs[j]?=some d->vs[j]?=some v->V Ω (AL.pubV id c d) v)->
   (pubVs id c cs).length=vs.length/\∀(j:Nat)(d:AV)(v:Value),(pubVs id c cs)[j]?=some d->vs[j]?=some v->V Ω d v:=by
  intro cs vs hl ih;refine⟨by rw[jP,hl],fun j d v hd hv=>?_⟩;rw[nM]at hd;simp only[HA]at hd;obtain⟨d0,hd0,rfl⟩:=hd;exact ih j d0 v hd0 hv
 induction h with
 |ptr i o b' p len he=>
  cases o with
  |succ o=>exact .ptr i (o+1) b' p len he
  |zero=>
   simp only[AL.pubV];split
   ·rename_i hi;subst hi;rw[hf.e]at he;simp at he;obtain⟨rfl,rfl,rfl⟩:=he;exact .cptr c b off vals (fun j c' hc=>⟨(hf.at_ j c' hc).1,(hf.at_ j c' hc).2.1⟩) (fun j c' hc=>(hf.at_ j c' hc).2.2)
   ·exact .ptr i 0 b' p len he
 |arr i n w b' len cap a he h1 h2 h3 h4=>
  simp only[AL.pubV];split
  ·rename_i hi;split
   ·rename_i τ xs;split
    ·rename_i hw;subst hi hw;have hfe:=hf.e;rw[hfe]at he;simp only[Xs,CObj.box.injEq]at he;obtain⟨rfl,rfl,rfl⟩:=he;have hn:n<=xs.length:=by have:(aa (.row τ xs)).length=xs.length *ad τ:=bT τ xs;rw[this]at h1;exact Nat.le_of_mul_le_mul_right h1 (jh τ)
     rcases h4 with rfl|⟨rfl,rfl,rfl⟩
     ·have hl:(xs.take n).length=n:=by simp;omega
      have hx':∀{i:Nat} {x:den τ},(xs.take n)[i]?=some x->xs[i]?=some x:=by
       intro i x hx;rw[HL]at hx;split at hx
       ·exact hx
       ·cases hx
      have:=V.lst (Ω:=Ω) τ (xs.take n) none b 0 cap (fun i j=>vals (i *ad τ+j)) (by omega) h3 (fun id hid=>by simp at hid) (fun i x hx j c' hc=>by
       have:=hf.at_ _ c' (il τ xs i x j c' (hx' hx) hc);exact⟨this.1,this.2.1⟩) (fun i x hx j c' hc=>(hf.at_ _ c' (il τ xs i x j c' (hx' hx) hc)).2.2)
      rw[hl]at this;exact this
     ·simp only[List.take_zero];exact .lstNil τ none (fun id hid=>by simp at hid)
    ·exact .arr i n w b' len cap a he h1 h2 h3 h4
   ·exact .arr i n w b' len cap a he h1 h2 h3 h4
  ·exact .arr i n w b' len cap a he h1 h2 h3 h4
 |cptr d b' o vs h1 h2 ih=>
  obtain⟨p1,p2⟩:=pZ (id:=id) (c:=c) d
  have back:∀(j:Nat)(d':AV),(aa (AL.pubV id c d))[j]?=some d'->∃d0,(aa d)[j]?=some d0/\d'=AL.pubV id c d0:=by
   intro j d' hd'
   have hj:j<(aa d).length:=by
    rw[<-p1];rcases Hw j (aa (AL.pubV id c d)).length with k|k
    ·exact k
    ·rw[Hn k]at hd';cases hd'
   have:=p2 j _ (Hi hj);rw[hd']at this;exact⟨_,Hi hj,Iz this⟩
  refine .cptr _ b' o vs (fun j d' hd'=>?_) (fun j d' hd'=>?_)
  ·obtain⟨d0,q1,_⟩:=back j d' hd';exact h1 j d0 q1
  ·obtain⟨d0,q1,rfl⟩:=back j d' hd';exact ih j d0 q1
 |agg cs vs hl _ ih=>obtain⟨q1,q2⟩:=many hl ih;exact .agg _ vs q1 q2
 |tup cs vs hl _ ih=>obtain⟨q1,q2⟩:=many hl ih;exact .tup _ vs q1 q2
 |fn f cs vs hl _ ih=>obtain⟨q1,q2⟩:=many hl ih;exact .fn f _ vs q1 q2
 |iface t a v _ ih=>exact .iface t _ v ih
 |undef v=>exact .undef v
 |int k n h1 h2=>exact .int k n h1 h2
 |bool b=>exact .bool b
 |str s h=>exact .str s h
 |lstNil τ o ht=>exact .lstNil τ o ht
 |lstVoid τ a=>exact .lstVoid τ a
 |lst τ xs o b' off' cap vals' h1 h2 h3 h4 h5 _=>exact .lst τ xs o b' off' cap vals' h1 h2 h3 h4 h5
 |nils=>exact .nils
 |nilp=>exact .nilp
 |ptNone n=>exact .ptNone n
 |ptSome n x v hv _=>exact .ptSome n x v hv
 |aptr i n w o b' p len he=>exact .aptr i n w o b' p len he
 |bptr i b g he=>exact .bptr i b g he
 |nilif=>exact .nilif
 |lstp τ xs k b' off' cap vals' h1 h2 h3 h4 h5 _=>exact .lstp τ xs k b' off' cap vals' h1 h2 h3 h4 h5
 |tptr τ n k p hp=>exact .tptr τ n k p hp
 |st n x v hv _=>exact .st n x v hv
end
theorem mU(f:AV->AV)(hf:f .undef=.undef):∀(l:List (Nat×AV))(i:Nat),cm (l.map fun x=>(x.1,f x.2)) i=f (cm l i)
 |[],i=>hf.symm
 |(j,v)::r,i=>by simp only[HN,cm,mU f hf r i];by_cases h:j=i<;>simp[h]
theorem kG(f:SObj->SObj):∀(l:List (Nat×SObj))(i:Nat),aD (l.map fun x=>(x.1,f x.2)) i=(aD l i).map f
 |[],i=>rfl
 |(j,v)::r,i=>by simp only[HN,aD,kG f r i];by_cases h:j=i<;>simp[h]
theorem y7{F:Fr}{s s':St}{a:Act}{Ω:Om}{id:Nat}(h:Holds F s.abs a Ω)(hp:Gd id s=some s'):∃Ω',Ω'.w=Ω.w/\Holds F s'.abs a Ω':=by
 unfold Gd at hp;split at hp
 ·rename_i c hb;simp only at hp;split at hp
  ·rename_i hck;simp only[Hk,HB]at hck;obtain⟨⟨hnn,hcid⟩,hnl⟩:=hck;simp only[Xs]at hp;subst hp;simp only[eE,Hk,HE]at hnn;obtain⟨b,off,e1,e2⟩:=h.slots id _ hb
   let Ω1:Om:=⟨Ω.e,Ω.w,fun b' o=>Ω.pub b' o∨(b'=b/\off<=o/\o<off+(aa c).length)⟩
   have hx1:Ext Ω Ω1:=⟨fun i c hc=>⟨c,hc,CLe.refl c⟩,fun _ _ p=>Or.inl p,fun _ _ _=>rfl⟩
   have hfast:Fast Ω1 id c b off (fun j=>(Ω.w.cell? ⟨b,off+j,none⟩).getD undef):=by
    refine⟨e1,fun j c' hc=>?_⟩;obtain⟨k1,k2,k3,v,k4,k5⟩:=e2 j c' hc
    have hj:j<(aa c).length:=by
     rcases Hw j (aa c).length with k|k
     ·exact k
     ·rw[Hn k]at hc;cases hc
    refine⟨Or.inr ⟨rfl,by omega,by omega⟩,?_,?_⟩
    ·show Ω.w.cell? _=_;rw[k4];rfl
    ·simp only[k4,Ic];exact k5.ext hx1
   have hag:∀{x:AV} {v:Value},V Ω1 x v->(∀i∈ids x,i≠id)->V ⟨fun i=>if i=id then none else Ω.e i,Ω1.w,Ω1.pub⟩ x v:=
    fun hv hi=>V.agree hv (fun i him=>by simp[hi i him,Ω1])
   have hin:∀b' o,(b'=b/\off<=o/\o<off+(aa c).length)->occ (.box b off (aa c).length) b' o:=fun b' o k=>k;refine⟨⟨fun i=>if i=id then none else Ω.e i,Ω.w,Ω1.pub⟩,rfl,⟨fun i=>?_,h.size,h.defers,fun id' o ho=>?_,fun id' hid=>?_,fun i j ci cj b' o hi hj=>?_,fun b' o hp=>?_,fun i x hx=>?_,?_⟩⟩
   ·simp only[St.abs];have e:=mU (pubV id c) rfl s.t i;rw[e];refine hag (V.pubV hfast ((h.tmps i).ext hx1)) (fun k hk=>?_);rcases mR s.t i with hu|hm
    ·rw[hu]at hk;simp[pubV,ids]at hk
    ·have:=hX (hnn.1 (i,pubV id c (cm s.t i)) (I7.2 ⟨_,hm,rfl⟩)) k hk;simpa using this
   ·simp only[St.abs]at ho;have e:=kG (Cx id c) (s.b.filter fun x=>!(x.1 ==id)) id';rw[e]at ho;have e':=iQ s.b (fun i=>!(i ==id)) id';rw[e']at ho;by_cases hid:id'=id
    ·subst hid;simp at ho
    ·simp only[I3,hid,IV,Ia,HA]at ho;rw[Hj (by simp[hid])]at ho;obtain⟨o0,ho0,rfl⟩:=ho;have hs:=h.slots id' o0 ho0;have apart:∀c0,Ω.e id'=some c0->∀b' o,occ c0 b' o->¬(b'=b/\off<=o/\o<off+(aa c).length):=by intro c0 hc0 b' o hoc hk;exact hid (h.inj id' id c0 _ b' o hc0 e1 hoc (hin b' o hk))
     cases o0 with
     |box d=>
      obtain⟨b2,off2,g1,g2⟩:=hs;obtain⟨p1,p2⟩:=pZ (id:=id) (c:=c) d;refine⟨b2,off2,by simp only[Hh hid];rw[g1,p1],fun j d' hd'=>?_⟩
      have hj:j<(aa d).length:=by
       rw[<-p1];rcases Hw j (aa (pubV id c d)).length with k|k
       ·exact k
       ·rw[Hn k]at hd';cases hd'
      have hd2:=p2 j _ (Hi hj);rw[hd']at hd2;obtain⟨m1,m2,m3,v,m4,m5⟩:=g2 j _ (Hi hj);refine⟨m1,fun hp=>?_,m3,v,m4,?_⟩
      ·rcases hp with hp|hp
       ·exact m2 hp
       ·exact apart _ g1 b2 (off2+j) ⟨rfl,by omega,by omega⟩ hp
      ·rw[Iz hd2];refine hag (V.pubV hfast (m5.ext hx1)) (fun k hk=>?_)
       have hmem:(id',Cx id c (.box d))∈((s.b.filter fun x=>!(x.1 ==id)).map fun x=>(x.1,Cx id c x.2)):=
        I7.2 ⟨(id',.box d),Iy.2 ⟨dE _ _ _ ho0,by simp[hid]⟩,rfl⟩
       have:=hX (hnn.2 _ hmem) k (nL (c:=pubV id c d) (by rw[<-Iz hd2];exact hd') k hk);simpa using this
     |tail τ n=>
      obtain⟨base,cap,g1,g2,g3,g4,g5⟩:=hs;refine⟨base,cap,by simp only[Hh hid];exact g1,g2,g3,g4,fun b2 hb2=>?_⟩;obtain⟨m1,vs,ty,fz,m2,m3,m4,m5⟩:=g5 b2 hb2;refine⟨m1,vs,ty,fz,m2,m3,m4,fun o ho hp=>?_⟩;rcases hp with hp|hp
      ·exact m5 o ho hp
      ·exact apart _ g1 b2 o hb2 hp
     |bld t u l=>
      obtain⟨b2,g,g1,g2,g3⟩:=hs;refine⟨b2,g,by simp only[Hh hid];exact g1,fun b3 hb3 o=>⟨(g2 b3 hb3 o).1,fun hp=>?_⟩,g3⟩;rcases hp with hp|hp
      ·exact(g2 b3 hb3 o).2 hp
      ·exact apart _ g1 b3 o hb3 hp
     |tailp τ n x=>
      obtain⟨b2,cap,g1,g2,g3,g4,g5,g6,g7⟩:=hs;refine⟨b2,cap,by simp only[Hh hid];exact g1,g2,g3,g4,g5,fun o ho hp=>?_,fun j c' hc=>?_⟩
      ·rcases hp with hp|hp
       ·exact g6 o ho hp
       ·exact apart _ g1 b2 o rfl hp
      ·obtain⟨v,k1,k2⟩:=g7 j c' hc;refine⟨v,k1,hag (k2.ext hx1) (fun i hi=>?_)⟩;have:=er hc i hi;rw[fS]at this;cases this
   ·simp only[St.abs]at hid;by_cases hii:id'=id
    ·simp[hii]
    ·have e:=kG (Cx id c) (s.b.filter fun x=>!(x.1 ==id)) id';rw[e]at hid;have e':=iQ s.b (fun i=>!(i ==id)) id';rw[e',Hj (by simp[hii])]at hid;simp only[Hh hii];exact h.dom id' (by show aD s.b id'=none;simpa using hid)
   ·intro h1 h2;simp only at hi hj;split at hi
    ·cases hi
    ·split at hj
     ·cases hj
     ·exact h.inj i j ci cj b' o hi hj h1 h2
   ·rcases hp with hp|⟨rfl,hp1,hp2⟩
    ·exact h.pubok b' o hp
    ·have hj:o-off<(aa c).length:=by omega
     obtain⟨_,_,_,v,hv,_⟩:=e2 (o-off) _ (Hi hj);exact⟨v,by rw[show off+(o-off)=o by omega]at hv;exact hv⟩
   ·have hl:=F.dom0 i x hx;have hne:i≠id:=fun e=>by subst e;rw[hnl]at hl;cases hl
    obtain⟨x',q1,q2⟩:=h.keep i x hx;exact⟨x',by simp only[Hh hne];exact q1,q2⟩
   ·refine⟨h.frame.os,h.frame.tape,h.frame.output,h.frame.size,h.frame.block,h.frame.cell,h.frame.kind,fun b' o hp=>?_,fun b' o hp=>Or.inl (h.frame.old b' o hp),h.frame.pcell⟩;rcases hp with hp|⟨rfl,hp1,hp2⟩
    ·exact h.frame.pub b' o hp
    ·have hj:o-off<(aa c).length:=by omega
     have:=(e2 (o-off) _ (Hi hj)).1;rw[show off+(o-off)=o by omega]at this;exact Or.inr this
  ·cases hp
 ·cases hp
theorem mV{F:Fr}{a:Act}:∀(l:List Nat) {s s':St} {Ω:Om},Holds F s.abs a Ω->pB l s=some s'->∃Ω',Ω'.w=Ω.w/\Holds F s'.abs a Ω'
 |[],s,s',Ω,h,hp=>by simp[pB]at hp;subst hp;exact⟨Ω,rfl,h⟩
 |i::r,s,s',Ω,h,hp=>by
  simp only[pB]at hp;split at hp
  ·rename_i s1 h1;obtain⟨Ω1,e1,k1⟩:=y7 h h1;obtain⟨Ω2,e2,k2⟩:=mV r k1 hp;exact⟨Ω2,e2.trans e1,k2⟩
  ·cases hp
end Go.AL
end
section
namespace Go.AL
variable [Tabs]
open Go.ChangeMaps (setBlock)
theorem Holds.weak{F:Fr}{s s':AS}{a:Act}{Ω:Om}(h:Holds F s a Ω)(hT:∀i,s'.T i=.undef∨s'.T i=s.T i)(hB:s'.B=s.B):Holds F s' a Ω:=
 ⟨fun i=>by
  rcases hT i with e|e
  ·rw[e];exact .undef _
  ·rw[e];exact h.tmps i,h.size,h.defers,by rw[hB];exact h.slots,by rw[hB];exact h.dom,h.inj,h.pubok,h.keep,h.frame⟩
section
variable {P:Program} {C:Cfg} {F:Fr}
theorem vp{ops:Array Oper}{Q:Exit->Act->World->Prop}{i:Nat}{rest:List Nat}{o:Oper}{a:Act}{w:World}(hi:ops[i]?=some o)(hg:o.guard=none)
 (h:o.wp P a w (wpOps P ops Q rest) Q):wpOps P ops Q (i::rest) a w:=by
 unfold wpOps;rw[hi];have:Region.wanted o (yielded ops a.tmps)=true:=by unfold Region.wanted;rw[hg]
 simp only[this,Ia];exact .inl h
theorem zS{a:Act}{n d i:Nat}{v:Value}(hs:a.tmps.size=n)(hd:d<n):(a.put (some d) v).tmps.getD i undef=if d=i then v else a.tmps.getD i undef:=by
 simp only[Act.put];by_cases h:d=i
 ·subst h;rw[Hj rfl];simp[Hx,hs,hd]
 ·rw[Hh h];simp[Hx,h]
end
end Go.AL
end
section
namespace Go.AL
variable [Tabs]
section
variable {k:Nat} {τ:Ty} {x:den τ}
theorem nN:∀(l:List AV)(j:Nat),(finVs k τ x l)[j]?=(l[j]?).map (finV k τ x)
 |[],j=>by simp[finVs]
 |a::r,0=>by simp[finVs]
 |a::r,j+1=>by simp only[finVs,Jn];exact nN r j
theorem jQ:∀l:List AV,(finVs k τ x l).length=l.length
 |[]=>rfl
 |a::r=>by simp[finVs,jQ r]
theorem q8(σ:Ty)(y:den σ):∀d∈cells σ y,finV k τ x d=d:=by
 cases σ with
 |st n=>cases n<;>simp[cells,dL,gQ,fe,fL,fM,fN,dv,fO,ja,gS,gU,gV,jb,jc,ie,gW,kV,fP,jd,kW,je,jf,gX,finV]
 |_=>simp[cells,finV]
theorem oq(σ:Ty)(y:den σ):∀d∈cells σ y,lensV k d=[]:=by
 cases σ with
 |st n=>cases n<;>simp[cells,dL,gQ,fe,fL,fM,fN,dv,fO,ja,gS,gU,gV,jb,jc,ie,gW,kV,fP,jd,kW,je,jf,gX,lensV]
 |_=>simp[cells,lensV]
theorem AK(σ:Ty)(ys:List (den σ)):∀d∈bp σ ys,finV k τ x d=d:=by intro d hd;simp only[bp,Iw]at hd;obtain⟨y,_,hy⟩:=hd;exact q8 σ y d hy
theorem y8(σ:Ty)(ys:List (den σ)):∀d∈bp σ ys,lensV k d=[]:=by intro d hd;simp only[bp,Iw]at hd;obtain⟨y,_,hy⟩:=hd;exact oq σ y d hy
theorem q9(d:AV):(aa (finV k τ x d)).length=(aa d).length/\∀(j:Nat)(a:AV),(aa d)[j]?=some a->(aa (finV k τ x d))[j]?=some (finV k τ x a):=by
 have one:∀{d:AV},aa d=[d]->aa (finV k τ x d)=[finV k τ x d]->(aa (finV k τ x d)).length=(aa d).length/\
   ∀(j:Nat)(a:AV),(aa d)[j]?=some a->(aa (finV k τ x d))[j]?=some (finV k τ x a):=by
  intro d h1 h2;rw[h1,h2];refine⟨rfl,fun j a ha=>?_⟩
  cases j with|zero=>simp at ha;subst ha;rfl|succ j=>simp at ha
 cases d with
 |agg cs=>exact⟨jQ cs,fun j a ha=>by show(finVs k τ x cs)[j]?=_;rw[nN];have:cs[j]?=some a:=ha;rw[this];rfl⟩
 |st n y=>exact⟨rfl,fun j a ha=>by show(cells (.st n) y)[j]?=_;rw[q8 (.st n) y a (HO ha)];exact ha⟩
 |row σ ys=>exact⟨rfl,fun j a ha=>by show(bp σ ys)[j]?=_;rw[AK σ ys a (HO ha)];exact ha⟩
 |lstp σ xs j=>
  refine one rfl ?_;simp only[finV];split
  ·split<;>rfl
  ·rfl
 |tptr σ n j=>refine one rfl ?_;simp only[finV];split<;>rfl
 |_=>exact one rfl rfl
theorem mc:∀{l:List AV} {j:Nat} {c:AV},l[j]?=some c->∀m∈lensV k c,m∈lensVs k l
 |a::r,0,c,h,m,hm=>by simp at h;subst h;simp[lensVs,hm]
 |a::r,j+1,c,h,m,hm=>by simp only[lensVs,HX];exact Or.inr (mc (by simpa using h) m hm)
theorem qa{d c:AV}{j:Nat}(h:(aa d)[j]?=some c):∀m∈lensV k c,m∈lensV k d:=by
 intro m hm
 cases d with
 |agg cs=>exact mc h m hm
 |st n y=>rw[oq (.st n) y c (HO h)]at hm;cases hm
 |row σ ys=>rw[y8 σ ys c (HO h)]at hm;cases hm
 |_=>
  cases j with|zero=>simp only[aa,IC,Xs]at h;subst h;exact hm|succ j=>simp[aa]at h
structure Told(Ω:Om)(k:Nat)(τ:Ty)(n:Nat)(x:den τ)(b cap:Nat)(vals:Nat->Value):Prop where
 e:Ω.e k=some (.tail (n+1) (some b) cap)
 c1:n+1<=cap
 c2:cap<=cn
 at_:∀(j:Nat)(c:AV),(cells τ x)[j]?=some c->Ω.pub b (n *ad τ+j)/\Ω.w.cell? ⟨b,n *ad τ+j,none⟩=some (vals j)/\V Ω c (vals j)
theorem V.finV{Ω:Om}{n b cap:Nat}{vals:Nat->Value}(ht:Told Ω k τ n x b cap vals){a:AV}{v:Value}(h:V Ω a v):(∀m∈lensV k a,m=n)->V Ω (AL.finV k τ x a) v:=by
 have many:∀{cs:List AV} {vs:List Value},cs.length=vs.length->(∀m∈lensVs k cs,m=n)->(∀(j:Nat)(d:AV)(v:Value),cs[j]?=some d->vs[j]?=some v->(∀m∈lensV k d,m=n)->V Ω (AL.finV k τ x d) v)->
   (finVs k τ x cs).length=vs.length/\∀(j:Nat)(d:AV)(v:Value),(finVs k τ x cs)[j]?=some d->vs[j]?=some v->V Ω d v:=by
  intro cs vs hl hm ih;refine⟨by rw[jQ,hl],fun j d v hd hv=>?_⟩;rw[nN]at hd;simp only[HA]at hd;obtain⟨d0,hd0,rfl⟩:=hd;exact ih j d0 v hd0 hv (fun m hmm=>hm m (mc hd0 m hmm))
 induction h with
 |lstp σ xs j b' off cap' vals' h1 h2 h3 h4 h5 _=>
  intro hm;simp only[AL.finV];split
  ·rename_i hjk;have hjk:=HF hjk;subst hjk;split
   ·rename_i l hl;obtain⟨e,hl⟩:=ji hl;subst e;simp only at hl;subst hl;have hlen:xs.length=n:=hm xs.length (by simp[lensV]);obtain⟨m,base,cap2,r1,r2,r3⟩:=h3 _ rfl;rw[ht.e]at r1;simp only[Xs,CObj.tail.injEq]at r1;obtain⟨rfl,rfl,rfl⟩:=r1;have r3:=r3 (by omega);simp only[eL,Ig,Xs,IN,Ii,Ij]at r3;obtain⟨⟨rfl,rfl⟩,rfl⟩:=r3;have hlx:(xs++[x]).length=xs.length+1:=by simp
    have hcase:∀(i:Nat)(y:den τ),(xs++[x])[i]?=some y->(i<xs.length/\xs[i]?=some y)∨(i=xs.length/\y=x):=by
     intro i y hy;by_cases hi:i<xs.length
     ·rw[Hr hi]at hy;exact Or.inl ⟨hi,hy⟩
     ·rw[Ht (by omega)]at hy
      have:i-xs.length=0:=by
       rcases Jk (i-xs.length)with q|q
       ·exact q
       ·rw[Hn (by simp;omega)]at hy;cases hy
      rw[this]at hy;simp at hy;exact Or.inr ⟨by omega,hy.symm⟩
    have:=V.lst (Ω:=Ω) τ (xs++[x]) (some j) b' 0 cap' (fun i q=>if i<xs.length then vals' i q else vals q) (by rw[hlx];exact h1) h2 (by
      rw[hlx];intro id hid;cases hid;exact⟨n+1,some b',cap',ht.e,by omega,fun e=>by simp[eL]⟩)
     (fun i y hy q c hc=>by
      rcases hcase i y hy with⟨hi,hy'⟩|⟨rfl,rfl⟩
      ·simp only[Hj hi];exact h4 i y hy' q c hc
      ·simp only[Nat.lt_irrefl,HW,II];have:=ht.at_ q c hc;rw[<-hlen]at this;exact⟨this.1,this.2.1⟩)
     (fun i y hy q c hc=>by
      rcases hcase i y hy with⟨hi,hy'⟩|⟨rfl,rfl⟩
      ·simp only[Hj hi];exact h5 i y hy' q c hc
      ·simp only[Nat.lt_irrefl,HW];exact(ht.at_ q c hc).2.2)
    rw[hlx]at this;exact this
   ·exact .undef _
  ·exact .lstp σ xs j b' off cap' vals' h1 h2 h3 h4 h5
 |tptr σ m j p hp=>
  intro _;simp only[AL.finV];split
  ·exact .undef _
  ·exact .tptr σ m j p hp
 |cptr d b' o vs h1 h2 ih=>
  intro hm;obtain⟨p1,p2⟩:=q9 (k:=k) (τ:=τ) (x:=x) d
  have back:∀(j:Nat)(d':AV),(aa (AL.finV k τ x d))[j]?=some d'->∃d0,(aa d)[j]?=some d0/\d'=AL.finV k τ x d0:=by
   intro j d' hd'
   have hj:j<(aa d).length:=by
    rw[<-p1];rcases Hw j (aa (AL.finV k τ x d)).length with q|q
    ·exact q
    ·rw[Hn q]at hd';cases hd'
   have:=p2 j _ (Hi hj);rw[hd']at this;exact⟨_,Hi hj,Iz this⟩
  refine .cptr _ b' o vs (fun j d' hd'=>?_) (fun j d' hd'=>?_)
  ·obtain⟨d0,q1,_⟩:=back j d' hd';exact h1 j d0 q1
  ·obtain⟨d0,q1,rfl⟩:=back j d' hd';exact ih j d0 q1 (fun m hmm=>hm m (by simp only[lensV];exact qa q1 m hmm))
 |agg cs vs hl _ ih=>intro hm;obtain⟨q1,q2⟩:=many hl (by simpa[lensV]using hm) ih;exact .agg _ vs q1 q2
 |tup cs vs hl _ ih=>intro hm;obtain⟨q1,q2⟩:=many hl (by simpa[lensV]using hm) ih;exact .tup _ vs q1 q2
 |fn f cs vs hl _ ih=>intro hm;obtain⟨q1,q2⟩:=many hl (by simpa[lensV]using hm) ih;exact .fn f _ vs q1 q2
 |iface t a v _ ih=>intro hm;exact .iface t _ v (ih (by simpa[lensV]using hm))
 |undef v=>exact fun _=>.undef v
 |int k n h1 h2=>exact fun _=>.int k n h1 h2
 |bool b=>exact fun _=>.bool b
 |str s h=>exact fun _=>.str s h
 |lstNil τ o ht=>exact fun _=>.lstNil τ o ht
 |lstVoid τ a=>exact fun _=>.lstVoid τ a
 |lst τ xs o b' off' cap vals' h1 h2 h3 h4 h5 _=>exact fun _=>.lst τ xs o b' off' cap vals' h1 h2 h3 h4 h5
 |nils=>exact fun _=>.nils
 |nilp=>exact fun _=>.nilp
 |ptr i o b' p len he=>exact fun _=>.ptr i o b' p len he
 |ptNone n=>exact fun _=>.ptNone n
 |ptSome n x v hv _=>exact fun _=>.ptSome n x v hv
 |arr i n w b' len cap a he h1 h2 h3 h4=>exact fun _=>.arr i n w b' len cap a he h1 h2 h3 h4
 |aptr i n w o b' p len he=>exact fun _=>.aptr i n w o b' p len he
 |bptr i b g he=>exact fun _=>.bptr i b g he
 |nilif=>exact fun _=>.nilif
 |st n x v hv _=>exact fun _=>.st n x v hv
end
theorem kH{n:Nat}:∀{l:List Nat} {q:Prop},xH n l q->(∀m∈l,m=n)/\q
 |[],q,h=>⟨fun _ hm=>absurd hm Jc,h⟩
 |m::r,q,h=>by obtain⟨h1,h2⟩:=h;obtain⟨h3,h4⟩:=kH h2;exact⟨fun i hi=>(Hy.1 hi).elim (fun e=>e ▸ h1) (h3 i),h4⟩
theorem y9{F:Fr}{s:St}{a:Act}{Ω:Om}{k:Nat}{Q:St->Prop}(h:Holds F s.abs a Ω)(hf:Cz k s Q):∃s' Ω',Ω'.w=Ω.w/\Holds F s'.abs a Ω'/\Q s':=by
 unfold Cz at hf;split at hf
 ·rename_i τ n x hb;obtain⟨hlens,hq⟩:=kH hf;refine⟨⟨s.t.map fun y=>(y.1,finV k τ x y.2),(rB s.b k (.tail τ (n+1))).map fun y=>(y.1,Cy k τ x y.2)⟩,?_⟩;obtain⟨b,cap,e1,e2,e3,e4,⟨vs,ty,fz,e5,e6,e7⟩,e8,e9⟩:=h.slots k _ hb
  let Ω1:Om:=⟨Ω.e,Ω.w,fun b' o=>Ω.pub b' o∨(b'=b/\n *ad τ<=o/\o<n *ad τ+ad τ)⟩
  have hx1:Ext Ω Ω1:=⟨fun i c hc=>⟨c,hc,CLe.refl c⟩,fun _ _ p=>Or.inl p,fun _ _ _=>rfl⟩
  have htold:Told Ω1 k τ n x b cap (fun j=>(Ω.w.cell? ⟨b,n *ad τ+j,none⟩).getD undef):=by
   refine⟨e1,e2,e3,fun j c hc=>?_⟩;obtain⟨v,k1,k2⟩:=e9 j c hc
   have hj:j<ad τ:=by
    rw[<-bw τ x];rcases Hw j (cells τ x).length with q|q
    ·exact q
    ·rw[Hn q]at hc;cases hc
   refine⟨Or.inr ⟨rfl,by omega,by omega⟩,?_,?_⟩
   ·show Ω.w.cell? _=_;rw[k1];rfl
   ·simp only[k1,Ic];exact k2.ext hx1
  have hcell:∀o,n *ad τ<=o->o<n *ad τ+ad τ->∃v,Ω.w.cell? ⟨b,o,none⟩=some v:=by
   intro o h1 h2;have hj:o-n *ad τ<(cells τ x).length:=by rw[bw];omega
   obtain⟨v,k1,_⟩:=e9 (o-n *ad τ) _ (Hi hj);exact⟨v,by rw[show n *ad τ+(o-n *ad τ)=o by omega]at k1;exact k1⟩
  refine⟨Ω1,rfl,⟨fun i=>?_,h.size,h.defers,fun id o ho=>?_,fun id hid=>?_,h.inj,fun b' o hp=>?_,h.keep,?_⟩,hq⟩
  ·simp only[St.abs];rw[mU (finV k τ x) rfl s.t i];refine V.finV htold ((h.tmps i).ext hx1) (fun m hm=>?_);rcases mR s.t i with hu|hm'
   ·rw[hu]at hm;cases hm
   ·exact hlens m (List.mem_append_left _ (Iw.2 ⟨_,hm',hm⟩))
  ·simp only[St.abs]at ho;rw[kG (Cy k τ x) _ id,jm]at ho;by_cases hid:k=id
   ·subst hid;rw[Hj rfl]at ho;simp only[Ir,Xs,Cy]at ho;subst ho;refine⟨some b,cap,e1,e2,e3,by simp,fun b2 hb2=>?_⟩;simp only[Xs]at hb2;subst hb2;refine⟨e4,vs,ty,fz,e5,by rw[HT];omega,e7,fun o ho hp=>?_⟩;rw[HT,Jl]at ho;rcases hp with hp|⟨_,hp1,hp2⟩
    ·exact e8 o (by omega) hp
    ·omega
   ·rw[Hh hid]at ho;simp only[HA]at ho;obtain⟨o0,ho0,rfl⟩:=ho;have hs:=h.slots id o0 ho0;have apart:∀c0,Ω.e id=some c0->∀b' o,occ c0 b' o->b'≠b:=by intro c0 hc0 b' o hoc hk;subst hk;exact hid (h.inj k id _ c0 b' o e1 hc0 rfl hoc)
    cases o0 with
    |box d=>
     obtain⟨b2,off2,g1,g2⟩:=hs;obtain⟨p1,p2⟩:=q9 (k:=k) (τ:=τ) (x:=x) d;refine⟨b2,off2,by show Ω.e id=_;rw[g1,p1],fun j d' hd'=>?_⟩
     have hj:j<(aa d).length:=by
      rw[<-p1];rcases Hw j (aa (finV k τ x d)).length with q|q
      ·exact q
      ·rw[Hn q]at hd';cases hd'
     have hd2:=p2 j _ (Hi hj);rw[hd']at hd2;obtain⟨m1,m2,m3,v,m4,m5⟩:=g2 j _ (Hi hj);refine⟨m1,fun hp=>?_,m3,v,m4,?_⟩
     ·rcases hp with hp|hp
      ·exact m2 hp
      ·exact apart _ g1 b2 (off2+j) ⟨rfl,by omega,by omega⟩ hp.1
     ·rw[Iz hd2];refine V.finV htold (m5.ext hx1) (fun m hm=>hlens m (List.mem_append_right _ (Iw.2 ⟨(id,.box d),dE _ _ _ ho0,?_⟩)));exact qa (Hi hj) m hm
    |tail σ m=>
     obtain⟨base,cap2,g1,g2,g3,g4,g5⟩:=hs;refine⟨base,cap2,g1,g2,g3,g4,fun b2 hb2=>?_⟩;obtain⟨m1,vs',ty',fz',m2,m3,m4,m5⟩:=g5 b2 hb2;refine⟨m1,vs',ty',fz',m2,m3,m4,fun o ho hp=>?_⟩;rcases hp with hp|hp
     ·exact m5 o ho hp
     ·exact apart _ g1 b2 o hb2 hp.1
    |bld t u l=>
     obtain⟨b2,g,g1,g2,g3⟩:=hs;refine⟨b2,g,g1,fun b3 hb3 o=>⟨(g2 b3 hb3 o).1,fun hp=>?_⟩,g3⟩;rcases hp with hp|hp
     ·exact(g2 b3 hb3 o).2 hp
     ·exact apart _ g1 b3 o hb3 hp.1
    |tailp σ m y=>
     obtain⟨b2,cap2,g1,g2,g3,g4,g5,g6,g7⟩:=hs;refine⟨b2,cap2,g1,g2,g3,g4,g5,fun o ho hp=>?_,fun j c hc=>?_⟩
     ·rcases hp with hp|hp
      ·exact g6 o ho hp
      ·exact apart _ g1 b2 o rfl hp.1
     ·obtain⟨v,k1,k2⟩:=g7 j c hc;exact⟨v,k1,k2.ext hx1⟩
  ·simp only[St.abs]at hid;rw[kG (Cy k τ x) _ id,jm]at hid;by_cases hk:k=id
   ·subst hk;simp at hid
   ·rw[Hh hk]at hid;exact h.dom id (by show aD s.b id=none;simpa using hid)
  ·rcases hp with hp|⟨rfl,hp1,hp2⟩
   ·exact h.pubok b' o hp
   ·exact hcell o hp1 hp2
  ·refine⟨h.frame.os,h.frame.tape,h.frame.output,h.frame.size,h.frame.block,h.frame.cell,h.frame.kind,fun b' o hp=>?_,fun b' o hp=>Or.inl (h.frame.old b' o hp),h.frame.pcell⟩;rcases hp with hp|⟨rfl,hp1,hp2⟩
   ·exact h.frame.pub b' o hp
   ·exact Or.inr (e4 o)
 ·exact⟨s,Ω,rfl,h,hf⟩
theorem qb{F:Fr}{a:Act}{Q:St->Prop}:∀(l:List Nat) {s:St} {Ω:Om},Holds F s.abs a Ω->Ao l s Q->∃s' Ω',Ω'.w=Ω.w/\Holds F s'.abs a Ω'/\Q s'
 |[],s,Ω,h,hf=>⟨s,Ω,rfl,h,hf⟩
 |k::r,s,Ω,h,hf=>by obtain⟨s1,Ω1,g1,g2,g3⟩:=y9 (Q:=fun s=>Ao r s Q) h hf;obtain⟨s2,Ω2,k1,k2,k3⟩:=qb r g2 g3;exact⟨s2,Ω2,k1.trans g1,k2,k3⟩
theorem yb{F:Fr}{a:Act}{Q:St->Prop}{s:St}{Ω:Om}(h:Holds F s.abs a Ω)(hf:finA s Q):∃s' Ω',Ω'.w=Ω.w/\Holds F s'.abs a Ω'/\Q s':=qb _ h hf
theorem AM{k:Nat}{s:St}{Q:St->Prop}(hf:Cz k s Q):∃s',Q s':=by
 unfold Cz at hf;split at hf
 ·exact⟨_,(kH hf).2⟩
 ·exact⟨s,hf⟩
theorem sh{Q:St->Prop}:∀(l:List Nat) {s:St},Ao l s Q->∃s',Q s'
 |[],s,hf=>⟨s,hf⟩
 |k::r,s,hf=>by obtain⟨s1,h1⟩:=AM (Q:=fun s=>Ao r s Q) hf;exact sh r h1
end Go.AL
end
section
namespace Go.AL
variable [Tabs]
def CS:SX->Exit
 |.normal=>.normal
 |.exit id=>.exit id
 |.ret=>.ret
 |.pan _=>.outgrown
def Ends(Ω:Om):SX->Exit->Prop
 |.pan pv,e=>∃v,e=.panic [{v,recovered:=false}]/\V Ω pv v
 |x,e=>CS x=e
def QL(F:Fr)(Q:SX->St->Prop):Exit->Act->World->Prop:=fun e a w=>∃x s Ω,Ends Ω x e/\Ω.w=w/\Holds F s.abs a Ω/\Q x s
mutual
theorem forceV_eq:∀(a:AV)(k:AV->Prop),forceV a k=k a
 |.undef,k=>rfl
 |.int κ n,k=>rfl
 |.bool b,k=>rfl
 |.str s,k=>rfl
 |.lst τ xs none,k=>rfl
 |.lst τ xs (some i),k=>rfl
 |.nils,k=>rfl
 |.ptr i o,k=>rfl
 |.cptr c,k=>by simp only[forceV];rw[forceV_eq c]
 |.st n x,k=>rfl
 |.nilp,k=>rfl
 |.row τ xs,k=>rfl
 |.arr i n w,k=>rfl
 |.aptr i n w o,k=>rfl
 |.bptr i,k=>rfl
 |.lstp τ xs i,k=>rfl
 |.tptr τ n i,k=>rfl
 |.iface t a,k=>by simp only[forceV];rw[forceV_eq a]
 |.nilif,k=>rfl
 |.pt n x,k=>rfl
 |.agg cs,k=>by simp only[forceV];rw[forceL_eq cs]
 |.tup cs,k=>by simp only[forceV];rw[forceL_eq cs]
 |.fn f cs,k=>by simp only[forceV];rw[forceL_eq cs]
theorem forceL_eq:∀(l:List AV)(k:List AV->Prop),forceL l k=k l
 |[],k=>rfl
 |a::r,k=>by simp only[forceL];rw[forceV_eq a,forceL_eq r]
end
theorem si:∀(l:List (Nat×AV))(k:List (Nat×AV)->Prop),tp l k=k l
 |[],k=>rfl
 |(i,a)::r,k=>by simp only[tp];rw[forceV_eq a,si r]
theorem jn:∀(l:List (Nat×SObj))(k:List (Nat×SObj)->Prop),iZ l k=k l
 |[],k=>rfl
 |(i,.box c)::r,k=>by simp only[iZ];rw[forceV_eq c,jn r]
 |(i,.tail τ n)::r,k=>by simp only[iZ];rw[jn r]
 |(i,.bld t u l)::r,k=>by simp only[iZ];rw[jn r]
 |(i,.tailp τ n x)::r,k=>by simp only[iZ];rw[jn r]
theorem eR(s:St)(k:St->Prop):ij s k=k s:=by unfold ij;rw[si,jn]
theorem iw:∀(l:List Nat)(k:List Nat->Prop),iN l k=k l
 |[],k=>rfl
 |0::r,k=>by simp only[iN];rw[iw r]
 |(n+1)::r,k=>by simp only[iN];rw[iw r]
theorem Holds.trim{F:Fr}{s:St}{a:Act}{Ω:Om}(h:Holds F s.abs a Ω)(keep:List Nat):Holds F (trim keep s).abs a Ω:=by
 refine⟨fun i=>?_,h.size,h.defers,h.slots,h.dom,h.inj,h.pubok,h.keep,h.frame⟩;have:=oj s.t (fun i=>keep.contains i) i;simp only[AL.trim,St.abs];rw[this];split
 ·exact h.tmps i
 ·exact .undef _
section
variable {P:Program} {C:Cfg} {F:Fr}
theorem lN(hm:P.follows .mixedOrders=true)(hT:bV P C.tbl)(hS:dA P C.spec)(keep:List Nat){id:Nat}{ops:Array Oper}{draw:Bool}{s1:St}{Q:SX->St->Prop}{a:Act}{Ω1:Om}
 (hdst:∀(o:Oper),o∈ops.toList->∀d,o.dst=some d->d<F.n)(h:oY C keep ops draw s1 Q)(hh1:Holds F s1.abs a Ω1):(Code.region id ops draw).wp P (QL F Q) a Ω1.w:=by
 unfold oY at h
 have key:∀s' fs,(ij (trim keep s') fun s'=>if draw=true then(if ig ops.toList fs=true then Q .normal s' else False)else Q .normal s')->
   (draw=true->ig ops.toList fs=true)/\Q .normal (trim keep s'):=by
  intro s' fs hk;simp only[eR]at hk
  cases draw with
  |false=>exact⟨fun h=>by simp at h,by simpa using hk⟩
  |true=>
   simp only[Ia]at hk;rcases IY (ig ops.toList fs=true)with k|k
   ·rw[Hj k]at hk;exact⟨fun _=>k,hk⟩
   ·rw[Hh k]at hk;exact hk.elim
 refine tK hm hT hS hdst h (fun hdr s' fs hk=>let ⟨s2,h2⟩:=sh _ hk;(key s2 fs h2).1 hdr) hh1 (fun s' fs a' Ω' hk h'=>
   let ⟨s2,Ω2,g1,g2,g3⟩:=yb h' hk
   ⟨.normal,trim keep s2,Ω2,rfl,g1,g2.trim keep,(key s2 fs g3).2⟩)
  (fun pv s' a' Ω' v hk h' hv=>?_)
 simp only[eR,forceV_eq]at hk;exact⟨.pan pv,s',Ω',⟨v,rfl,hv⟩,rfl,h',hk⟩
theorem lf(hm:P.follows .mixedOrders=true)(hT:bV P C.tbl)(hS:dA P C.spec)(keep:List Nat)(ann:An) :
  ∀(c:Code)(s:St)(Q:SX->St->Prop)(a:Act)(Ω:Om),swp C keep ann c s Q->dr F.n c=true->Holds F s.abs a Ω->c.wp P (QL F Q) a Ω.w:=by
 intro c
 induction c with
 |skip=>exact fun s Q a Ω h _ hh=>wp_skip ⟨.normal,s,Ω,rfl,rfl,hh,h⟩
 |region id ops draw=>
  intro s Q a Ω h hd hh;simp only[swp]at h;split at h
  ·exact h.elim
  ·rename_i s0 hp0;obtain⟨Ω0,e0,hh0⟩:=mV _ hh hp0;split at h
   ·exact h.elim
   ·rename_i s1 he;obtain⟨Ω1,e1,hh1⟩:=vn hh0 he;have hdst:∀(o:Oper),o∈ops.toList->∀d,o.dst=some d->d<F.n:=by intro o ho d hod;simp only[dr,HE]at hd;have:=hd o ho;rw[hod]at this;simpa using this
    rw[<-e0,<-e1];split at h
    ·exact lN hm hT hS keep hdst h hh1
    ·rename_i J hJ;obtain⟨h1,h2⟩:=h;rw[eR]at h2;refine JF (lN hm hT hS keep hdst h1 hh1) ?_;intro e a' w' hq;obtain⟨z,s',Ω',g1,g2,g3,g4⟩:=hq;subst g2
     cases z with
     |normal=>cases g1;obtain⟨Ω2,e2,hh2⟩:=eF g3 (gK g4);exact⟨.normal,_,Ω2,rfl,e2,hh2,h2⟩
     |exit id=>exact⟨.exit id,s',Ω',g1,rfl,g3,g4⟩
     |ret=>exact⟨.ret,s',Ω',g1,rfl,g3,g4⟩
     |pan pv=>exact⟨.pan pv,s',Ω',g1,rfl,g3,g4⟩
 |seq x y ihx ihy=>
  intro s Q a Ω h hd hh;simp only[dr,Hk]at hd;simp only[swp]at h;split at h;rotate_left
  ·rename_i J hJ;obtain⟨h1,h2⟩:=h;rw[eR]at h2;refine wp_seq (JF (ihx s _ a Ω h1 hd.1 hh) ?_);intro e a' w' hq;obtain⟨z,s',Ω',g1,g2,g3,g4⟩:=hq;subst g2
   cases z with
   |normal=>cases g1;obtain⟨Ω2,e2,hh2⟩:=eF g3 (gK g4);rw[<-e2];exact ihy _ Q a' Ω2 h2 hd.2 hh2
   |exit id=>cases g1;exact⟨.exit id,s',Ω',rfl,rfl,g3,g4⟩
   |ret=>cases g1;exact⟨.ret,s',Ω',rfl,rfl,g3,g4⟩
   |pan pv=>obtain⟨v,rfl,hv⟩:=g1;exact⟨.pan pv,s',Ω',⟨v,rfl,hv⟩,rfl,g3,g4⟩
  refine wp_seq (JF (ihx s _ a Ω h hd.1 hh) ?_);intro e a' w' hq;obtain⟨z,s',Ω',h1,h2,h3,h4⟩:=hq;subst h2
  cases z with
  |normal=>cases h1;exact ihy s' Q a' Ω' h4 hd.2 h3
  |exit id=>cases h1;exact⟨.exit id,s',Ω',rfl,rfl,h3,h4⟩
  |ret=>cases h1;exact⟨.ret,s',Ω',rfl,rfl,h3,h4⟩
  |pan pv=>obtain⟨v,rfl,hv⟩:=h1;exact⟨.pan pv,s',Ω',⟨v,rfl,hv⟩,rfl,h3,h4⟩
 |cond c x y ihx ihy=>
  intro s Q a Ω h hd hh;simp only[dr,Hk]at hd;simp only[swp]at h;split at h
  ·rename_i b hb;have hv:=bX hh c;have hb':opd s.abs.T c=.bool b:=hb;rw[hb']at hv;have hv:=hv.bool_inv;refine wp_cond hv ?_;unfold sp at h
   have hset:Holds F (EM c b s).abs a Ω:=by
    cases c with
    |tmp t=>
     refine⟨fun i=>?_,hh.size,hh.defers,hh.slots,hh.dom,hh.inj,hh.pubok,hh.keep,hh.frame⟩;have e:(EM (.tmp t) b s).abs.T i=if t=i then .bool b else cm s.t i:=jl s.t t (.bool b) i
     rw[e];by_cases ht:t=i
     ·subst ht;rw[Hj rfl];have:=hh.tmps t;rw[show s.abs.T t=.bool b from hb']at this;exact this
     ·rw[Hh ht];exact hh.tmps i
    |_=>exact hh
   cases b with|true=>exact ihx _ Q a Ω (by simpa using h) hd.1 hset|false=>exact ihy _ Q a Ω (by simpa using h) hd.2 hset
  ·exact h.elim
 |block id c ih=>
  intro s Q a Ω h hd hh;simp only[dr]at hd;simp only[swp]at h;refine wp_block (JF (ih s _ a Ω h hd hh) ?_);intro e a' w' hq;obtain⟨z,s',Ω',h1,h2,h3,h4⟩:=hq;subst h2
  cases z with
  |normal=>cases h1;exact⟨.normal,s',Ω',rfl,rfl,h3,h4⟩
  |ret=>cases h1;exact⟨.ret,s',Ω',rfl,rfl,h3,h4⟩
  |pan pv=>obtain⟨v,rfl,hv⟩:=h1;exact⟨.pan pv,s',Ω',⟨v,rfl,hv⟩,rfl,h3,h4⟩
  |exit j=>
   cases h1;simp only[CS,Exit.inBlock];by_cases hj:j=id
   ·subst hj;simp only[Ia];simp only[Jb,Ia]at h4;exact⟨.normal,s',Ω',rfl,rfl,h3,h4⟩
   ·rw[Hh hj];simp only[I3,hj,HW]at h4;exact⟨.exit j,s',Ω',rfl,rfl,h3,h4⟩
 |loop c ih=>
  intro s Q a Ω h hd hh;simp only[dr]at hd;simp only[swp]at h;split at h
  ·exact h.elim
  ·rename_i A hA;simp only[eR]at h;obtain⟨⟨x0,hp0,hle0⟩,hround⟩:=h;obtain⟨Ω0,e0,hh0⟩:=eF hh (gK hle0);rw[<-e0];refine wp_loop_ghost (fun k a w=>∃x Ω,A.pre x/\A.m x=k/\Ω.w=w/\Holds F (jH (dw c) s (A.t x) (A.b x)).abs a Ω) (A.m x0) ⟨x0,Ω0,hp0,rfl,rfl,hh0⟩ ?_;intro k a1 w1 hI;obtain⟨x,Ω1,hp,hmx,hw1,hh1⟩:=hI;subst hw1;refine JF (ih (jH (dw c) s (A.t x) (A.b x)) _ a1 Ω1 (hround x hp) hd hh1) ?_;intro e a' w' hq;obtain⟨z,s',Ω',h1,h2,h3,h4⟩:=hq;subst h2
   cases z with
   |normal=>cases h1;obtain⟨y,hy1,hy2,hy3⟩:=h4;obtain⟨Ω2,e2,hh2⟩:=eF h3 (gK hy3);exact⟨A.m y,by omega,y,Ω2,hy1,rfl,e2,hh2⟩
   |exit id=>cases h1;exact⟨.exit id,s',Ω',rfl,rfl,h3,h4⟩
   |ret=>cases h1;exact⟨.ret,s',Ω',rfl,rfl,h3,h4⟩
   |pan pv=>obtain⟨v,rfl,hv⟩:=h1;exact⟨.pan pv,s',Ω',⟨v,rfl,hv⟩,rfl,h3,h4⟩
 |exit id=>exact fun s Q a Ω h _ hh=>wp_exit ⟨.exit id,s,Ω,rfl,rfl,hh,h⟩
 |ret=>exact fun s Q a Ω h _ hh=>wp_ret ⟨.ret,s,Ω,rfl,rfl,hh,h⟩
 |rangeFunc g ps x y _ _=>exact fun s Q a Ω h=>by simp[swp]at h
 |scope c ih=>
  intro s Q a Ω h hd hh;simp only[dr]at hd;simp only[swp]at h;refine wp_scope_straight (JF (ih s _ a Ω h hd hh) ?_);intro e a' w' hq;obtain⟨z,s',Ω',h1,h2,h3,h4⟩:=hq
  cases z with
  |normal=>cases h1;exact⟨.normal,s',Ω',rfl,h2,h3,h4⟩
  |exit id=>cases h1;exact⟨.exit id,s',Ω',rfl,h2,h3,h4⟩
  |ret=>cases h1;exact⟨.ret,s',Ω',rfl,h2,h3,h4⟩
  |pan pv=>obtain⟨v,rfl,hv⟩:=h1;exact⟨.pan pv,s',Ω',⟨v,rfl,hv⟩,h2,h3,h4⟩
 |label l=>exact fun s Q a Ω h _ hh=>wp_label ⟨.normal,s,Ω,rfl,rfl,hh,h⟩
 |goto l=>exact fun s Q a Ω h=>by simp[swp]at h
 |refuse why=>exact fun s Q a Ω h=>by simp[swp]at h
theorem jo:∀(l:List AV)(i j:Nat),cm (eK i l) j=if i<=j then l.getD (j-i) .undef else .undef
 |[],i,j=>by simp[eK,cm]
 |v::r,i,j=>by
  simp only[eK,cm,jo r (i+1) j];by_cases h:i=j
  ·subst h;simp
  ·simp only[I3,h,HW];by_cases h2:i<=j
   ·have e:j-i=(j-(i+1))+1:=by omega
    rw[Hj h2,Hj (by omega),e];simp
   ·rw[Hh h2,Hh (by omega)]
theorem jq{w:World}{pub:Nat->Nat->Prop}{e:Nat->Option CObj}{args:List AV}{vs:List Value}(k:Nat)(hv:VL ⟨e,w,pub⟩ args vs)(i:Nat) :
  V ⟨e,w,pub⟩ (cm (eK 0 args) i) ((vs.toArray++Array.replicate k undef).getD i undef):=by
 simp only[jo,Hz,Ia,Jr];by_cases h:i<args.length
 ·have h':i<vs.length:=by rw[<-hv.1];exact h
  have e1:args.getD i .undef=args[i]:=by simp[Hl,h]
  have e2:(vs.toArray++Array.replicate k undef).getD i undef=vs[i]:=by simp[Hx,Array.getElem?_append,h']
  rw[e1,e2];exact hv.2 i _ _ (Hi h) (Hi h')
 ·have e1:args.getD i .undef=.undef:=by simp[Hl,h]
  rw[e1];exact .undef _
theorem me{w:World}{pub:Nat->Nat->Prop}{e:Nat->Option CObj}{args:List AV}{vs:List Value}{n:Nat}{S:List (Nat×SObj)}(hp:kz w pub)(ht:j6 w pub)(hv:VL ⟨e,w,pub⟩ args vs)(hn:args.length<=n)
 (hs:∀id o,aD S id=some o->bB ⟨e,w,pub⟩ (fun _ _=>True) id o)(hd:∀id,aD S id=none->e id=none)(hi:Inj e)(hl:∀id c,e id=some c->cN id=true) :
  Holds ⟨w,pub,n,e,hl,[],ht⟩ (St.abs ⟨eK 0 args,S⟩) {tmps:=vs.toArray++Array.replicate (n-vs.toArray.size) undef,defers:=[]} ⟨e,w,pub⟩:=
 ⟨fun i=>jq _ hv i,by simp;have:=hv.1;omega,rfl,fun id o ho=>(hs id o ho).own_of (fun c b oo hc hoc=>Or.inr ⟨id,c,hc,hoc⟩),fun id hid=>hd id hid,hi,hp,fun id c hc=>⟨c,hc,CLe.refl c⟩,
  ⟨rfl,rfl,rfl,Hu _,fun _ _ _=>rfl,fun _ _ _ _=>rfl,fun _ _ _=>⟨rfl,fun _=>rfl⟩,fun _ _ h=>Or.inl h,fun _ _ h=>h,fun _ _ _=>rfl⟩⟩
def qc(tmps:Array Value):ResultVar->Sem Value
 |.tmp t=>pure (tmps.getD t undef)
 |.cell a t=>do loadVar t (<-asAddr (tmps.getD a undef))
theorem qd(fn:Func)(tmps:Array Value):results fn tmps=(do
  let vs <-fn.results.mapM (qc tmps)
  pure (if h:vs.size=1 then vs[0]else .tuple vs)):=by
 unfold results;congr 1
theorem gr(hT:bV P C.tbl){s:St}{a:Act}{Ω:Om}(hh:Holds F s.abs a Ω):∀(rs:List ResultVar)(l:List AV),mI C.tbl s rs=some l->
  ∃vs,(rs.mapM (qc a.tmps)).run P Ω.w=.ok vs Ω.w/\VL Ω l vs
 |[],l,h=>by simp[mI]at h;subst h;exact⟨[],rfl,VL.nil⟩
 |.tmp t::rs,l,h=>by
  simp only[mI]at h;split at h
  ·rename_i l' hl';simp at h;subst h;obtain⟨vs,k1,k2⟩:=gr hT hh rs l' hl';exact⟨_,by rw[List.mapM_cons];simp only[qc,HD,HQ,Hp,k1],VL.cons (hh.tmps t) k2⟩
  ·cases h
 |.cell b t::rs,l,h=>by
  simp only[mI]at h;split at h
  ·rename_i id off rt hb hrt;have hv:=hh.tmps b;have e:s.abs.T b=.ptr id off:=hb;rw[e]at hv;obtain⟨g,o',len,hv1,hv2⟩:=hv.ptr_inv;split at h
   ·rename_i c hcs;split at h
    ·rename_i x l' hx hl';simp at h;subst h;obtain⟨vs,k1,k2⟩:=gr hT hh rs l' hl';obtain⟨b',off',e1,e2⟩:=hh.slots id _ hcs;rw[hv2]at e1;simp only[Xs,CObj.box.injEq]at e1;obtain⟨rfl,rfl,rfl⟩:=e1;obtain⟨v,w1,w2⟩:=iO (P:=P) (C:=C) (w:=Ω.w) hT hrt hx (b:=g) (o':=o') (fun j c' hc=>(e2 j c' hc).2.2.2);exact⟨v::vs,by rw[List.mapM_cons];simp only[qc,HD,hv1,asAddr,HQ,Hp,w1,k1],VL.cons w2 k2⟩
    ·cases h
   ·cases h
  ·cases h
theorem Holds.retmp{s:AS}{a:Act}{Ω:Om}(h:Holds F s a Ω){l:List AV}{vs:List Value}(hv:VL Ω l vs) :
  Holds ⟨F.w0,F.pub0,vs.length,F.e0,F.dom0,[],F.tab0⟩ ⟨cm (eK 0 l),s.B⟩ {tmps:=vs.toArray++Array.replicate 0 undef,defers:=[]} Ω:=
 ⟨fun i=>jq 0 hv i,by simp,rfl,h.slots,h.dom,h.inj,h.pubok,h.keep,
  ⟨h.frame.os,h.frame.tape,h.frame.output,h.frame.size,h.frame.block,h.frame.cell,h.frame.kind,h.frame.pub,h.frame.old,h.frame.pcell⟩⟩
theorem jr{w:World}{pub:Nat->Nat->Prop}{e:Nat->Option CObj}{n:Nat}{hl:∀id c,e id=some c->cN id=true}{ht:j6 w pub}{T:Nat->AV}{B:List (Nat×SObj)}{a:Act}{Ω:Om}
 (h:Holds ⟨w,pub,n,e,hl,[],ht⟩ ⟨T,aD B⟩ a Ω):After w pub e (aD B) Ω.w Ω.pub Ω.e:=by
 refine⟨h.frame.os,h.frame.tape,h.frame.output,h.frame.size,h.frame.block,h.frame.cell,h.frame.kind,⟨h.keep,h.frame.old,h.frame.pcell⟩,fun b o hp=>?_,h.pubok,h.slots,h.dom,h.inj⟩;rcases h.frame.pub b o hp with q|q|q
 ·exact Or.inl q
 ·exact Or.inr (Or.inl q)
 ·exact Or.inr (Or.inr q)
theorem mW{α:Type}{l:List α}(h:l.length=1):∃x,l=[x]:=by
 match l,h with
 |[x],_=>exact⟨x,rfl⟩
theorem AN(hm:P.follows .mixedOrders=true)(hT:bV P C.tbl)(hS:dA P C.spec){ann:An}{f:Nat}{fn:Func}(hf:P.funcs[f]?=some fn)
 {args:List AV}{S:List (Nat×SObj)}{A:Ans}(h:fwp C ann fn args S A):ay P f args S A:=by
 intro w pub e vs hp ht hv hs hdom hinj;unfold fwp at h;split at h
 ·exact h.elim
 ·rename_i c hb;split at h
  ·exact h.elim
  ·rename_i hck;simp only[Hk,HE]at hck;obtain⟨⟨hck1,hck2⟩,hck3⟩:=hck;have hlen:=fg _ _ hck2;rw[iw,eR]at h
   have hlent:∀id c,e id=some c->cN id=true:=by
    intro id c hc
    cases hg:aD S id with
    |none=>rw[hdom id hg]at hc;cases hc
    |some o=>exact hck3 id (I7.2 ⟨(id,o),dE _ _ _ hg,rfl⟩)
   refine calls_of_wp hf hb ?_;have hh:=me (n:=fn.ntmps) hp ht hv hlen hs hdom hinj hlent;refine JF (lf (F:=⟨w,pub,fn.ntmps,e,hlent,[],ht⟩) hm hT hS _ ann c _ _ _ _ h hck1 hh) ?_;intro en a' w' hq;obtain⟨z,s',Ω',h1,h2,h3,h4⟩:=hq;subst h2
   have hmap:∀us,(fn.results.toList.mapM (qc a'.tmps)).run P Ω'.w=.ok us Ω'.w->
     (results fn a'.tmps).run P Ω'.w=.ok (if h:us.toArray.size=1 then us.toArray[0]else .tuple us.toArray) Ω'.w:=by
    intro us hus;rw[qd,<-IK (xs:=fn.results),JP];simp only[HD,Sem.run_map,hus,Hp,HQ]
   have key:((match A.pan with|some (b,_,_)=>b=false|none=>True)/\s7 (mI C.tbl s' fn.results.toList) s' A.val (putB S A.upd))->
     a'.defers=[]/\∃v,(results fn a'.tmps).run P Ω'.w=.ok v Ω'.w/\∃pub' e',(∀b pv u,A.pan=some (b,pv,u)->b=false)/\V ⟨e',Ω'.w,pub'⟩ A.val v/\After w pub e (aD (putB S A.upd)) Ω'.w pub' e':=by
    rintro⟨hpan,hend⟩;refine⟨h3.defers,?_⟩;have hpan':∀b pv u,A.pan=some (b,pv,u)->b=false:=by intro b pv u hpa;rw[hpa]at hpan;exact hpan
    unfold s7 at hend;split at hend
    ·rename_i x hres;obtain⟨us,k1,k2⟩:=gr hT h3 _ _ hres;obtain⟨u,rfl⟩:=mW (by rw[<-k2.1];rfl);obtain⟨Ω2,e2,hh2⟩:=eF (s:=⟨[(0,x)],s'.b⟩) (h3.retmp k2) (gK hend);refine⟨u,by simpa using hmap [u] k1,Ω2.pub,Ω2.e,hpan',?_,?_⟩
     ·have:=hh2.tmps 0;rw[<-e2];exact this
     ·rw[<-e2];exact jr hh2
    ·rename_i l hne hres;split at hend
     ·rename_i rs hval;split at hend
      ·rename_i hln;have hl2:=cz _ _ hln;obtain⟨us,k1,k2⟩:=gr hT h3 _ _ hres;obtain⟨Ω2,e2,hh2⟩:=eF (s:=⟨eK 0 l,s'.b⟩) (h3.retmp k2) (gK hend);have hsz:¬us.toArray.size=1:=by intro h1;obtain⟨x,hx⟩:=mW (l:=l) (by rw[k2.1];simpa using h1);exact hne x hx
       refine⟨.tuple us.toArray,?_,Ω2.pub,Ω2.e,hpan',?_,?_⟩
       ·rw[hmap us k1,dif_neg hsz]
       ·rw[hval];refine .tup rs us (by rw[<-k2.1,<-hl2]) (fun j c v hc hv=>?_);have:=hh2.tmps j;simp only[St.abs,jo,Hz,Ia,Jr,Hl,hc,Ic]at this;have e3:(us.toArray++Array.replicate 0 undef).getD j undef=v:=by simp[Hx,hv]
        rw[e3,]at this;rw[<-e2];exact this
       ·rw[<-e2];exact jr hh2
      ·exact hend.elim
     ·exact hend.elim
    ·exact hend.elim
   cases z with
   |normal=>cases h1;exact key h4
   |exit id=>exact h4.elim
   |ret=>cases h1;exact key h4
   |pan pv=>
    obtain⟨v,rfl,hv⟩:=h1;simp only at h4;split at h4
    ·rename_i b pv' pu hpa;obtain⟨hbt,hend⟩:=h4;subst hbt;obtain⟨Ω2,e2,hh2⟩:=eF (s:=⟨[(0,pv)],s'.b⟩) (h3.retmp (VL.cons hv .nil)) (gK hend);refine⟨h3.defers,Ω2.pub,Ω2.e,pv',pu,v,hpa,rfl,?_,?_⟩
     ·have:=hh2.tmps 0;rw[<-e2];exact this
     ·rw[<-e2];exact jr hh2
    ·exact h4.elim
end
end Go.AL
end
section
namespace Go.AL
variable [Tabs]
theorem TRok.mk'{P:Program}{t:Nat}{r:TR}
 (h1:(P.info? t).map (fun i=>(i.size,i.bytes,i.zero.map fun z=>z.cells.toList.map cI))=some (r.size,r.bytes,some r.zero))
 (h2:(P.underlying t).map (bG P r.ti)=some true)
 (h3:(gh r.zero r.size&&(Nat.beq r.size 0||Nat.blt 0 r.bytes)&&(match r.ty with | some τ=>Nat.beq (ad τ) r.size&&(EH τ ==r.isAgg) | none=>true))=true)
 (h8:(P.info? t).map (fun i=>i.zero.map fun z=>xI z ==r.isAgg)=some (some true))
 (h9:(match r.ti with|.strct true _=>!P.stoodInHeld t&&!P.eqGuardType P.depth t|_=>true)=true):TRok P t r:=by
 simp only[Hk,Io,Nat.beq_eq,Jw]at h3;obtain⟨⟨h5,h6⟩,h7⟩:=h3;refine⟨?_,cz _ _ h5,fun hz=>?_,?_,fun τ hτ=>?_,fun i z hi hz=>?_,fun fs hfs=>?_⟩
 ·cases hi:P.info? t with
  |none=>rw[hi]at h1;simp at h1
  |some i=>rw[hi]at h1;simp only[Ir,Xs,Prod.mk.injEq,HA]at h1;obtain⟨e1,e2,z,e3,e4⟩:=h1;exact⟨i,z,rfl,e1,e2,e3,e4⟩
 ·rcases h6 with h6|h6
  ·omega
  ·exact h6
 ·cases hd:P.underlying t with|none=>rw[hd]at h2;simp at h2|some d=>rw[hd]at h2;exact⟨d,rfl,by simpa using h2⟩
 ·rw[hτ]at h7;simpa using h7
 ·rw[hi]at h8;simp[hz]at h8;exact h8
 ·rw[hfs]at h9;simpa using h9
theorem bV.nil{P:Program}:bV P []:=fun t r h=>by simp[bq]at h
theorem bV.cons{P:Program}{t:Nat}{r:TR}{l:List (Nat×TR)}(h:TRok P t r)(hl:bV P l):bV P ((t,r)::l):=by
 intro t' r' h';simp only[bq]at h';by_cases e:t=t'
 ·subst e;simp at h';subst h';exact h
 ·simp only[I3,e,HW]at h';exact hl t' r' h'
theorem az.mk'{P:Program}{f:Nat}{fn:Func}(h:P.funcs[f]?=some fn)(h2:(fn.body.isNone || (fn.name == "runtime.NumGoroutine"))=false):az P f:=by simp only [Bool.or_eq_false_iff] at h2;exact ⟨fn,h,h2.1,h2.2⟩
end Go.AL
end
section
namespace Go.AL
def Wf(τ:Ty)(x:den τ):Prop:=∃Ω v,V Ω (inj τ x) v
def WfL(args:List AV):Prop:=∃Ω vs,VL Ω args vs
theorem Wf.str{s:Str}(h:Wf .str s):s.length<=9223372036854775807:=letI:=tq;let ⟨_,_,h⟩:=h;h.str_inv.2
theorem Wf.len{τ:Ty}{xs:List (den τ)}(h:Wf (.lst τ) xs):xs.length<=9223372036854775807:=by
 letI:=tq
 obtain⟨Ω,v,h⟩:=h;rcases h.lst_inv with⟨h1,_,_⟩|⟨h1,_,_⟩|⟨b,off,cap,vals,hv,h1,h2,_⟩
 ·rw[h1];simp
 ·rw[h1];simp
 ·unfold cn at h2;omega
theorem VL.inj{Ω:Om}{τ:Ty}{x:den τ}{vs:List Value}(h:VL Ω (cells τ x) vs):∃v,V Ω (inj τ x) v:=by
 cases τ with
 |st n=>exact⟨_,.st n x _ (V.of_agg h)⟩
 |int k=>match vs,h with|[v],h=>exact⟨v,h.head⟩
 |bool=>match vs,h with|[v],h=>exact⟨v,h.head⟩
 |str=>match vs,h with|[v],h=>exact⟨v,h.head⟩
 |lst t=>match vs,h with|[v],h=>exact⟨v,h.head⟩
 |pt n=>match vs,h with|[v],h=>exact⟨v,h.head⟩
theorem Wf.mem{τ:Ty}{xs:List (den τ)}(h:Wf (.lst τ) xs){x:den τ}(hx:x∈xs):Wf τ x:=by
 letI:=tq
 obtain⟨Ω,v,h⟩:=h;rcases h.lst_inv with⟨h1,_,_⟩|⟨h1,_,_⟩|⟨b,off,cap,vals,hv,h1,h2,h3,h4,h5⟩
 ·rw[h1]at hx;simp at hx
 ·rw[h1]at hx;simp at hx
 ·obtain⟨i,hi⟩:=List.getElem?_of_mem hx
  have:VL Ω (cells τ x) ((List.range (cells τ x).length).map (vals i)):=by
   refine⟨by simp,fun j c v hc hv=>?_⟩
   have hj:j<(cells τ x).length:=by
    rcases Hw j (cells τ x).length with k|k
    ·exact k
    ·rw[Hn k]at hc;cases hc
   simp[hj]at hv;subst hv;exact h5 i x hi j c hc
  obtain⟨v',hv'⟩:=this.inj;exact⟨Ω,v',hv'⟩
theorem Wf.cell{n:SN}{x:SD n}(h:Wf (.st n) x)(j:Nat){τ:Ty}{y:den τ}(hc:(cells (.st n) x)[j]?=some (AL.inj τ y)):Wf τ y:=by
 obtain⟨Ω,v,h⟩:=h
 cases h with
 |st _ _ v hv=>
  obtain⟨vs,_,hl⟩:=hv.agg_inv
  have hj:j<vs.length:=by
   rw[<-hl.1];rcases Hw j (cells (.st n) x).length with k|k
   ·exact k
   ·rw[Hn k]at hc;cases hc
  exact⟨Ω,_,hl.2 j _ _ hc (Hi hj)⟩
theorem Wf.names{s:Shape}(h:Wf (.st .shape) s):Wf (.lst .str) s.names:=h.cell 3 (τ:=.lst .str) (y:=s.names) rfl
theorem Wf.parts{s:Shape}(h:Wf (.st .shape) s):Wf (.lst (.st .shape)) s.parts:=h.cell 4 (τ:=.lst (.st .shape)) (y:=s.parts) rfl
theorem Wf.term_shapes{x:Trm}(h:Wf (.st .term) x):Wf (.lst (.st .shape)) x.shapes:=(h.cell 6 (τ:=.lst (.st .shape)) (y:=x.shapes) rfl)
theorem Wf.term_parts{x:Trm}(h:Wf (.st .term) x):Wf (.lst (.st .term)) x.parts:=(h.cell 7 (τ:=.lst (.st .term)) (y:=x.parts) rfl)
theorem WfL.cons{a:AV}{l:List AV}(h:WfL (a::l)):(∃Ω v,V Ω a v)/\WfL l:=by
 obtain⟨Ω,vs,h⟩:=h;rcases h.cases with⟨e,_⟩|⟨c,cs,v,vs',e,_,h1,h2⟩
 ·cases e
 ·cases e;exact⟨⟨Ω,v,h1⟩,Ω,vs',h2⟩
theorem WfL.one{τ:Ty}{x:den τ}{l:List AV}(h:WfL (inj τ x::l)):Wf τ x:=h.cons.1
theorem WfL.two{a:AV}{τ:Ty}{x:den τ}{l:List AV}(h:WfL (a::inj τ x::l)):Wf τ x:=h.cons.2.cons.1
theorem WfL.three{a b:AV}{τ:Ty}{x:den τ}{l:List AV}(h:WfL (a::b::inj τ x::l)):Wf τ x:=h.cons.2.cons.2.cons.1
section
variable [Tabs]
variable {P:Program}
theorem ay.wf{f:Nat}{args:List AV}{S:List (Nat×SObj)}{A:Ans}(h:WfL args->ay P f args S A):ay P f args S A:=
 fun w pub e vs hp ht hv hs hd hi=>h ⟨_,vs,hv⟩ w pub e vs hp ht hv hs hd hi
theorem ay.args{f:Nat}{args args':List AV}{S:List (Nat×SObj)}{A:Ans}(ha:RdL args args')(h:ay P f args' S A):ay P f args S A:=
 fun w pub e vs hp ht hv hs hd hi=>h w pub e vs hp ht (hv.rd ha) hs hd hi
abbrev Pat:=List AV->List (Nat×SObj)->Option Ans
def lO:List (Nat×Pat)->Nat->Pat
 |[],_=>fun _ _=>none
 |(i,g)::l,f=>fun args S=>
  match Nat.beq i f with
  |true=>(match g args S with|some A=>some A|none=>lO l f args S)
  |false=>lO l f args S
def ah(P:Program)(f:Nat)(g:Pat):Prop:=
 ∀args S A,g args S=some A->(∀q,A.ob=some q->q)->(aq S).all cN=true->az P f/\ay P f args S A
theorem sj:dA P (lO []):=fun f args S A h=>by simp[lO]at h
theorem qe{f:Nat}{g:Pat}{l:List (Nat×Pat)}(h:ah P f g)(hl:dA P (lO l)):dA P (lO ((f,g)::l)):=by
 intro f' args S A hA ho hk;simp only[lO]at hA;split at hA
 ·rename_i hb;have e:f=f':=HF hb;subst e;split at hA
  ·rename_i A' hg;simp at hA;subst hA;exact h args S A' hg ho hk
  ·exact hl f args S A hA ho hk
 ·exact hl f' args S A hA ho hk
def p1(τ:Ty)(F:den τ->Ans):Pat
 |[a],[]=>(match arg τ a with|some a=>some (F a)|none=>none)
 |_,_=>none
def p2(τ σ:Ty)(F:den τ->den σ->Ans):Pat
 |[a,b],[]=>(match arg τ a,arg σ b with|some a,some b=>some (F a b)|_,_=>none)
 |_,_=>none
def pf(τ:Ty)(n:Nat)(F:den τ->Ans):Pat
 |[a,.fn f []],[]=>(match Nat.beq f n with|true=>(match arg τ a with|some a=>some (F a)|none=>none)|false=>none)
 |_,_=>none
def p3(τ σ ρ:Ty)(F:den τ->den σ->den ρ->Ans):Pat
 |[a,b,c],[]=>(match arg τ a,arg σ b,arg ρ c with|some a,some b,some c=>some (F a b c)|_,_,_=>none)
 |_,_=>none
theorem Rd.arg{τ:Ty}{a:AV}{x:den τ}(h:AL.arg τ a=some x):Rd a (inj τ x):=fun _ _ hv=>GO hv h
theorem cd{f:Nat}{τ:Ty}{F:den τ->Ans}(he:az P f)(h:∀x,Wf τ x->(∀q,(F x).ob=some q->q)->ay P f [inj τ x] [] (F x)):ah P f (p1 τ F):=by
 intro args S A hA ho _;unfold p1 at hA;split at hA
 ·split at hA
  ·rename_i x hx;simp at hA;subst hA;exact⟨he,ay.args (.cons (Rd.arg hx) .nil) (ay.wf fun hw=>h x hw.one ho)⟩
  ·cases hA
 ·cases hA
theorem gu{f:Nat}{τ σ:Ty}{F:den τ->den σ->Ans}(he:az P f)
 (h:∀x y,Wf τ x->Wf σ y->(∀q,(F x y).ob=some q->q)->ay P f [inj τ x,inj σ y] [] (F x y)):ah P f (p2 τ σ F):=by
 intro args S A hA ho _;unfold p2 at hA;split at hA
 ·split at hA
  ·rename_i x y hx hy;simp at hA;subst hA;exact⟨he,ay.args (.cons (Rd.arg hx) (.cons (Rd.arg hy) .nil)) (ay.wf fun hw=>h x y hw.one hw.two ho)⟩
  ·cases hA
 ·cases hA
theorem ot{f:Nat}{τ:Ty}{n:Nat}{F:den τ->Ans}(he:az P f)(h:∀x,Wf τ x->(∀q,(F x).ob=some q->q)->ay P f [inj τ x,.fn n []] [] (F x)):ah P f (pf τ n F):=by
 intro args S A hA ho _;unfold pf at hA;split at hA
 ·split at hA
  ·rename_i hb;have e:=HF hb;subst e;split at hA
   ·rename_i x hx;simp at hA;subst hA;exact⟨he,ay.args (.cons (Rd.arg hx) (.cons (Rd.refl _) .nil)) (ay.wf fun hw=>h x hw.one ho)⟩
   ·cases hA
  ·cases hA
 ·cases hA
theorem G3{f:Nat}{τ σ ρ:Ty}{F:den τ->den σ->den ρ->Ans}(he:az P f)
 (h:∀x y z,Wf τ x->Wf σ y->Wf ρ z->(∀q,(F x y z).ob=some q->q)->ay P f [inj τ x,inj σ y,inj ρ z] [] (F x y z)):ah P f (p3 τ σ ρ F):=by
 intro args S A hA ho _;unfold p3 at hA;split at hA
 ·split at hA
  ·rename_i x y z hx hy hz;simp at hA;subst hA;exact⟨he,ay.args (.cons (Rd.arg hx) (.cons (Rd.arg hy) (.cons (Rd.arg hz) .nil))) (ay.wf fun hw=>h x y z hw.one hw.two hw.three ho)⟩
  ·cases hA
 ·cases hA
end
end Go.AL
end
section
namespace Go.AL
theorem aT{α:Type}(l:List α)(k:Nat)(d:α)(h:k<l.length):l.drop k=l.getD k d::l.drop (k+1):=by rw[Jd h];simp[Hl,h]
theorem cY{α:Type}(l:List α)(k:Nat)(d:α)(h:k<l.length):l.getD k d∈l:=by simp[Hl,h]
theorem lg{α:Type}(l:List α)(k:Nat)(d:α)(h:k<l.length):l.take (k+1)=l.take k++[l.getD k d]:=by rw[List.take_succ_eq_append_getElem h];simp[Hl,h]
theorem aP{n:Int}(h1:-9223372036854775808<=n)(h2:n<=9223372036854775807):inR .i64 n:=by constructor<;>simp[IntKind.min,IntKind.max,IntKind.signed,IntKind.bits]<;>omega
theorem cA{n m:Nat}(h1:n<m)(h2:m<=9223372036854775807):inR .i64 ((n:Int)+1):=aP (by omega) (by omega)
theorem kI{p:Prop}[Decidable p]:(decide p=true)=p:=by simp
theorem a6{c p q:Prop}[Decidable c](h1:c->p)(h2:¬c->q):if c then p else q:=by
 by_cases h:c
 ·rw[Hj h];exact h1 h
 ·rw[Hh h];exact h2 h
abbrev mX(α:Type):List α:=[]
theorem CT[Tabs]{P:Program}{C:Cfg}(hm:P.follows .mixedOrders=true)(hT:bV P C.tbl)(hS:dA P C.spec){ann:An}{f:Nat}{fn:Func}(hf:P.funcs[f]?=some fn)
 {args:List AV}{S:List (Nat×SObj)}{A:Ans}{Q:Prop}(q:Q)(h:fwp C ann fn args S A=Q):ay P f args S A:=AN hm hT hS hf (h.mpr q)
end Go.AL
end
section
namespace Go.AL
variable [Tabs]
open Go.ChangeShapes Go.WideShapes Go.RowKit
def zT(w:World)(b o:Nat):Prop:=∃v,w.cell? ⟨b,o,none⟩=some v
def Om0(w:World):Om:=⟨fun _=>none,w,zT w⟩
theorem AO{P:Program}{f:Nat}{args:List AV}(h:ay P f args [] (.ret (.bool true))){w:World}{vs:List Value}(htab:∀b o v,Tabs.tab b o v->w.cell? ⟨b,o,none⟩=some v)(hv:VL (Om0 w) args vs) :
  Calls P f vs.toArray w fun e w'=>e=.returned (.bool true)/\RowKit.Below w.heap.size w w':=by
 refine Calls.mono (h w (zT w) (fun _=>none) vs (fun _ _ h=>h) (fun b o v ht=>⟨⟨v,htab b o v ht⟩,htab b o v ht⟩) hv (fun id o ho=>by simp[aD]at ho) (fun _ _=>rfl) (fun i j c d b o hc=>by cases hc)) ?_;intro e w' hq;obtain⟨pub',e',hq⟩:=hq
 cases e with
 |returned v=>obtain⟨_,hv,ha⟩:=hq;have:=hv.bool_inv;subst this;exact⟨rfl,ha.os,ha.tape,ha.output,ha.size,fun b hb=>ha.block b hb fun o ⟨id,c,hc,_⟩=>by cases hc⟩
 |panicked ch=>obtain⟨pv,u,v,hp,_⟩:=hq;cases hp
 |outgrown=>exact hq.elim
section
variable {H:Type} {enc:TypeId×Value->H} {P:Program}
theorem lP(hl:laidOutB P=true){W W':World}(hb:Below W.heap.size W W'){sp:Nat->Bool}:∀{ts:List TypeId} {vs:List Value} {ds:List (DataW H)} {p:List MemPlace},
  (∀t∈ts,P.readableRec t=true/\t<P.types.size)->DataW.TrodAll enc P W 0 (fun _=>true) true ts vs ds p->(∀x∈p,x.block<W.heap.size)->(∀x∈p,sp x.block=true)->DataW.TrodAll enc P W' 0 sp true ts vs ds p
 |[],_,_,_,_,h,_,_=>by obtain⟨rfl,rfl,rfl⟩:=trodAll_nil h;exact h
 |t::ts,_,_,_,hr,h,hlt,hsp=>by
  obtain⟨v,vs,d,ds,p,q,rfl,rfl,rfl,h1,h2⟩:=trodAll_cons h;obtain⟨r1,r2⟩:=hr t (by simp)
  exact⟨p,q,WideElems.Trod_stays hl r1 r2 h1 (fun x hx=>hb.same (hlt x (by simp[hx]))) (fun x hx=>hsp x (by simp[hx])),
   lP hl hb (fun t ht=>hr t (by simp[ht])) h2 (fun x hx=>hlt x (by simp[hx])) (fun x hx=>hsp x (by simp[hx])),rfl⟩
theorem CU(hl:laidOutB P=true){f:Func}{s:ChangeSpec}{apart fresh handsOn again:Bool}{W W':World}{args:Array Value}{ds gs:List (DataW H)}{before:List MemPlace}{tb:TypeId}
 (hr:∀t∈f.params.toList,P.readableRec t=true/\t<P.types.size)(hvars:s.vars=[])(hfn:∀ds:List (DataW H),ds.length=f.params.size->s.fn H ds={results:=[.lit (.bool true)],args:=ds})(hrt:f.resultTypes=#[tb])(htb:P.underlying tb=some .bool)
 (hW:DataW.Whole enc P f.params.toList s.vars apart W args.toList ds gs before)(hb:Below W.heap.size W W'):s.post enc P f apart fresh handsOn again W args (.bool true) W':=by
 have hlt:∀p∈before,p.block<W.heap.size:=fun p hp=>hW.lt p hp;have hW0:=hW;obtain⟨p,q,hA,hV,e,hz,hn⟩:=hW;rw[hvars]at hV;obtain⟨rfl,rfl⟩:=trodVars_none hV;rw[J1]at e;subst e
 have hlen:ds.length=f.params.size:=by
  have:∀{ts:List TypeId} {vs:List Value} {ds:List (DataW H)} {p:List MemPlace},DataW.TrodAll enc P W 0 (fun _=>true) true ts vs ds p->ds.length=ts.length:=by
   intro ts
   induction ts with
   |nil=>intro vs ds p h;obtain⟨rfl,rfl,rfl⟩:=trodAll_nil h;rfl
   |cons t ts ih=>intro vs ds p h;obtain⟨v,vs,d,ds,p,q,rfl,rfl,rfl,h1,h2⟩:=trodAll_cons h;simp[ih h2]
  simpa using this hA
 have hf:=hfn ds hlen;have hs:∀sp:Nat->Bool,(∀x∈before,sp x.block=true)->DataW.TrodAll enc P W' 0 sp true f.params.toList args.toList ds before:=fun sp hsp=>lP hl hb hr hA hlt hsp;have hres:∀(b:Nat)(sp:Nat->Bool)(hd:Bool),DataW.TrodAll enc P W' b sp hd f.resultTypes.toList ((Value.bool true).resultList f.resultTypes.size) [.lit (.bool true)] []:=by intro b sp hd;rw[hrt];exact trodAll_cons_mk (shut_bool htb true) trodAll_mk0
 have hvs:DataW.TrodVars enc P W' (fun b=>decide (b<W.heap.size)) s.vars [] []:=by rw[hvars];rfl
 refine⟨ds,[],before,[],before,[],hW0,?_,?_,?_,World.keptBut_mono (fun x hx=>⟨hx,.inr (.inl hx)⟩) (hb.frame (·∈before)),fun _=>⟨?_,?_⟩⟩
 ·rw[J1,hf];exact hres _ _ _
 ·rw[J1,hf];exact hs _ fun x hx=>by simpa using hlt x hx
 ·rw[J1,hf];exact hvs
 ·intro j t r h1 h2;rw[hrt]at h1 h2
  cases j with
  |zero=>
   simp at h1;subst h1;have:r=.bool true:=by simp[Value.resultList]at h2;exact h2.symm
   subst this;simp[Value.okWide,htb,Cell.okWide,Cell.ok]
  |succ j=>simp at h1
 ·refine⟨[.lit (.bool true)]++ds,[],[]++before,⟨[]++before,[],trodAll_append (hs _ fun _ _=>rfl) (hres _ _ _),by rw[hvars];rfl,by simp,fun b off hp=>?_,fun ha=>by simpa using hn ha⟩,fun x hx _=>by simpa using hx⟩;have hin:MemPlace.cell b off∈before:=by simpa using hp
  rw[hb.frozen (p:=⟨b,off,none⟩) (hlt _ hin)];exact hz b off hin
variable {w:World} {base:Nat} {sp:Nat->Bool} {held:Bool}
end
end Go.AL
end
section
namespace Go.AL
variable [Tabs]
open Go.ChangeShapes Go.WideShapes Go.RowKit
variable {H:Type} {enc:TypeId×Value->H} {P:Program} {w:World} {base:Nat} {held:Bool}
structure ShapeAt(P:Program)(t:TypeId):Prop where
 ex:∃(f0 f1 f2 f3 f4:Field)(e:TypeId),P.underlying t=some (.struct #[f0,f1,f2,f3,f4])/\P.cellsOf t=5/\
  (f0.offset=0/\f1.offset=1/\f2.offset=2/\f3.offset=3/\f4.offset=4)/\
  (P.cellsOf f0.type=1/\P.cellsOf f1.type=1/\P.cellsOf f2.type=1/\P.cellsOf f3.type=1/\P.cellsOf f4.type=1)/\
  P.underlying f0.type=some (.int .i64)/\P.underlying f1.type=some .string/\P.underlying f2.type=some .string/\P.underlying f3.type=some (.slice e)/\P.underlying e=some .string/\P.cellsOf e=1/\P.underlying f4.type=some (.slice t)
structure ItemAt(P:Program)(t:TypeId):Prop where
 ex:∃(f0 f1 f2:Field),P.underlying t=some (.struct #[f0,f1,f2])/\P.cellsOf t=7/\(f0.offset=0/\f1.offset=1/\f2.offset=2)/\
  (P.cellsOf f0.type=1/\P.cellsOf f1.type=1/\P.cellsOf f2.type=5)/\P.underlying f0.type=some (.int .i64)/\P.underlying f1.type=some .string/\ShapeAt P f2.type
end Go.AL
end
section
namespace Go.AL
open Go.ChangeShapes Go.WideShapes Go.RowKit
abbrev qf(w:World):Tabs:=⟨fun b o v=>b<3/\w.cell? ⟨b,o,none⟩=some v⟩
variable [Tabs]
variable {H:Type} {enc:TypeId×Value->H} {P:Program} {w:World} {base:Nat} {held:Bool}
structure TokAt(P:Program)(t:TypeId):Prop where
 ex:∃(f0 f1 f2:Field),P.underlying t=some (.struct #[f0,f1,f2])/\P.cellsOf t=3/\(f0.offset=0/\f1.offset=1/\f2.offset=2)/\
  (P.cellsOf f0.type=1/\P.cellsOf f1.type=1/\P.cellsOf f2.type=1)/\P.underlying f0.type=some (.int .i64)/\P.underlying f1.type=some .string/\P.underlying f2.type=some (.int .i64)
theorem CV{t:TypeId}(ht:P.underlying t=some .string){r:Reach}{b0:Nat}{v:Value}{d:DataW H}{ps:List MemPlace}(hv:Value.okWide P w r b0 t v)(h:DataW.Trod enc P w base (fun _=>true) held t v d ps):∃s:Str,V (Om0 w) (.str s) v:=by
 obtain⟨s,rfl,_,_,hw⟩:=Go.ChangeMaps.open_string ht hv h;have e:s=⟨s.data.toList.toArray⟩:=by cases s;simp
 have hl:s.data.toList.length<=cn:=by have:s.data.size=s.size:=rfl;unfold maxLen at hw;unfold cn;simp only[IQ,this];omega
 have:=V.str (Ω:=Om0 w) s.data.toList hl;rw[<-e]at this;exact⟨_,this⟩
end Go.AL
end
section
namespace Go.AL
variable [Tabs]
theorem bB.blk{Ω:Om}{own:Nat->Nat->Prop}{id:Nat}{ob:SObj}(hs:bB Ω own id ob){c:CObj}(hc:Ω.e id=some c){b o:Nat}(hb:occ c b o):b<Ω.w.heap.size:=by
 cases ob with
 |box x=>
  obtain⟨b',off,he,hh⟩:=hs;rw[he]at hc;simp only[Xs]at hc;subst hc;obtain⟨rfl,h1,h2⟩:=hb;have hj:o-off<(aa x).length:=by omega
  obtain⟨_,_,_,v,hv,_⟩:=hh (o-off) _ (Hi hj);exact bD hv
 |tail τ n=>obtain⟨base,cap,he,_,_,_,hb'⟩:=hs;rw[he]at hc;simp only[Xs]at hc;subst hc;obtain⟨_,vs,ty,fz,hh,_⟩:=hb' b hb;exact fX hh
 |bld t u l=>obtain⟨b0,g,he,_,hh⟩:=hs;rw[he]at hc;simp only[Xs]at hc;subst hc;exact hh.lt hb
 |tailp τ n x=>
  obtain⟨b0,cap,he,_,_,_,⟨vs,ty,fz,hh,_⟩,_⟩:=hs;rw[he]at hc;simp only[Xs]at hc;subst hc;have:b0=b:=by simpa[occ]using hb
  subst this;exact fX hh
def tM(e:Nat->Option CObj)(k b o:Nat):Prop:=∃c,e k=some c/\occ c b o
theorem After.slot{w w':World}{pub:Nat->Nat->Prop}{e:Nat->Option CObj}{S:List (Nat×SObj)}
 (hp:kz w pub)(hs:∀id o,aD S id=some o->bB ⟨e,w,pub⟩ (fun _ _=>True) id o)(hd:∀id,aD S id=none->e id=none)(hi:Inj e)
 {k:Nat}{obj:SObj}{c:CObj}{Q:Nat->Nat->Prop}
 (os:w'.os=w.os)(tape:w'.tape=w.tape)(output:w'.output=w.output)(size:w.heap.size<=w'.heap.size)
 (block:∀b,b<w.heap.size->(∀o,¬tM e k b o)->w'.heap[b]?=w.heap[b]?)
 (cell:∀b o,b<w.heap.size->¬tM e k b o->w'.cell? ⟨b,o,none⟩=w.cell? ⟨b,o,none⟩)
 (kind:∀b,b<w.heap.size->¬(∀o,tM e k b o)->w'.shape? b=w.shape? b/\∀o,w'.frozen? ⟨b,o,none⟩=w.frozen? ⟨b,o,none⟩)
 (hpub:∀b o,pub b o->w'.cell? ⟨b,o,none⟩=w.cell? ⟨b,o,none⟩)
 (hQ:∀b o,Q b o->w.heap.size<=b/\∃v,w'.cell? ⟨b,o,none⟩=some v)
 (hle:∀c0,e k=some c0->CLe c0 c)(hnew:∀b o,occ c b o->w.heap.size<=b∨tM e k b o)
 (hobj:Ext ⟨e,w,pub⟩ ⟨fun i=>if k=i then some c else e i,w',fun b o=>pub b o∨Q b o⟩->
   bB ⟨fun i=>if k=i then some c else e i,w',fun b o=>pub b o∨Q b o⟩ (fun b o=>w.heap.size<=b∨lY e b o) k obj) :
  After w pub e (aD (putB S [(k,obj)])) w' (fun b o=>pub b o∨Q b o) (fun i=>if k=i then some c else e i):=by
 have blk:∀{id c b o},e id=some c->occ c b o->b<w.heap.size:=by
  intro id c b o hc ho
  cases hg:aD S id with
  |none=>rw[hd id hg]at hc;cases hc
  |some ob=>exact(hs id ob hg).blk (Ω:=⟨e,w,pub⟩) hc ho
 have hx:Ext ⟨e,w,pub⟩ ⟨fun i=>if k=i then some c else e i,w',fun b o=>pub b o∨Q b o⟩:=by
  refine⟨fun id c' hc'=>?_,fun b o h=>Or.inl h,fun b o h=>hpub b o h⟩;by_cases hid:k=id
  ·subst hid;exact⟨c,by simp,hle c' hc'⟩
  ·exact⟨c',by simp only[Hh hid];exact hc',CLe.refl _⟩
 have toL:∀{b o},tM e k b o->lY e b o:=fun⟨c,h1,h2⟩=>⟨k,c,h1,h2⟩;have stay:∀{id c' b o},k≠id->e id=some c'->occ c' b o->¬tM e k b o:=by rintro id c' b o hid hc ho ⟨c0,h1,h2⟩;exact hid (hi k id c0 c' b o h1 hc h2 ho)
 refine⟨os,tape,output,size,fun b hb h=>block b hb fun o ho=>h o (toL ho),fun b o hb h=>cell b o hb fun ho=>h (toL ho),
  fun b hb h=>kind b hb fun ho=>h fun o=>toL (ho o),hx,fun b o h=>?_,fun b o h=>?_,fun id o h=>?_,fun id h=>?_,?_⟩
 ·rcases h with h|h
  ·exact Or.inl h
  ·exact Or.inr (Or.inl (hQ b o h).1)
 ·rcases h with h|h
  ·obtain⟨v,hv⟩:=hp b o h;exact⟨v,(hpub b o h).trans hv⟩
  ·exact(hQ b o h).2
 ·rw[ir,im]at h;by_cases hid:k=id
  ·subst hid;simp only[Ia]at h;cases h;exact hobj hx
  ·simp only[Hh hid]at h;have h0:=hs id o h;refine bB.own_of (bB.keep h0 hx (by simp only[Hh hid]) fun c' hc'=>?_) (fun c' b o hc ho=>?_)
   ·have hc':e id=some c':=hc'
    cases c' with
    |box b off len=>
     intro oo h1 h2;have ho:occ (.box b off len) b oo:=⟨rfl,h1,h2⟩;refine⟨cell b oo (blk hc' ho) (stay hid hc' ho),(kind b (blk hc' ho) fun hall=>stay hid hc' ho (hall oo)).2 oo,fun hp'=>?_⟩;rcases hp' with hp'|hp'
     ·exact hp'
     ·have:=(hQ _ _ hp').1;have:=blk hc' ho;omega
    |tail n base cap=>
     intro b hb;have ho:∀oo,occ (.tail n base cap) b oo:=fun _=>hb;refine⟨block b (blk hc' (ho 0)) fun oo=>stay hid hc' (ho oo),fun oo hp'=>?_⟩;rcases hp' with hp'|hp'
     ·exact hp'
     ·have:=(hQ _ _ hp').1;have:=blk hc' (ho 0);omega
    |bld b g=>
     intro b' hb';have ho:∀oo,occ (.bld b g) b' oo:=fun _=>hb';refine⟨block b' (blk hc' (ho 0)) fun oo=>stay hid hc' (ho oo),fun oo hp'=>?_⟩;rcases hp' with hp'|hp'
     ·exact hp'
     ·have:=(hQ _ _ hp').1;have:=blk hc' (ho 0);omega
   ·simp only[Hh hid]at hc;exact Or.inr ⟨id,c',hc,ho⟩
 ·rw[ir,im]at h;by_cases hid:k=id
  ·simp[hid]at h
  ·simp only[Hh hid]at h⊢;exact hd id h
 ·intro i j ci cj b o hci hcj hoi hoj;simp only at hci hcj;by_cases h1:k=i<;>by_cases h2:k=j
  ·omega
  ·simp only[Hj h1,Hh h2,Xs]at hci hcj;subst hci;rcases hnew b o hoi with h|h
   ·have:=blk hcj hoj;omega
   ·exact absurd h (stay h2 hcj hoj)
  ·simp only[Hh h1,Hj h2,Xs]at hci hcj;subst hcj;rcases hnew b o hoj with h|h
   ·have:=blk hci hoi;omega
   ·exact absurd h (stay h1 hci hoi)
  ·simp only[Hh h1,Hh h2]at hci hcj;exact hi i j ci cj b o hci hcj hoi hoj
theorem After.fresh1{w w':World}{pub:Nat->Nat->Prop}{e:Nat->Option CObj}{S:List (Nat×SObj)}
 (hp:kz w pub)(hs:∀id o,aD S id=some o->bB ⟨e,w,pub⟩ (fun _ _=>True) id o)(hd:∀id,aD S id=none->e id=none)(hi:Inj e)
 {k:Nat}{obj:SObj}{c:CObj}(hb:RowKit.Below w.heap.size w w')(hk:aD S k=none)(hnew:∀b o,occ c b o->w.heap.size<=b)
 (hobj:bB ⟨fun i=>if k=i then some c else e i,w',fun b o=>pub b o∨False⟩ (fun b o=>w.heap.size<=b∨lY e b o) k obj) :
  After w pub e (aD (putB S [(k,obj)])) w' (fun b o=>pub b o∨False) (fun i=>if k=i then some c else e i):=
 After.slot hp hs hd hi (Q:=fun _ _=>False) hb.os hb.tape hb.output hb.size (fun b h _=>hb.block b h) (fun b o h _=>aF (hb.block b h) o)
  (fun b h _=>⟨bU (hb.block b h),fun o=>bF (hb.block b h) o⟩)
  (fun b o h=>by obtain⟨v,hv⟩:=hp b o h;exact aF (hb.block b (bD hv)) o)
  (fun _ _ h=>h.elim) (fun c0 h=>by rw[hd k hk]at h;cases h) (fun b o h=>Or.inl (hnew b o h)) (fun _=>hobj)
theorem VL.one_inv{Ω:Om}{a:AV}{vs:List Value}(h:VL Ω [a] vs):∃v,vs=[v]/\V Ω a v:=by
 obtain⟨hl,h⟩:=h
 match vs,hl,h with
 |[v],_,h=>exact⟨v,rfl,h 0 a v rfl rfl⟩
theorem VL.two_inv{Ω:Om}{a b:AV}{vs:List Value}(h:VL Ω [a,b] vs):∃v u,vs=[v,u]/\V Ω a v/\V Ω b u:=by
 obtain⟨hl,h⟩:=h
 match vs,hl,h with
 |[v,u],_,h=>exact⟨v,u,rfl,h 0 a v rfl rfl,h 1 b u rfl rfl⟩
end Go.AL
end
section
namespace Go.AL
variable [Tabs]
open Go.Proofs Go.Shelf Go.RowKit
variable {P:Program} {ρ:Ren}
structure But(w w':World)(b:Nat)(g:Option Nat):Prop where
 os:w'.os=w.os
 tape:w'.tape=w.tape
 output:w'.output=w.output
 size:w.heap.size<=w'.heap.size
 block:∀k,k<w.heap.size->k≠b->g≠some k->w'.heap[k]?=w.heap[k]?
structure WL(P:Program)(ρ:Ren):Prop where
 mixed:P.follows .mixedOrders=true
 f166:P.funcs[ρ.f 166]?=some (Body.n166 ρ)
 t3:P.underlying (ρ.t 3)=some (TypeDesc.int IntKind.i64)
 a3:∀w,(isAgg (ρ.t 3)).run P w=.ok false w
 z3:∀w,(Go.sizeOf (ρ.t 3)).run P w=.ok 1 w
 v3:∀w,(zeroValue (ρ.t 3)).run P w=.ok (Value.int IntKind.i64 0) w
 t9:P.underlying (ρ.t 9)=some (TypeDesc.string)
 a9:∀w,(isAgg (ρ.t 9)).run P w=.ok false w
 z9:∀w,(Go.sizeOf (ρ.t 9)).run P w=.ok 1 w
 v9:∀w,(zeroValue (ρ.t 9)).run P w=.ok (Value.string {data:=#[]}) w
 t37:P.underlying (ρ.t 37)=some (TypeDesc.slice (ρ.t 5))
 a37:∀w,(isAgg (ρ.t 37)).run P w=.ok false w
 z37:∀w,(Go.sizeOf (ρ.t 37)).run P w=.ok 1 w
 v37:∀w,(zeroValue (ρ.t 37)).run P w=.ok (Value.slice none 0 0) w
 t70:P.underlying (ρ.t 70)=some (TypeDesc.pointer (ρ.t 72))
 a70:∀w,(isAgg (ρ.t 70)).run P w=.ok false w
 z70:∀w,(Go.sizeOf (ρ.t 70)).run P w=.ok 1 w
 v70:∀w,(zeroValue (ρ.t 70)).run P w=.ok (Value.pointer none) w
 t72:P.underlying (ρ.t 72)=some (TypeDesc.struct #[{name:= "addr",type:=ρ.t 70,offset:=0,embedded:=false,tag:= "",pkgPath:= "strings",byteOffset:=0},{name:= "buf",type:=ρ.t 37,offset:=1,embedded:=false,tag:= "",pkgPath:= "strings",byteOffset:=8}])
 a72:∀w,(isAgg (ρ.t 72)).run P w=.ok true w
 z72:∀w,(Go.sizeOf (ρ.t 72)).run P w=.ok 2 w
 v72:∀w,(zeroValue (ρ.t 72)).run P w=.ok (Value.agg #[Value.pointer none,Value.slice none 0 0]) w
end Go.AL
end
section
namespace Go.AL
variable [Tabs]
open Go.Proofs Go.RowKit Go.Maps Go.Sort Go.Shelf
variable {P:Program} {ρ:Ren}
def eG{α:Type}(F:Fence)(n:Nat)(P:Program)(g:Nat)(lb:Array Value)(enc:α->Value)(S:List α->Prop)(N:Nat)(w:World):Prop:=
 ∀(l:Nat)(J:List α->World->Prop)(W:World),Below w.heap.size w W->AbidesFrom W.heap.size J->(∀pre W1,J pre W1->Below w.heap.size w W1)->
  (∀pre x W1,J pre W1->pre.length<N->YieldAt F (n-1) P l #[enc x] W1 fun e W'=>e=.returned (.bool true)/\J (pre++[x]) W'/\KeepsWalks W1 W')->
  J [] W->
  CallsIn F n P g (#[.func (.yield l) #[] #[]]++lb) W fun e W'=>(∃v,e=.returned v)/\∃xs,S xs/\J xs W'
theorem eG.bounded{α:Type}{F:Fence}{n:Nat}{g:Nat}{lb:Array Value}{enc:α->Value}{S:List α->Prop}{N:Nat}{w:World}
 (h:eG F n P g lb enc S N w):eG F n P g lb enc (fun xs=>S xs/\xs.length<=N) N w:=fun l J W hW hJ hB hY h0=>by
 refine(h l (fun xs W'=>J xs W'/\xs.length<=N) W hW (fun s A B row hs hg hr=>⟨hJ s A B row hs.1 hg hr,hs.2⟩) (fun pre W1 h=>hB pre W1 h.1)
  (fun pre x W1 hj hl=>(hY pre x W1 hj.1 hl).mono (fun e w' hr=>⟨hr.1,⟨hr.2.1,by simp;omega⟩,hr.2.2⟩)) ⟨h0,Hz _⟩).mono ?_
 rintro e W' ⟨hv,xs,hS,hJ',hlen⟩;exact⟨hv,xs,⟨hS,hlen⟩,hJ'⟩
set_option maxRecDepth 100000 in
set_option maxHeartbeats 2000000 in
theorem ye(L:SlLaysZ.n11 P ρ)(F:Fence)(n:Nat)(h11:F.fn (ρ.f 11))(hro:F.round=none)(hn:2<=n)(g:Nat)(lb:Array Value)(hFg:F.fn g)(eg:∀args w,(callFunc g args).run P w=.ok (.enter g args) w)
 (S:List (List UInt8)->Prop)(N:Nat)(hN:N<=maxLen)(hNb:N *16<=140737488355328)(w:World)(hseq:eG F (n-1) P g lb encStr S N w) :
  CallsIn F n P (ρ.f 11) #[.slice none 0 0,.func (.func g) #[] lb] w fun e w'=>∃(v:Value)(ss:List (List UInt8)),e=.returned v/\S ss/\w'.ownsRow w.heap.size (ρ.t 26) 1 v ss.length (ss.map encStr)/\(v=.slice none 0 0↔ss=[])/\Below w.heap.size w w':=by
 have h1:1<=n:=by omega
 have mixed:=L.mixed;have t0:=L.t0;have a0:=L.a0;have z0:=L.z0;have v0:=L.v0;have t24:=L.t24;have a24:=L.a24;have z24:=L.z24;have v24:=L.v24;have t26:=L.t26;have a26:=L.a26;have z26:=L.z26;have v26:=L.v26;have t28:=L.t28;have a28:=L.a28;have z28:=L.z28;have v28:=L.v28;have hne:ρ.t 24≠ρ.t 26:=fun e=>by have h:=L.t24;rw[e,L.t26]at h;cases h
 have u0:=HY L.t0;have u24:=HY L.t24;have u26:=HY L.t26;have u28:=HY L.t28;obtain⟨_,_,FG⟩:=L.f11;refine callsIn_of_wp_marks FG rfl h11 ?_ hro;simp only[SlBodyZ.n11_ntmps ρ,IJ,HJ,I5,Nat.reduceAdd,Nat.reduceSub,IL,IM,J6,IS,Hs,Iu]
 gi_wp2
 refine wpIn_rangeFunc ?_;intro fn hfn;rw[hro];obtain⟨W0,hW0⟩:∃W0,w.alloc (.cells #[.slice none 0 0] (ρ.t 24))=W0:=⟨_,rfl⟩;have hs0:W0.heap.size=w.heap.size+1:=by rw[<-hW0];simp
 have hv0:W0.heap[w.heap.size]?=some (.cells #[.slice none 0 0] (ρ.t 24) (0,0)):=by rw[<-hW0];exact World.alloc_heap_new w _
 have hb0:Below w.heap.size w W0:=by rw[<-hW0];exact(Below.refl _ w).alloc (Hu _) _
 rw[hW0];obtain⟨W1,hW1⟩:∃W1,(W0.alloc (.deferred (some []))).alloc (.loop (AnyZ.apRec ρ fn (.func (.func g) #[] lb) w.heap.size W0.heap.size .ready none))=W1:=⟨_,rfl⟩;have hold:∀k,k<W0.heap.size->W1.heap[k]?=W0.heap[k]?:=fun k hk=>by rw[<-hW1];exact(Below.heap_alloc _ _ k (by simp;omega)).trans (Below.heap_alloc _ _ k hk)
 have hb1:Below w.heap.size w W1:=by rw[<-hW1];exact(hb0.alloc hb0.size _).alloc (by have:=hb0.size;simp;omega) _
 have hs1:W1.heap.size=W0.heap.size+2:=by rw[<-hW1];simp
 have hM:AnyZ.ApAt ρ w fn (.func (.func g) #[] lb) w.heap.size (W0.heap.size+1) W0.heap.size [] W1:=
  ⟨⟨_,(hold w.heap.size (by omega)).trans hv0,⟨rfl,.inl ⟨rfl,rfl⟩⟩,by simp⟩,
   by rw[<-hW1];have:=World.alloc_heap_new (W0.alloc (.deferred (some []))) (.loop (AnyZ.apRec ρ fn (.func (.func g) #[] lb) w.heap.size W0.heap.size .ready none));rwa [World.size_alloc]at this,
   by rw[<-hW1];exact(Below.heap_alloc _ _ _ (by simp)).trans (World.alloc_heap_new W0 _),hb1⟩
 refine⟨W0.heap.size+1,[{target:=.collected W0.heap.size,args:=#[]}],W1,{target:=.fn (.func g) lb,args:=#[.func (.yield (W0.heap.size+1)) #[] #[]]},W1,g,
  #[.func (.yield (W0.heap.size+1)) #[] #[]]++lb,W1,?_,?_,?_,?_,fun _=>h1,?_⟩
 ·rw[<-hW1];exact run_enterLoop_outer _ _ _ _ _
 ·simp[resolve,go_sem]
 ·intro f' hf';simp[Target.leads]at hf';subst hf';exact hFg
 ·simp[invoke,go_sem,eg]
 ·refine(hseq (W0.heap.size+1) (AnyZ.ApAt ρ w fn (.func (.func g) #[] lb) w.heap.size (W0.heap.size+1) W0.heap.size) W1 hb1 (AnyZ.ap_abides ρ _ _ _ _ _ _ _ hb1.size) (fun _ _ h=>h.below)
   (fun pre x W hJ hl=>AnyZ.apYield {L with} F (n-1-1) w fn hfn _ w.heap.size (W0.heap.size+1) W0.heap.size (by omega) (by omega) (by omega) (Hu _) (by omega) N hN hNb pre x W hJ hl) hM).mono ?_
  rintro e W2 ⟨⟨v0,rfl⟩,ss,hS,h2⟩;obtain⟨v,hv,hrow,hnil⟩:=h2.box;have hend:=run_endLoop (P:=P) h2.L (by simp[AnyZ.apRec]);obtain⟨W3,hW3⟩:∃W3,W2.putObj (W0.heap.size+1) (.loop {AnyZ.apRec ρ fn (.func (.func g) #[] lb) w.heap.size W0.heap.size .ready none with state:=.exhausted})=W3:=⟨_,rfl⟩;rw[hW3]at hend;have hg3:W2.grownBy W3 (some (W0.heap.size+1)):=by rw[<-hW3];exact grownBy_putObj_a _ _ _
  have hv3:W3.heap[w.heap.size]?=some (.cells #[v] (ρ.t 24) (0,0)):=by rw[<-hW3];exact(World.putObj_heap_other (by omega)).trans hv
  have hK3:W3.heap[W0.heap.size]?=some (.deferred (some [])):=by rw[<-hW3];exact(World.putObj_heap_other (by omega)).trans h2.K
  have hrow3:=hrow.kept hg3 (ownsRow_ne_a hrow h2.L (fun cur e=>by first|cases e|exact hne (Obj.cells.inj e).2.1));have hb3:Below w.heap.size w W3:=h2.below.grown hg3 h2.below.size (fun k e=>by cases e;omega);obtain⟨hc3,hf3⟩:=cell_of_box_a hv3;clear hW3;refine⟨none,W3,hend,?_⟩
  gi_wp2
  rw[<-hs0];refine⟨by simp,.inl ⟨_,_,rfl,run_takeDeferred hK3,?_⟩⟩;exact⟨_,results_tmp rfl _ _ _,v,ss,rfl,hS,hrow3.kept (grownBy_putObj_a _ _ _) (ownsRow_ne_a hrow3 hK3 (fun cur e=>by first|cases e|exact hne (Obj.cells.inj e).2.1)),hnil,hb3.grown (grownBy_putObj_a _ _ _) hb3.size (fun k e=>by cases e;omega)⟩
set_option maxRecDepth 100000 in
set_option maxHeartbeats 2000000 in
theorem CW(L:SlLaysZ.n8 P ρ)(F:Fence)(n:Nat)(h8:F.fn (ρ.f 8))(h11:F.fn (ρ.f 11))(hro:F.round=none)(hn:3<=n)(g:Nat)(lb:Array Value)(hFg:F.fn g)(eg:∀args w,(callFunc g args).run P w=.ok (.enter g args) w)
 (S:List (List UInt8)->Prop)(N:Nat)(hN:N<=maxLen)(hNb:N *16<=140737488355328)(w:World)(hseq:eG F (n-1-1) P g lb encStr S N w) :
  CallsIn F n P (ρ.f 8) #[.func (.func g) #[] lb] w fun e w'=>∃(v:Value)(ss:List (List UInt8)),e=.returned v/\S ss/\w'.ownsRow w.heap.size (ρ.t 26) 1 v ss.length (ss.map encStr)/\(v=.slice none 0 0↔ss=[])/\Below w.heap.size w w':=by
 have h1:1<=n:=by omega
 have e11:∀args w,(callFunc (ρ.f 11) args).run P w=.ok (.enter (ρ.f 11) args) w:=L.f11.enters rfl;have mixed:=L.mixed;have t0:=L.t0;have a0:=L.a0;have z0:=L.z0;have v0:=L.v0;have t24:=L.t24;have a24:=L.a24;have z24:=L.z24;have v24:=L.v24;have t26:=L.t26;have a26:=L.a26;have z26:=L.z26;have v26:=L.v26;have t28:=L.t28;have a28:=L.a28;have z28:=L.z28;have v28:=L.v28;have u0:=HY L.t0;have u24:=HY L.t24;have u26:=HY L.t26;have u28:=HY L.t28;obtain⟨_,_,FG⟩:=L.f8;refine callsIn_of_wp FG rfl h8 ?_ hro;simp only[SlBodyZ.n8_ntmps ρ,IJ,HJ,I5,Nat.reduceAdd,Nat.reduceSub,IL,IM,J6,IS,Hs,Iu]
 gi_wp2_with (gi_at_fn (ρ.f 11);refine(ye {L with} F (n-1) h11 hro (by omega) g lb hFg eg S N hN hNb _ hseq).mono ?_;rintro e w' ⟨v,ss,rfl,hS,hrow,hnil,hb⟩)
 go_ret
 exact⟨v,ss,rfl,hS,hrow,hnil,hb⟩
set_option maxRecDepth 100000 in
set_option maxHeartbeats 2000000 in
theorem F2(L:SlLaysZ.n6 P ρ)(F:Fence)(n:Nat)(h6:F.fn (ρ.f 6))(h8:F.fn (ρ.f 8))(h9:F.fn (ρ.f 9))(h11:F.fn (ρ.f 11))(hro:F.round=none)(hn:4<=n)(hsort:AnyZ.SortsIn P ρ F (n-1))(e9:∀args w,(callFunc (ρ.f 9) args).run P w=.ok (.enter (ρ.f 9) args) w)(g:Nat)(lb:Array Value)(hFg:F.fn g)(eg:∀args w,(callFunc g args).run P w=.ok (.enter g args) w)
 (S:List (List UInt8)->Prop)(N:Nat)(hN:N<=maxLen)(hNb:N *16<=140737488355328)(w:World)(hseq:eG F (n-1-1-1) P g lb encStr S N w) :
  CallsIn F n P (ρ.f 6) #[.func (.func g) #[] lb] w fun e w'=>∃(v:Value)(ss:List (List UInt8)),e=.returned v/\S ss/\
   w'.ownsRow w.heap.size (ρ.t 26) 1 v ss.length ((ss.mergeSort (fun x y=>decide (x<=y))).map encStr)/\(v=.slice none 0 0↔ss=[])/\Below w.heap.size w w':=by
 have h1:1<=n:=by omega
 have e8:∀args w,(callFunc (ρ.f 8) args).run P w=.ok (.enter (ρ.f 8) args) w:=L.f8.enters rfl;have mixed:=L.mixed;have t0:=L.t0;have a0:=L.a0;have z0:=L.z0;have v0:=L.v0;have t24:=L.t24;have a24:=L.a24;have z24:=L.z24;have v24:=L.v24;have t26:=L.t26;have a26:=L.a26;have z26:=L.z26;have v26:=L.v26;have t28:=L.t28;have a28:=L.a28;have z28:=L.z28;have v28:=L.v28;have u0:=HY L.t0;have u24:=HY L.t24;have u26:=HY L.t26;have u28:=HY L.t28;obtain⟨_,_,FG⟩:=L.f6;refine callsIn_of_wp FG rfl h6 ?_ hro;simp only[SlBodyZ.n6_ntmps ρ,IJ,HJ,I5,Nat.reduceAdd,Nat.reduceSub,IL,IM,J6,IS,Hs,Iu]
 gi_wp2_with (gi_at_fn (ρ.f 8);refine(CW {L with} F (n-1) h8 h11 hro (by omega) g lb hFg eg _ N hN hNb _ (eG.bounded hseq)).mono ?_;rintro e W ⟨v,ss,rfl,⟨hS,hlen⟩,hrow,hnil,hb⟩)
 rcases hrow.2 with⟨rfl,hz⟩|⟨gb,cap,cur,rfl,hbase,hgb,r1,r2,r3,r4⟩
 ·
  have hss:ss=[]:=Hv hz;subst hss
  gi_wp2_with (gi_at_fn (ρ.f 9);refine(hsort.2 none 0 W).mono ?_;rintro e w' ⟨rfl,rfl⟩)
  go_ret
  exact⟨.slice none 0 0,[],rfl,hS,by simpa using hrow,by simp,hb⟩
 ·have hH:Go.Sort.Holds encStr W gb 0 ss.toArray:=holds_of_block hgb (by simpa using r4);have hgl:gb<W.heap.size:=(Array.getElem?_eq_some_iff.1 hgb).1;have hsz:ss.length<4611686018427387904:=by omega
  have cS:=hsort.1 gb 0 cap ss W hH hgl hsz
  gi_wp2_with (gi_at_fn (ρ.f 9);refine cS.mono ?_;rintro e w' ⟨rfl,nn,os,rfl⟩)
  go_ret
  exact⟨_,ss,rfl,hS,ownsRow_sorted (by simp) hbase hgb r1 r2 r3,hnil,hb.grown (grownBy_sorted _) hb.size (fun j hj=>by cases hj;exact hbase)⟩
theorem AP{f:Nat}{args:List AV}{S:List (Nat×SObj)}{ob:Option Prop}{T:TypeId}{ss:List Str}(hk:aD S 0=none)
 (hC:∀w pub e vs,kz w pub->VL ⟨e,w,pub⟩ args vs->(∀id o,aD S id=some o->bB ⟨e,w,pub⟩ (fun _ _=>True) id o)->
   (∀s∈ss,s.length<=cn)/\Calls P f vs.toArray w fun en w'=>∃v,en=.returned v/\w'.ownsRow w.heap.size T 1 v ss.length (ss.map encStr)/\Below w.heap.size w w') :
  ay P f args S ⟨ob,none,.arr 0 ss.length 1,[(0,.box (.row .str ss))]⟩:=by
 intro w pub e vs hp ht hv hs hd hi;obtain⟨hlen,hC⟩:=hC w pub e vs hp hv hs;refine hC.mono ?_;rintro en w' ⟨v,rfl,⟨hl,hrow⟩,hb⟩;have hpl:(aa (.row .str ss)).length=ss.length:=by have:=bT .str ss;rw[show ad .str=1 from rfl,JS]at this;exact this
 rcases hrow with⟨rfl,hz⟩|⟨g,cap,cur,rfl,hbase,hg,h1,h2,h3,h4⟩
 ·have hss:ss=[]:=Hv hz;subst hss;refine⟨_,_,fun _ _ _ h=>(by cases h),?_,After.fresh1 (c:=.box w.heap.size 0 0) hp hs hd hi hb hk (fun b o ho=>by obtain⟨_,_,h⟩:=ho;omega) ⟨w.heap.size,0,by simp;rfl,fun j c' hc=>?_⟩⟩
  ·exact .arr 0 0 1 w.heap.size 0 0 none (by simp) (by omega) (by omega) (by unfold cn;omega) (.inr ⟨rfl,rfl,rfl⟩)
  ·simp[aa,bp]at hc
 ·refine⟨_,_,fun _ _ _ h=>(by cases h),?_,After.fresh1 (c:=.box g 0 (aa (.row .str ss)).length) hp hs hd hi hb hk (fun b o ho=>by obtain⟨rfl,_,_⟩:=ho;exact hbase) ⟨g,0,by simp,fun j c' hc=>?_⟩⟩
  ·exact .arr 0 ss.length 1 g (aa (.row .str ss)).length cap (some ⟨g,0,none⟩) (by simp) (by omega) h1 (by unfold maxLen at h2;unfold cn;omega) (.inl rfl)
  ·have hj:j<ss.length:=by
    rw[<-hpl];rcases Hw j (aa (.row .str ss)).length with k|k
    ·exact k
    ·rw[Hn k]at hc;cases hc
   have hcx:=il .str ss j ss[j] 0 (.str ss[j]) (by simp[hj]) rfl;have hc0:(aa (.row .str ss))[j]?=some (.str ss[j]):=by rw[show j *ad .str+0=j by rw[show ad .str=1 from rfl];omega]at hcx;exact hcx
   rw[hc0]at hc;cases hc
   have hcur:cur[j]?=some (encStr ss[j]):=by
    have:(cur.toList.take (ss.length *1))[j]?=some (encStr ss[j]):=by rw[h4];simp[hj]
    rw[HL]at this;split at this
    ·simpa using this
    ·cases this
   refine⟨.inl hbase,fun h=>?_,eT hg _,encStr ss[j],by rw[II,aN hg];exact hcur,.str _ (hlen _ (List.getElem_mem hj))⟩;rcases h with h|h
   ·obtain⟨v,hv⟩:=hp _ _ h;have:=bD hv;omega
   ·exact h
def ix(l:List Str):List Str:=l.mergeSort fun x y=>decide (x<=y)
theorem mY(l:List Str):(ix l).length=l.length:=List.length_mergeSort _
theorem AQ{l:List Str}{s:Str}:s∈ix l↔s∈l:=List.mem_mergeSort
structure SortL(P:Program)(ρ:Ren):Prop where
 lay:SlLaysZ.n6 P ρ
 sorts:AnyZ.SortsIn P ρ Fence.wide 4
 e9:∀args w,(callFunc (ρ.f 9) args).run P w=.ok (.enter (ρ.f 9) args) w
theorem tN(L:SortL P ρ){g:Nat}{lb:Array Value}(eg:∀args w,(callFunc g args).run P w=.ok (.enter g args) w){ks:List Str}(hN:ks.length *16<=140737488355328){w:World}
 (hseq:eG Fence.wide 2 P g lb encStr (fun ss=>ss.Perm ks) ks.length w) :
  Calls P (ρ.f 6) #[.func (.func g) #[] lb] w fun en w'=>∃v,en=.returned v/\w'.ownsRow w.heap.size (ρ.t 26) 1 v (ix ks).length ((ix ks).map encStr)/\Below w.heap.size w w':=by
 refine callsIn_wide.1 ((F2 L.lay Fence.wide 5 trivial trivial trivial trivial rfl (by omega) L.sorts L.e9 g lb trivial eg _ ks.length (by unfold maxLen;omega) hN w hseq).mono ?_);rintro en w' ⟨v,ss,rfl,hS,hrow,_,hb⟩;have e:ss.mergeSort (fun x y=>decide (x<=y))=ix ks:=mergeSort_of_perm hS;have hl:ss.length=(ix ks).length:=by rw[mY];exact hS.length_eq
 rw[e,hl]at hrow;exact⟨v,rfl,hrow,hb⟩
theorem V.fn_inv{Ω:Om}{f:Nat}{cs:List AV}{v:Value}(h:V Ω (.fn f cs) v):∃vs,v=.func (.func f) #[] vs.toArray/\VL Ω cs vs:=by
 cases h with|fn _ _ vs h1 h2=>exact⟨vs,rfl,h1,h2⟩
def Strs(n₀:Nat)(W:World)(sv:Value)(zs:List Str):Prop:=
 ((∃a cap,sv=.slice a 0 cap)/\zs=[])∨∃b off cap,sv=.slice (some ⟨b,off,none⟩) zs.length cap/\b<n₀/\∀j,j<zs.length->W.cell? ⟨b,off+j,none⟩=some (encStr (zs[j]?.getD []))
def rH{α:Type}(f:Nat->α)(k:Nat):List α:=(List.range k).map f
theorem AR{α:Type}(f:Nat->α)(k:Nat):rH f (k+1)=rH f k++[f k]:=by simp[rH,List.range_succ]
theorem vq{α:Type}(f:Nat->α)(k:Nat):(rH f k).length=k:=by simp[rH]
theorem CX(zs:List Str):rH (fun j=>zs[j]?.getD []) zs.length=zs:=by
 apply List.ext_getElem
 ·simp[rH]
 ·intro i h1 h2;simp[rH,h2]
def tO(P:Program)(g:Nat):Prop:=
 ∀(w:World)(b o:Nat)(sv:Value)(zs:List Str),zs.length<=maxLen->w.cell? ⟨b,o,none⟩=some sv->Strs w.heap.size w sv zs->
  eG Fence.wide 2 P g #[.pointer (some ⟨b,o,none⟩)] encStr (fun ss=>ss=zs) zs.length w
theorem V.dropTok{Ω:Om}{τ:Ty}{xs:List (den τ)}{o:Option Nat}{v:Value}(h:V Ω (.lst τ xs o) v):V Ω (.lst τ xs none) v:=by
 cases h with|lstNil=>exact .lstNil τ none (fun _ h=>by cases h)|lstVoid _ a=>exact .lstVoid τ a|lst _ _ _ b off cap vals h1 h2 h3 h4 h5=>exact .lst τ xs none b off cap vals h1 h2 (fun _ h=>by cases h) h4 h5
theorem mf(L:SortL P ρ){g:Nat}(eg:∀args w,(callFunc g args).run P w=.ok (.enter g args) w)(K:tO P g)(zs:List Str)(hN:zs.length *16<=140737488355328)(tok:Option Nat) :
  ay P (ρ.f 6) [.fn g [.ptr 900 0]] [(900,.box (.lst .str zs tok))] ⟨some (zs.length *16<=140737488355328),none,.arr 0 (ix zs).length 1,[(0,.box (.row .str (ix zs)))]⟩:=by
 refine AP (T:=ρ.t 26) rfl fun w pub e vs hp hv hs=>?_;obtain⟨v1,rfl,h1⟩:=VL.one_inv hv;obtain⟨us,rfl,hus⟩:=h1.fn_inv;obtain⟨u,rfl,hu⟩:=VL.one_inv hus;obtain⟨b,o,len,rfl,he⟩:=hu.ptr_inv;obtain⟨b',o',he',hbox⟩:=hs 900 _ rfl;rw[he]at he';cases he';obtain⟨_,_,_,v,hcell,hvm⟩:=hbox 0 (.lst .str zs tok) rfl
 have hst:Strs w.heap.size w v zs:=by
  cases hvm with
  |lstNil=>exact .inl ⟨⟨_,_,rfl⟩,rfl⟩
  |lstVoid=>exact .inl ⟨⟨_,_,rfl⟩,rfl⟩
  |lst _ _ _ g0 off cap vals h1 h2 h3 h4 h5=>
   rcases Jk zs.length with hz|hz
   ·have:=Hv hz;subst this;exact .inl ⟨⟨_,_,rfl⟩,rfl⟩
   ·have at_:∀j (hj:j<zs.length),w.cell? ⟨g0,off+j,none⟩=some (encStr zs[j]):=by intro j hj;have q:=h4 j zs[j] (by simp[hj]) 0 (.str zs[j]) rfl;have r:=h5 j zs[j] (by simp[hj]) 0 (.str zs[j]) rfl;obtain⟨r1,_⟩:=r.str_inv;have:=q.2;rw[r1]at this;simpa[ad]using this
    exact .inr ⟨g0,off,cap,rfl,bD (at_ 0 hz),fun j hj=>by rw[at_ j hj];simp[hj]⟩
 refine⟨fun s hs=>?_,?_⟩
 ·have hw:Wf (.lst .str) zs:=⟨_,_,V.dropTok hvm⟩;exact(hw.mem (AQ.1 hs)).str
 have hsq:=K w b (o+0) v zs (by unfold maxLen;omega) hcell hst;refine tN L eg hN (w:=w) ?_;intro l J W a1 a2 a3 a4 a5;refine(hsq l J W a1 a2 a3 a4 a5).mono ?_;rintro e W' ⟨h1,xs,rfl,h3⟩;exact⟨h1,xs,.refl _,h3⟩
end Go.AL
end
section
namespace Go.AL
variable [Tabs]
open Go.Proofs Go.RowKit Go.Maps Go.Sort Go.Shelf
variable {P:Program} {ρ:Ren}
theorem After.row{w w':World}{pub:Nat->Nat->Prop}{e:Nat->Option CObj}{S:List (Nat×SObj)}
 (hp:kz w pub)(hs:∀id o,aD S id=some o->bB ⟨e,w,pub⟩ (fun _ _=>True) id o)(hd:∀id,aD S id=none->e id=none)(hi:Inj e)
 {k b:Nat}{c c':AV}(hk:aD S k=some (.box c))(he:e k=some (.box b 0 (aa c).length))(hl:(aa c').length=(aa c).length)
 (os:w'.os=w.os)(tape:w'.tape=w.tape)(output:w'.output=w.output)(size:w.heap.size<=w'.heap.size)
 (hblock:∀b',b'<w.heap.size->b'≠b∨(aa c).length=0->w'.heap[b']?=w.heap[b']?)
 (hcell:∀j,(aa c).length<=j->w'.cell? ⟨b,j,none⟩=w.cell? ⟨b,j,none⟩)
 (hkind:w'.shape? b=w.shape? b/\∀o,w'.frozen? ⟨b,o,none⟩=w.frozen? ⟨b,o,none⟩)
 (hval:∀(j:Nat)(c0:AV),(aa c')[j]?=some c0->∃v,w'.cell? ⟨b,j,none⟩=some v/\∀Ω',V Ω' c0 v) :
  After w pub e (aD (putB S [(k,.box c')])) w' (fun b o=>pub b o∨False) (fun i=>if k=i then some (.box b 0 (aa c).length)else e i):=by
 obtain⟨b0,off0,he0,hbox⟩:=hs k _ hk;have he0:e k=some (.box b0 off0 (aa c).length):=he0;rw[he]at he0;simp only[Xs,CObj.box.injEq]at he0;obtain⟨rfl,rfl,_⟩:=he0;have inE:∀{o},o<(aa c).length->tM e k b o:=fun h=>⟨_,he,rfl,by omega,by omega⟩
 have outE:∀{b' o},¬tM e k b' o->b'≠b∨(aa c).length<=o:=by
  intro b' o h;rcases Hw o (aa c).length with h'|h'
  ·exact .inl fun e=>h (e ▸ inE h')
  ·exact .inr h'
 have cell:∀b' o,b'<w.heap.size->¬tM e k b' o->w'.cell? ⟨b',o,none⟩=w.cell? ⟨b',o,none⟩:=by
  intro b' o h1 h2;by_cases hb:b'=b
  ·subst hb;rcases outE h2 with h|h
   ·exact absurd rfl h
   ·exact hcell o h
  ·exact aF (hblock b' h1 (.inl hb)) o
 refine After.slot hp hs hd hi (Q:=fun _ _=>False) os tape output size (fun b' h1 h2=>?_) cell (fun b' h1 h2=>?_) (fun b' o h=>?_) (fun _ _ h=>h.elim) (fun c0 h=>?_) (fun b' o h=>?_) (fun _=>?_)
 ·refine hblock b' h1 ?_;rcases outE (h2 0)with h|h
  ·exact .inl h
  ·exact .inr (by omega)
 ·by_cases hb:b'=b
  ·subst hb;exact hkind
  ·have:=hblock b' h1 (.inl hb);exact⟨bU this,fun o=>bF this o⟩
 ·obtain⟨v,hv⟩:=hp b' o h;refine cell b' o (bD hv) ?_;rintro⟨c1,h1,h2⟩;rw[he]at h1;cases h1;obtain⟨rfl,_,h3⟩:=h2;have hj:o<(aa c).length:=by omega
  have:=(hbox o _ (Hi hj)).2.1;exact this (by simpa using h)
 ·rw[he]at h;cases h;exact⟨rfl,rfl,rfl⟩
 ·exact .inr ⟨_,he,h⟩
 ·refine⟨b,0,by simp[hl],fun j c0 hc=>?_⟩
  have hj:j<(aa c).length:=by
   rw[<-hl];rcases Hw j (aa c').length with q|q
   ·exact q
   ·rw[Hn q]at hc;cases hc
  obtain⟨_,q2,q3,_⟩:=hbox j _ (Hi hj);obtain⟨v,hv,hV⟩:=hval j c0 hc;rw[II]at q2 q3⊢;refine⟨.inr ⟨k,_,he,rfl,by omega,by omega⟩,fun h=>?_,?_,v,hv,hV _⟩
  ·rcases h with h|h
   ·exact q2 h
   ·exact h
  ·exact(hkind.2 j).trans q3
theorem vr{α:Type}[Inhabited α](enc:α->Value)(w:World)(b:Nat)(d:Array α)(k:Nat)(h:k≠b∨d.size=0):(putRow enc w b 0 d).heap[k]?=w.heap[k]?:=by
 unfold putRow mapBlock;simp only[J4];by_cases hk:b=k
 ·subst hk;rcases h with h|h
  ·exact absurd rfl h
  ·simp only[Ia]
   cases hw:w.heap[b]? with
   |none=>rfl
   |some o=>
    simp only[Ir,Xs]
    cases o with
    |cells c e f=>
     simp only[onCells,Obj.cells.injEq,Ij,Ii];apply Array.ext
     ·simp[putCells]
     ·intro i h1 h2;simp[putCells,h]
    |_=>rfl
 ·rw[Hh hk]
theorem tP{α:Type}[Inhabited α](enc:α->Value)(w:World)(b:Nat)(d:Array α):(putRow enc w b 0 d).shape? b=w.shape? b:=by
 unfold putRow mapBlock World.shape?;simp only[J4,Ia]
 cases w.heap[b]? with
 |none=>rfl
 |some o=>cases o<;>simp[onCells,putCells]
theorem fT{τ:Ty}(hw:ad τ=1)(xs:List (den τ)):(aa (.row τ xs)).length=xs.length:=by have:=bT τ xs;rw[hw,JS]at this;exact this
theorem kJ{τ:Ty}(hw:ad τ=1)(xs:List (den τ))(j:Nat)(x:den τ)(c:AV)(hx:xs[j]?=some x)(hc:(cells τ x)[0]?=some c):(aa (.row τ xs))[j]?=some c:=by have:=il τ xs j x 0 c hx hc;rw[hw,JS,IW]at this;exact this
theorem strRow{Ω:Om}{own:Nat->Nat->Prop}{id b:Nat}{ss:List Str}(h:bB Ω own id (.box (.row .str ss))){len:Nat}(he:Ω.e id=some (.box b 0 len)) :
  len=ss.length/\Go.Sort.Holds encStr Ω.w b 0 ss.toArray/\∀s∈ss,s.length<=cn:=by
 obtain⟨b',off,h1,h2⟩:=h;rw[he]at h1;simp only[Xs,CObj.box.injEq]at h1;obtain⟨rfl,rfl,h1⟩:=h1;have at_:∀j (hj:j<ss.length),Ω.w.frozen? ⟨b,0+j,none⟩=false/\Ω.w.cell? ⟨b,0+j,none⟩=some (encStr ss[j])/\ss[j].length<=cn:=by intro j hj;obtain⟨_,_,q3,v,q4,q5⟩:=h2 j _ (kJ (τ:=.str) rfl ss j ss[j] (.str ss[j]) (by simp[hj]) rfl);obtain⟨rfl,q6⟩:=q5.str_inv;exact⟨q3,q4,q6⟩
 refine⟨by rw[h1];exact fT (τ:=.str) rfl ss,fun j hj=>?_,fun s hs=>?_⟩
 ·have hj':j<ss.length:=by simpa using hj
  obtain⟨q1,q2,_⟩:=at_ j hj';exact⟨by rw[q2];simp[hj'],q1⟩
 ·obtain⟨j,hj,rfl⟩:=List.getElem_of_mem hs;exact(at_ j hj).2.2
theorem vt{ss:List Str}{s:Str}(h:s∈Lib.compact ss):s∈ss:=by unfold Lib.compact Lib.compactUpTo at h;obtain⟨j,hj,rfl⟩:=I7.1 h;have:=(Iy.1 hj).1;rw[JL]at this;simp[this]
theorem After.strRow{w:World}{pub:Nat->Nat->Prop}{e:Nat->Option CObj}{S:List (Nat×SObj)}
 (hp:kz w pub)(hs:∀id o,aD S id=some o->bB ⟨e,w,pub⟩ (fun _ _=>True) id o)(hd:∀id,aD S id=none->e id=none)(hi:Inj e)
 {k b len q:Nat}{ss ts:List Str}{gs:Array Obj}(hk:aD S k=some (.box (.row .str ss)))(he:e k=some (.box b 0 len))(hl:ts.length=ss.length)(hb:b<w.heap.size)(ht:∀s∈ts,s.length<=cn) :
  After w pub e (aD (putB S [(k,.box (.row .str ts))])) (grow (putRow encStr (Sort.ahead w q) b 0 ts.toArray) gs) (fun b o=>pub b o∨False) (fun i=>if k=i then some (.box b 0 (aa (.row .str ss)).length)else e i):=by
 obtain⟨rfl,hH,_⟩:=AL.strRow (hs k _ hk) he;have hsz:(putRow encStr (Sort.ahead w q) b 0 ts.toArray).heap.size=w.heap.size:=by simp
 have old:∀j,j<w.heap.size->(grow (putRow encStr (Sort.ahead w q) b 0 ts.toArray) gs).heap[j]?=(putRow encStr (Sort.ahead w q) b 0 ts.toArray).heap[j]?:=by intro j hj;unfold grow;simp only;rw[Array.getElem?_append_left (by rw[hsz];exact hj)]
 have hpl:=fT (τ:=.str) rfl ss;refine After.row hp hs hd hi hk (by rw[he,hpl]) (by rw[fT rfl,fT rfl,hl]) rfl rfl rfl (by simp[grow]) (fun b' h1 h2=>?_) (fun j hj=>?_) ⟨?_,fun o=>?_⟩ (fun j c0 hc=>?_)
 ·rw[old b' h1,vr encStr (Sort.ahead w q) b ts.toArray b' (by rw[hpl]at h2;simpa[hl]using h2)];rfl
 ·rw[aF (old b hb) j,cell?_putRow_other encStr (Sort.ahead w q) b 0 ts.toArray ⟨b,j,none⟩ (.inr (.inr (by rw[hpl]at hj;simp;omega)))];rfl
 ·rw[bU (old b hb),tP];rfl
 ·rw[bF (old b hb) o,frozen?_putRow];rfl
 ·have hj:j<ts.length:=by
   rw[<-fT (τ:=.str) rfl ts];rcases Hw j (aa (.row .str ts)).length with q|q
   ·exact q
   ·rw[Hn q]at hc;cases hc
  rw[kJ (τ:=.str) rfl ts j ts[j] (.str ts[j]) (by simp[hj]) rfl]at hc;cases hc;refine⟨encStr ts[j],?_,fun Ω'=>.str _ (ht _ (List.getElem_mem hj))⟩;rw[aF (old b hb) j];have:=cell?_putRow encStr (Sort.ahead w q) b 0 ss.toArray ts.toArray hH (by simp[hl]) j (by simpa using hj);rw[II]at this;rw[this];simp[hj]
theorem rI(L:Lays.n194 P ρ)(n:Nat)(ss:List Str)(hn:n=ss.length) :
  ay P (ρ.f 194) [.arr 900 n 1] [(900,.box (.row .str ss))]
   ⟨some (n=ss.length),none,.arr 900 (Lib.compact ss).length 1,[(900,.box (.row .str (Lib.compact ss++List.replicate (ss.length-(Lib.compact ss).length) [])))]⟩:=by
 subst hn;intro w pub e vs hp ht hv hs hd hi;obtain⟨v,rfl,h1⟩:=VL.one_inv hv;have hcl:(Lib.compact ss).length<=ss.length:=by unfold Lib.compact Lib.compactUpTo;rw[Is];exact I2 (List.length_filter_le _ _) (by simp)
 cases h1 with
 |arr _ _ _ b len cap a he h2 h3 h4 h5=>
  have he:e 900=some (.box b 0 len):=he;obtain⟨rfl,hH,hlen⟩:=strRow (hs 900 _ rfl) he;have hpl:=fT (τ:=.str) rfl ss;rcases h5 with rfl|⟨rfl,hz,rfl⟩
  ·by_cases h0:ss=[]
   ·subst h0;refine(Any.slices_Compact_string_empty L (some ⟨b,0,none⟩) cap w).mono ?_;rintro en w' ⟨rfl,rfl⟩;refine⟨_,_,fun _ _ _ h=>(by cases h),?_,After.row (c':=.row .str []) hp hs hd hi rfl (show e 900=some (.box b 0 (aa (.row .str [])).length)from he) rfl rfl rfl rfl (Hu _) (fun _ _ _=>rfl) (fun _ _=>rfl) ⟨rfl,fun _=>rfl⟩ (fun j c0 hc=>by simp[aa,bp]at hc)⟩;exact .arr 900 0 1 b (aa (.row .str [])).length cap _ (by simp) (by omega) (by omega) h4 (.inl rfl)
   ·have hpos:0<ss.length:=Ip.2 h0;have hb:b<w.heap.size:=bD (hH 0 (by simpa using hpos)).1;refine(Any.slices_Compact_string L b 0 cap ss w hH (by unfold cn at h4;omega) h3).mono ?_;rintro en w' ⟨rfl,q,rfl⟩
    have hA:=After.strRow (q:=q) (gs:=#[]) (ts:=Lib.compact ss++List.replicate (ss.length-(Lib.compact ss).length) []) hp hs hd hi rfl he (by simp;omega) hb (fun s hs'=>by
     rcases HX.1 hs' with h|h
     ·exact hlen s (vt h)
     ·obtain⟨_,rfl⟩:=List.mem_replicate.1 h;exact Hz _)
    rw[grow_empty]at hA;exact⟨_,_,fun _ _ _ h=>(by cases h),.arr 900 (Lib.compact ss).length 1 b (aa (.row .str ss)).length cap _ (by simp) (by rw[hpl];omega) (by omega) h4 (.inl rfl),hA⟩
  ·have h0:ss=[]:=Hv hz;subst h0;refine(Any.slices_Compact_string_empty L none 0 w).mono ?_;rintro en w' ⟨rfl,rfl⟩;refine⟨_,_,fun _ _ _ h=>(by cases h),?_,After.row (c':=.row .str []) hp hs hd hi rfl (show e 900=some (.box b 0 (aa (.row .str [])).length)from he) rfl rfl rfl rfl (Hu _) (fun _ _ _=>rfl) (fun _ _=>rfl) ⟨rfl,fun _=>rfl⟩ (fun j c0 hc=>by simp[aa,bp]at hc)⟩;exact .arr 900 0 1 b (aa (.row .str [])).length 0 _ (by simp) (by omega) (by omega) h4 (.inr ⟨rfl,rfl,rfl⟩)
end Go.AL
end
section
namespace Go.AL
variable [Tabs]
open Go.Proofs Go.Shelf
variable {P:Program} {ρ:Ren}
def mg(gv:Nat):Pat:=fun args S=>
 match args,S with
 |[.fn g [.ptr 900 0]],[(900,.box (.lst .str zs _))]=>
  if g=gv then some ⟨some (zs.length *16<=140737488355328),none,.arr 0 (ix zs).length 1,[(0,.box (.row .str (ix zs)))]⟩else none
 |_,_=>none
theorem rJ{f gv:Nat}(L:SortL P ρ)(hf:ρ.f 6=f)(eg:∀args w,(callFunc gv args).run P w=.ok (.enter gv args) w)(V:tO P gv)(he:az P f):ah P f (mg gv):=by
 subst hf;intro args S A h hob hkeys;unfold mg at h;split at h
 ·split at h
  ·rename_i e;subst e;cases h;exact⟨he,mf L eg V _ (hob _ rfl) _⟩
  ·cases h
 ·cases h
def mh:Pat:=fun args S=>
 match args,S with
 |[.arr 900 n 1],[(900,.box (.row .str ss))]=>
  some ⟨some (n=ss.length),none,.arr 900 (Lib.compact ss).length 1,[(900,.box (.row .str (Lib.compact ss++List.replicate (ss.length-(Lib.compact ss).length) [])))]⟩
 |_,_=>none
theorem rK{f:Nat}(L:Lays.n194 P ρ)(hf:ρ.f 194=f)(he:az P f):ah P f mh:=by
 subst hf;intro args S A h hob hkeys;unfold mh at h;split at h
 ·cases h;exact⟨he,rI L _ _ (hob _ rfl)⟩
 ·cases h
end Go.AL
end
section
namespace Go.AL
open Go.Lib
theorem vu{l:List Str}(hs:l.Pairwise (·<= ·)):(Lib.compact l).length=l.length↔l.Nodup:=by
 unfold Lib.compact Lib.compactUpTo;rw[Is];have e:((List.range l.length).filter (keeps l.toArray)).length=l.length↔∀j,j<l.length->keeps l.toArray j=true:=by have h:=List.length_filter_eq_length_iff (p:=keeps l.toArray) (l:=List.range l.length);rw[List.length_range]at h;rw[h];simp
 rw[e,List.nodup_iff_pairwise_ne,List.pairwise_iff_getElem];rw[List.pairwise_iff_getElem]at hs;constructor
 ·intro h i j hi hj hij eq;have hk:=h j hj;have hj1:j-1<l.length:=by omega
  have h1:l[i]<=l[j-1]:=by
   rcases Hw i (j-1)with q|q
   ·exact hs i (j-1) hi hj1 q
   ·have:i=j-1:=by omega
    subst this;exact List.le_refl _
  have h2:l[j-1]<=l[j]:=hs (j-1) j hj1 hj (by omega);have h3:l[j-1]=l[j]:=List.le_antisymm h2 (by rw[<-eq];exact h1);unfold keeps at hk;simp[hj,hj1,h3]at hk;omega
 ·intro h j hj;unfold keeps;rcases Jk j with q|q
  ·simp[q]
  ·have hj1:j-1<l.length:=by omega
   have:=h (j-1) j hj1 hj (by omega);simp[hj,hj1];exact .inr fun e=>this e.symm
theorem tQ(l:List Str):(ix l).Pairwise (·<= ·):=by
 have tr:∀a b c:Str,decide (a<=b)=true->decide (b<=c)=true->decide (a<=c)=true:=fun a b c h1 h2=>by simp only[Hq]at *;exact List.le_trans h1 h2
 have to:∀a b:Str,(decide (a<=b)||decide (b<=a))=true:=fun a b=>by simp only[Io,Hq];exact List.le_total _ _
 exact(List.pairwise_mergeSort tr to l).imp fun h=>by simpa using h
theorem vv{l:List Str}:(ix l).Nodup↔l.Nodup:=(List.mergeSort_perm l _).nodup_iff
theorem kK(l:List Str):(Lib.compact (ix l)).length=l.length↔l.Nodup:=by
 letI:=tq
 rw[<-mY l,vu (tQ l),vv]
end Go.AL
end
section
namespace Go.Pd
open Go.AL
def cq(c:Int):Bool:=decide (97<=c)&&decide (c<=122)
def cy(c:Int):Bool:=decide (65<=c)&&decide (c<=90)
def de(c:Int):Bool:=decide (48<=c)&&decide (c<=57)
def bK(c:Int):Bool:=cq c||cy c||de c||decide (c=95)
def bI(b:UInt8):Int:=(b.toNat:Int)
def dD(first:Int->Bool)(s:Str):Bool:=!decide (s=[])&&decide (s.length<=24)&&first (bI (s.getD 0 0))&&s.all fun c=>bK (bI c)
def str(s:String):Str:=s.toUTF8.data.toList
def G4:List Str:=[[109,111,100,117,108,101],[105,109,112,111,114,116],[112,105,110],[114,97,110,103,101],[116,121,112,101],[111,112,97,113,117,101],[108,101,116],[105,110],[101,120,112,111,114,116],[102,117,110],[105,102],[116,104,101,110],[101,108,115,101],[99,97,115,101],[111,102],[97,115],[110,101,119],[114,97,119],[116,114,117,101],[102,97,108,115,101]]
def qg(s:Str):Bool:=decide (s∈G4)
def aW(s:Str):Bool:=dD cq s&&!qg s
def dM(s:Str):Bool:=dD cy s
mutual
def sz:Shape->Nat
 |⟨_,_,_,_,ps⟩=>szL ps+1
def szL:List Shape->Nat
 |[]=>0
 |p::r=>sz p+szL r
end
mutual
def eqS:Shape->Shape->Bool
 |⟨k,p,n,ns,ps⟩,⟨k',p',n',ns',ps'⟩=>decide (k=k')&&decide (p=p')&&decide (n=n')&&decide (ns=ns')&&eqL ps ps'
def eqL:List Shape->List Shape->Bool
 |[],[]=>true
 |a::r,b::s=>eqS a b&&eqL r s
 |_,_=>false
end
mutual
def allS(f:Shape->Bool):Shape->Bool
 |⟨k,p,n,ns,ps⟩=>f ⟨k,p,n,ns,ps⟩&&allL f ps
def allL(f:Shape->Bool):List Shape->Bool
 |[]=>true
 |p::r=>allS f p&&allL f r
end
mutual
def deepS:Shape->Int->Int
 |⟨_,_,_,_,ps⟩,l=>deepL ps (l+1) l
def deepL:List Shape->Int->Int->Int
 |[],_,d=>d
 |p::r,l,d=>deepL r l (max d (deepS p l))
end
def mi(s:Str):Bool:=decide (s=[73,110,116])||decide (s=[66,111,111,108])||decide (s=[84,101,120,116])||decide (s=[65,110,121])
def fB:List Str->Str->Int->Int
 |[],_,_=>-1
 |a::r,v,i=>if a=v then i else fB r v (i+1)
theorem ou(a:Shape):sz a=szL a.parts+1:=by cases a;rfl
theorem jR:∀{l:List Shape} {a:Shape},a∈l->sz a<=szL l
 |b::r,a,h=>by
  simp only[szL];rcases Hy.1 h with rfl|h
  ·omega
  ·have:=jR h;omega
theorem p8:∀{a b:List Shape},a.length≠b.length->eqL a b=false
 |[],[],h=>absurd rfl h
 |[],_::_,_=>rfl
 |_::_,[],_=>rfl
 |a::r,b::s,h=>by simp only[eqL];rw[p8 (fun e=>h (by simp[e]))];simp
theorem sk:∀(a:List Str)(v:Str)(i:Int),0<=i->(0<=fB a v i↔v∈a)
 |[],v,i,_=>by simp[fB]
 |x::r,v,i,h=>by
  simp only[fB,Hy];by_cases e:x=v
  ·simp[e,h]
  ·rw[Hh e,sk r v (i+1) (by omega)];constructor
   ·exact Or.inr
   ·rintro(rfl|h)
    ·exact absurd rfl e
    ·exact h
def eH(s:Shape):Bool:=decide (s.names.length=s.parts.length)&&s.names.all aW&&decide s.names.Nodup
def dm(s:Shape):Bool:=
 let bare:=decide (s.pkg=[])&&decide (s.name=[])
 if s.kind=1∨s.kind=2∨s.kind=3∨s.kind=4 then bare&&decide (s.names=[])&&decide (s.parts=[])
 else if s.kind=5 then bare&&decide (s.names=[])&&decide (s.parts.length=1)
 else if s.kind=6∨s.kind=7 then bare&&eH s
 else if s.kind=8 then bare&&decide (s.names=[])&&!decide (s.parts=[])
 else if s.kind=9 then dM s.name&&(decide (s.pkg=[])&&!mi s.name||aW s.pkg)&&decide (s.names=[])&&decide (s.parts=[])
 else if s.kind=10 then dM s.name&&aW s.pkg&&decide (s.names=[])&&decide (s.parts=[])
 else false
theorem mj(a:Shape):0<sz a:=by rw[ou];omega
theorem p9:∀(l:List Shape),l.length<=szL l
 |[]=>Hz _
 |a::r=>by have:=p9 r;have:=mj a;simp only[szL,HJ];omega
theorem lh(f:Shape->Bool)(s:Shape):allS f s=(f s&&allL f s.parts):=by cases s;rfl
theorem lg{α:Type}(l:List α)(k:Nat)(d:α)(h:k<l.length):l.take (k+1)=l.take k++[l.getD k d]:=by rw[List.take_add_one,Hl,Hi h];rfl
end Go.Pd
end
section
namespace Go.Pd
open Go.AL
def di(s:Shape):Int:=if 400<sz s then 3 else if 40<deepS s 1 then 91 else if allS dm s=true then 0 else 70
def G5(t:Nat)(c:Int):Ans:=⟨some (0<=c/\c<=400),some (decide (400<c+1),.iface t (.agg []),[(900,.box (.int .i64 (c+1)))]),.tup [],[(900,.box (.int .i64 (c+1)))]⟩
def tR(t:Nat):Pat:=fun args S=>
 match args,S with
 |[.ptr 900 0],[(900,.box (.int .i64 c))]=>some (G5 t c)
 |_,_=>none
theorem yf[Tabs]{P:Program}{f t:Nat}(he:az P f)(h:∀c,0<=c/\c<=400->ay P f [.ptr 900 0] [(900,.box (.int .i64 c))] (G5 t c)):ah P f (tR t):=by
 intro args S A hA ho _;unfold tR at hA;split at hA
 ·simp only[Xs]at hA;subst hA;exact⟨he,h _ (ho _ rfl)⟩
 ·cases hA
def CY(t:Nat)(s:Shape)(l c:Int)(q:Prop):Ans:=
 ⟨some (q/\0<=c/\c<=400/\1<=l/\l<=c+1),some (decide (400<c+(sz s:Int)),.iface t (.agg []),[(900,.box (.int .i64 401))]),.int .i64 (deepS s l),[(900,.box (.int .i64 (c+(sz s:Int))))]⟩
def pa(t g:Nat)(n:Nat):Pat:=fun args S=>
 match args,S with
 |[a,.int .i64 l,.fn g' [.ptr 900 0]],[(900,.box (.int .i64 c))]=>
  (match Nat.beq g' g,arg (.st .shape) a with
  |true,some s=>some (CY t s l c (sz s<=n))
  |_,_=>none)
 |_,_=>none
theorem qh[Tabs]{P:Program}{f t g n:Nat}(he:az P f)(h:∀s l c,Wf (.st .shape) s->sz s<=n->(0<=c/\c<=400/\1<=l/\l<=c+1)->ay P f [.st .shape s,.int .i64 l,.fn g [.ptr 900 0]] [(900,.box (.int .i64 c))] (CY t s l c (sz s<=n))) :
  ah P f (pa t g n):=by
 intro args S A hA ho _;unfold pa at hA;split at hA
 ·split at hA
  ·rename_i s hb hs;simp only[Xs]at hA;subst hA;have e:=HF hb;subst e;obtain⟨h1,h2⟩:=ho _ rfl;exact⟨he,ay.args (.cons (Rd.arg hs) (.cons (Rd.refl _) (.cons (Rd.refl _) .nil))) (ay.wf fun hw=>h _ _ _ hw.one h1 h2)⟩
  ·cases hA
 ·cases hA
theorem lQ:∀(l:List Shape)(k:Nat)(d:Shape),k<l.length->szL (l.take (k+1))=szL (l.take k)+sz (l.getD k d)
 |a::r,0,d,_=>by simp[szL]
 |a::r,k+1,d,h=>by have:=lQ r k d (by simpa using h);simp only[Jh,szL,Ji]at this⊢;omega
theorem vw(l:List Shape)(k:Nat):szL (l.take k)<=szL l:=by
 induction l generalizing k with
 |nil=>simp[szL]
 |cons a r ih=>
  cases k with|zero=>simp[szL]|succ k=>have:=ih k;simp only[Jh,szL];omega
end Go.Pd
end
section
namespace Go.Pd
open Go.AL
abbrev PS:=Par
def cK(l:List Tokn)(a:Int):Tokn:=
 if a<(l.length:Int)then l.getD a.toNat (dfl (.st .token))
 else if l.length=0 then⟨0,[],0⟩else⟨0,[],(l.getD ((l.length:Int)-1).toNat (dfl (.st .token))).pos⟩
def CZ(l:List Tokn)(a:Int)(t:Str):Bool:=(decide ((cK l a).kind=6)||decide ((cK l a).kind=5))&&decide ((cK l a).text=t)
def ai(s:PS):Tokn:=cK s.toks s.pos
def aQ(s:PS):Bool:=!decide (s.err=0)
def cC(e a:Int)(s:PS):PS:=if s.err=0 then⟨s.toks,s.pos,e,a⟩else s
def au(s:PS):PS:=⟨s.toks,s.pos+1,s.err,s.fat⟩
def isF(t:Str)(s:PS):Bool:=CZ s.toks s.pos t&&!aQ s
def cw(t:Str)(s:PS):PS:=if isF t s=true then au s else s
def ak(t:Str)(s:PS):PS:=if isF t s=true then au s else cC 90 (ai s).pos s
def aE(k:Int)(s:PS):Tokn×PS:=
 if(ai s).kind=k/\aQ s=false then(ai s,au s)else(⟨0,[],0⟩,cC 90 (ai s).pos s)
def aJ(ns:List Str)(s:PS):Str×PS:=
 ((aE 1 s).1.text,if aQ (aE 1 s).2=false/\(aE 1 s).1.text∈ns then cC 111 (aE 1 s).1.pos (aE 1 s).2 else(aE 1 s).2)
def aX{σ:Type}(btw en:Str)(one:σ->PS->σ×PS):Nat->σ->PS->σ×PS
 |0,x,s=>(x,s)
 |n+1,x,s=>if aQ s=true then(x,s)else if isF en (one x s).2=true then((one x s).1,au (one x s).2)else aX btw en one n (one x s).1 (ak btw (one x s).2)
def ab{σ:Type}(btw en:Str)(one:σ->PS->σ×PS)(x:σ)(s:PS):σ×PS:=
 if isF en s=true then(x,au s)else aX btw en one (s.toks.length+2) x s
def jS(pkg name:Str):Shape:=
 if pkg=[]/\name=[73,110,116]then⟨1,[],[],[],[]⟩
 else if pkg=[]/\name=[66,111,111,108]then⟨2,[],[],[],[]⟩
 else if pkg=[]/\name=[84,101,120,116]then⟨3,[],[],[],[]⟩
 else if pkg=[]/\name=[65,110,121]then⟨4,[],[],[],[]⟩
 else⟨9,pkg,name,[],[]⟩
def aw(R:PS->Shape×PS)(x:Shape)(s:PS):Shape×PS:=
 let a:=aJ x.names s
 let b:=R (ak [58] a.2)
 (⟨x.kind,x.pkg,x.name,x.names++[a.1],x.parts++[b.1]⟩,b.2)
def aA(R:PS->Shape×PS)(x:Shape)(s:PS):Shape×PS:=(⟨x.kind,x.pkg,x.name,x.names,x.parts++[(R s).1]⟩,(R s).2)
def gA(R:PS->Shape×PS)(s:PS):Shape×PS:=
 let t:=ai s
 if t.kind=2/\aQ s=false then(jS [] t.text,au s)
 else if t.kind=1/\aQ s=false then
  let a:=aE 2 (ak [47] (au s))
  (jS t.text a.1.text,a.2)
 else if isF [91] s=true then
  let a:=R (au s)
  (⟨5,[],[],[],[a.1]⟩,ak [93] a.2)
 else if isF [123] s=true then ab [44] [125] (aw R) ⟨6,[],[],[],[]⟩ (au s)
 else if isF [60] s=true then ab [124] [62] (aw R) ⟨7,[],[],[],[]⟩ (au s)
 else if isF [40] s=true then
  let a:=ab [44] [41] (aA R) ⟨8,[],[],[],[]⟩ (au s)
  aA R a.1 (ak [45,62] a.2)
 else(⟨0,[],[],[],[]⟩,cC 90 t.pos s)
def ag:Nat->PS->Shape×PS
 |0,s=>(⟨0,[],[],[],[]⟩,s)
 |n+1,s=>gA (ag n) s
abbrev big:Nat:=5000
def bg(s:PS):Shape×PS:=
 let a:=ag big s
 (a.1,if aQ a.2=true then a.2 else if di a.1=0 then a.2 else cC (di a.1) (ai s).pos a.2)
def aM(t:Trm)(u:Trm):Trm:=⟨t.kind,t.pkg,t.name,t.n,t.names,t.vars,t.shapes,t.parts++[u],t.pos⟩
def b4(t:Trm)(u:Shape):Trm:=⟨t.kind,t.pkg,t.name,t.n,t.names,t.vars,t.shapes++[u],t.parts,t.pos⟩
def aY(t:Trm)(u:Str):Trm:=⟨t.kind,t.pkg,t.name,t.n,t.names++[u],t.vars,t.shapes,t.parts,t.pos⟩
def bY(t:Trm)(u:Str):Trm:=⟨t.kind,t.pkg,t.name,t.n,t.names,t.vars++[u],t.shapes,t.parts,t.pos⟩
def ax(R:PS->Trm×PS)(t:Trm)(s:PS):Trm×PS:=(aM t (R s).1,(R s).2)
def dF(ahead:Str)(t:Trm)(s:PS):Trm×PS:=(b4 t (bg (ak ahead s)).1,(bg (ak ahead s)).2)
def aB(t:Trm)(s:PS):Trm×PS:=dF [58] (aY t (aJ t.names s).1) (aJ t.names s).2
def an(R:PS->Trm×PS)(t:Trm)(s:PS):Trm×PS:=
 let a:=aJ t.names s
 let b:=aE 1 (ak [40] a.2)
 let c:=dF [58] (bY (aY t a.1) b.1.text) b.2
 ax R c.1 (ak [45,62] (ak [41] c.2))
def aj(R:PS->Trm×PS)(t:Trm)(s:PS):Trm×PS:=
 let a:=aJ t.names s
 ax R (aY t a.1) (ak [61] a.2)
def bP(R:PS->Trm×PS)(s:PS):List Trm×PS:=
 let a:=R (ak [40] s)
 ([a.1],ak [41] a.2)
def iR(s:Str):Int:=s.foldl (fun n c=>10 *n+((c.toNat:Int)-48)) 0
def cr(R:PS->Trm×PS)(s:PS):Trm×PS:=
 if aQ s=true then(⟨0,[],[],0,[],[],[],[],(ai s).pos⟩,s)
 else if(ai s).kind=3 then(⟨1,[],[],iR (ai s).text,[],[],[],[],(ai s).pos⟩,au s)
 else if(ai s).kind=4 then(⟨2,[],(ai s).text,0,[],[],[],[],(ai s).pos⟩,au s)
 else if(ai s).kind=1 then
  if isF [47] (au s)=true then
   let a:=aE 1 (au (au s))
   (⟨5,(ai s).text,a.1.text,0,[],[],[],[],(ai s).pos⟩,a.2)
  else(⟨5,[],(ai s).text,0,[],[],[],[],(ai s).pos⟩,au s)
 else if isF [116,114,117,101] s=true then(⟨3,[],[],0,[],[],[],[],(ai s).pos⟩,au s)
 else if isF [102,97,108,115,101] s=true then(⟨4,[],[],0,[],[],[],[],(ai s).pos⟩,au s)
 else if isF [40] s=true then
  let u:=R (au s)
  if isF [97,115] u.2=true then
   let a:=bg (au u.2)
   (⟨15,[],[],0,[],[],[a.1],[u.1],(ai s).pos⟩,ak [41] a.2)
  else(u.1,ak [41] u.2)
 else if isF [123] s=true then ab [44] [125] (aj R) ⟨8,[],[],0,[],[],[],[],(ai s).pos⟩ (au s)
 else if isF [64] s=true then
  let a:=aE 1 (au s)
  let b:=bP R a.2
  (⟨10,[],a.1.text,0,[],[],[],b.1,(ai s).pos⟩,b.2)
 else if isF [110,101,119] s=true then
  let a:=aE 2 (au s)
  let b:=bP R a.2
  (⟨16,[],a.1.text,0,[],[],[],b.1,(ai s).pos⟩,b.2)
 else if isF [114,97,119] s=true then
  let a:=aE 2 (au s)
  let b:=bP R a.2
  (⟨17,[],a.1.text,0,[],[],[],b.1,(ai s).pos⟩,b.2)
 else(⟨0,[],[],0,[],[],[],[],(ai s).pos⟩,cC 90 (ai s).pos s)
def dJ(R:PS->Trm×PS)(p:Int):Nat->Trm->PS->Trm×PS
 |0,t,s=>(t,s)
 |n+1,t,s=>
  if aQ s=true then(t,s)
  else if isF [40] s=true then
   let a:=ab [44] [41] (ax R) ⟨7,[],[],0,[],[],[],[t],p⟩ (au s)
   dJ R p n a.1 a.2
  else if isF [46] s=true then
   let a:=aE 1 (au s)
   dJ R p n ⟨9,[],a.1.text,0,[],[],[],[t],p⟩ a.2
  else(t,s)
def dT(R:PS->Trm×PS)(s:PS):Trm×PS:=dJ R (ai s).pos (s.toks.length+2) (cr R s).1 (cr R s).2
def gw(R:PS->Trm×PS)(s:PS):Trm×PS:=
 if isF [102,117,110] s=true then
  let a:=ab [44] [41] (aB) ⟨6,[],[],0,[],[],[],[],(ai s).pos⟩ (ak [40] (au s))
  ax R a.1 (ak [45,62] a.2)
 else if isF [108,101,116] s=true then
  let a:=aE 1 (au s)
  let b:=ax R ⟨14,[],a.1.text,0,[],[],[],[],(ai s).pos⟩ (ak [61] a.2)
  ax R b.1 (ak [105,110] b.2)
 else if isF [105,102] s=true then
  let a:=ax R ⟨12,[],[],0,[],[],[],[],(ai s).pos⟩ (au s)
  let b:=ax R a.1 (ak [116,104,101,110] a.2)
  let c:=ax R b.1 (ak [101,108,115,101] b.2)
  dF [97,115] c.1 c.2
 else if isF [99,97,115,101] s=true then
  let a:=ax R ⟨13,[],[],0,[],[],[],[],(ai s).pos⟩ (au s)
  let b:=ab [124] [125] (an R) a.1 (ak [123] (ak [111,102] a.2))
  dF [97,115] b.1 b.2
 else if isF [91] s=true then
  let a:=ab [44] [93] (ax R) ⟨11,[],[],0,[],[],[],[],(ai s).pos⟩ (au s)
  dF [111,102] a.1 a.2
 else dT R s
def a7:Nat->PS->Trm×PS
 |0,s=>(⟨0,[],[],0,[],[],[],[],0⟩,s)
 |n+1,s=>gw (a7 n) s
end Go.Pd
end
section
namespace Go.Pd
open Go.AL
def js(t:Str):Prop:=t≠[]/\t.length<=15/\∀c∈t,48<=c.toNat/\c.toNat<=57
def ml(l:List Tokn):Prop:=∀t∈l,t.kind=3->js t.text
def a8(s:Par):Prop:=0<=s.pos/\s.pos<=(s.toks.length:Int)/\s.toks.length<=4097/\ml s.toks
def rem(s:Par):Nat:=if s.err=0 then((s.toks.length:Int)-s.pos).toNat+1 else 0
theorem fC{l:List Tokn}{a:Int}(h:¬(cK l a).kind=0):a<(l.length:Int):=by
 unfold cK at h;by_cases c:a<(l.length:Int)
 ·exact c
 ·rw[Hh c]at h;split at h<;>exact absurd rfl h
theorem ct{t:Str}{s:Par}(h:isF t s=true):s.pos<(s.toks.length:Int)/\s.err=0:=by simp only[isF,CZ,aQ,Hk,Io,Hq,Js]at h;refine⟨fC ?_,h.2⟩;rcases h.1.1 with e|e<;>omega
theorem qi{s:Par}(h:a8 s)(h2:s.pos<(s.toks.length:Int)):a8 (au s):=by obtain⟨a,b,c⟩:=h;exact⟨by simp only[au];omega,by simp only[au];omega,c⟩
theorem aH{t:Str}{s:Par}(h:isF t s=true):cw t s=au s:=by unfold cw;rw[Hj h]
theorem aR{t:Str}{s:Par}(h:isF t s=false):cw t s=s:=by unfold cw;rw[h];rfl
theorem lj{t:Str}{s:Par}(h:a8 s)(h2:isF t s=true):a8 (au s):=qi h (ct h2).1
theorem mZ{s:Par}(h:a8 s)(h2:s.pos<(s.toks.length:Int))(h3:s.err=0):rem (au s)+1=rem s:=by obtain⟨a,b,c⟩:=h;simp only[rem,au,h3,Ia];omega
theorem aG{t:Str}{s:Par}(h:a8 s)(h2:isF t s=true):rem (au s)+1=rem s:=mZ h (ct h2).1 (ct h2).2
theorem tS{s:Par}(h:¬s.err=0):rem s=0:=by simp[rem,h]
theorem D0{s:Par}:rem s=0↔¬s.err=0:=by unfold rem;split<;>simp_all
theorem b7{s:Par}:aQ s=true↔¬s.err=0:=by simp[aQ]
theorem bf{s:Par}:aQ s=false↔s.err=0:=by simp[aQ]
theorem AT{e a:Int}{s:Par}(h:a8 s):a8 (cC e a s):=by unfold cC;split<;>exact h
theorem iy{e a:Int}{s:Par}(he:¬e=0):rem (cC e a s)=0:=by
 unfold cC;split
 ·exact tS he
 ·rename_i h;exact tS h
structure Goes(s s':Par):Prop where
 good:a8 s'
 toks:s'.toks=s.toks
 le:rem s'<=rem s
 cap:∀q:Int,(cK s.toks q).kind=0->s.pos<=q->s'.pos<=q
theorem Goes.refl{s:Par}(h:a8 s):Goes s s:=⟨h,rfl,Hu _,fun _ _ h=>h⟩
theorem Goes.trans{a b c:Par}(h:Goes a b)(k:Goes b c):Goes a c:=⟨k.good,k.toks.trans h.toks,I2 k.le h.le,fun q h0 h1=>k.cap q (by rw[h.toks];exact h0) (h.cap q h0 h1)⟩
theorem n5{s:Par}(h:a8 s)(h2:s.pos<(s.toks.length:Int))(h3:s.err=0)(hk:¬(cK s.toks s.pos).kind=0):Goes s (au s):=
 ⟨qi h h2,rfl,by have:=mZ h h2 h3;omega,fun q h0 h1=>by
  have:s.pos≠q:=fun e=>hk (by rw[e];exact h0);show s.pos+1<=q;omega⟩
theorem qj{t:Str}{s:Par}(h:isF t s=true):¬(cK s.toks s.pos).kind=0:=by simp only[isF,CZ,aQ,Hk,Io,Hq,Js]at h;rcases h.1.1 with e|e<;>omega
theorem cQ{t:Str}{s:Par}(h:a8 s)(h2:isF t s=true):Goes s (au s):=n5 h (ct h2).1 (ct h2).2 (qj h2)
theorem hZ{e a:Int}{s:Par}(h:a8 s)(he:¬e=0):Goes s (cC e a s):=⟨AT h,by unfold cC;split<;>rfl,by rw[iy he];exact Hz _,fun q _ h=>by unfold cC;split<;>exact h⟩
theorem ba{t:Str}{s:Par}(h:a8 s):Goes s (ak t s):=by
 unfold ak;split
 ·rename_i c;exact cQ h c
 ·exact hZ h (by decide)
def j7(s s':Par):Prop:=rem s'<rem s∨rem s'=0
theorem sl{t:Str}{s:Par}(h:a8 s):j7 s (ak t s):=by
 unfold ak j7;split
 ·rename_i c;have:=aG h c;exact .inl (by omega)
 ·exact .inr (iy (by decide))
theorem lu{k:Int}{s:Par}(h:a8 s)(hk:¬k=0):Goes s (aE k s).2/\j7 s (aE k s).2:=by
 unfold aE j7;split
 ·rename_i c;have h3:=bf.1 c.2;have h2:s.pos<(s.toks.length:Int):=fC (by have:=c.1;unfold ai at this;rw[this];exact hk);have:=mZ h h2 h3;exact⟨n5 h h2 h3 (by have:=c.1;unfold ai at this;rw[this];exact hk),.inl (by show rem (au s)<_;omega)⟩
 ·exact⟨hZ h (by decide),.inr (iy (by decide))⟩
theorem jT{ns:List Str}{s:Par}(h:a8 s):Goes s (aJ ns s).2/\j7 s (aJ ns s).2:=by
 obtain⟨h1,h2⟩:=lu (k:=1) h (by decide);unfold aJ;simp only;split
 ·exact⟨h1.trans (hZ h1.good (by decide)),.inr (iy (by decide))⟩
 ·exact⟨h1,h2⟩
theorem j7.then{a b c:Par}(h:j7 a b)(k:Goes b c):j7 a c:=by
 rcases h with h|h
 ·exact .inl (JN k.le h)
 ·exact .inr (Nat.le_zero.1 (by rw[<-h];exact k.le))
theorem Goes.then{a b c:Par}(h:Goes a b)(k:j7 b c):j7 a c:=by
 rcases k with k|k
 ·exact .inl (JO k h.le)
 ·exact .inr k
def cP{α:Type}(R:Par->α×Par)(n:Nat):Prop:=∀s,a8 s->rem s<n->Goes s (R s).2/\j7 s (R s).2
def dn{σ:Type}(one:σ->Par->σ×Par)(n:Nat):Prop:=∀x s,a8 s->s.err=0->rem s<=n->Goes s (one x s).2/\j7 s (one x s).2
theorem bA{s:Par}(h:s.err=0):1<=rem s:=by simp[rem,h]
theorem j7.lt{a b:Par}{n:Nat}(h:j7 a b)(k:rem a<=n)(h0:a.err=0):rem b<n:=by have:=bA h0;rcases h with h|h<;>omega
theorem eY{σ:Type}{n:Nat}{one:σ->Par->σ×Par}(h:dn one n){btw en:Str}{x:σ}{s:Par}{k:Nat}(hi:a8 s)(h0:s.err=0)(hn:rem s<=n)(hk:rem s<k+1) :
  a8 (ak btw (one x s).2)/\(ak btw (one x s).2).toks=s.toks/\rem (ak btw (one x s).2)<=n/\rem (ak btw (one x s).2)<k:=by
 obtain⟨g,e⟩:=h x s hi h0 hn;have gm:=ba (t:=btw) g.good;have hp:=bA h0;refine⟨gm.good,gm.toks.trans g.toks,I2 (g.trans gm).le hn,?_⟩;rcases e.then gm with q|q<;>omega
theorem ib{σ:Type}{n:Nat}{one:σ->Par->σ×Par}(h:dn one n)(btw en:Str):∀(k:Nat)(x:σ)(s:Par),a8 s->rem s<=n->Goes s (aX btw en one k x s).2
 |0,x,s,hi,_=>Goes.refl hi
 |k+1,x,s,hi,hn=>by
  simp only[aX];by_cases b:aQ s=true
  ·rw[Hj b];exact Goes.refl hi
  ·rw[Hh b];have h0:s.err=0:=bf.1 (by simpa using b);obtain⟨g,e⟩:=h x s hi h0 hn;by_cases c:isF en (one x s).2=true
   ·rw[Hj c];exact g.trans (cQ g.good c)
   ·rw[Hh c];have gm:=g.trans (ba (t:=btw) g.good);exact gm.trans (ib h btw en k _ _ gm.good (I2 gm.le hn))
theorem aI{σ:Type}{n:Nat}{one:σ->Par->σ×Par}(h:dn one n)(btw en:Str)(x:σ){s:Par}(hi:a8 s)(hn:rem s<=n):Goes s (ab btw en one x s).2:=by
 unfold ab;by_cases c:isF en s=true
 ·rw[Hj c];exact cQ hi c
 ·rw[Hh c];exact ib h btw en _ x s hi hn
theorem vz{σ:Type}{one:σ->Par->σ×Par}(m:σ->Nat)(h:∀x s,m (one x s).1<=m x+1)(btw en:Str):∀(k:Nat)(x:σ)(s:Par),m (aX btw en one k x s).1<=m x+k
 |0,x,s=>Hu _
 |k+1,x,s=>by
  simp only[aX];have h1:=h x s;split
  ·show m x<=_;omega
  split
  ·show m (one x s).1<=_;omega
  ·have:=vz m h btw en k (one x s).1 (ak btw (one x s).2);omega
theorem dy{σ:Type}{one:σ->Par->σ×Par}(m:σ->Nat)(h:∀x s,m (one x s).1<=m x+1)(btw en:Str)(x:σ)(s:Par):m (ab btw en one x s).1<=m x+(s.toks.length+2):=by
 unfold ab;split
 ·show m x<=_;omega
 ·exact vz m h btw en _ x s
theorem so{σ:Type}{one:σ->Par->σ×Par}(p:σ->Prop)(h:∀x s,p x->p (one x s).1)(btw en:Str):∀(k:Nat)(x:σ)(s:Par),p x->p (aX btw en one k x s).1
 |0,x,s,hx=>hx
 |k+1,x,s,hx=>by
  simp only[aX];split
  ·exact hx
  split
  ·exact h x s hx
  ·exact so p h btw en k _ _ (h x s hx)
theorem ck{σ:Type}{one:σ->Par->σ×Par}(p:σ->Prop)(h:∀x s,p x->p (one x s).1)(btw en:Str){x:σ}(s:Par)(hx:p x):p (ab btw en one x s).1:=by
 unfold ab;split
 ·exact hx
 ·exact so p h btw en _ x s hx
theorem cH{R:Par->Shape×Par}{n:Nat}(hR:cP R n):dn (aw R) n:=by intro x s hi h0 hn;obtain⟨g1,e1⟩:=jT (ns:=x.names) hi;have g2:=g1.trans (ba (t:=[58]) g1.good);have e2:j7 s (ak [58] (aJ x.names s).2):=e1.then (ba g1.good);obtain⟨g3,e3⟩:=hR _ g2.good (e2.lt hn h0);exact⟨g2.trans g3,g2.then e3⟩
theorem ew{R:Par->Shape×Par}{n:Nat}(hR:cP R (n+1)):dn (aA R) n:=by intro x s hi h0 hn;exact hR s hi (by omega)
theorem tT{R:Par->Shape×Par}{n:Nat}(hR:cP R n):cP (gA R) (n+1):=by
 intro s hi hn;unfold gA;simp only;have hadv:∀{t:Str},isF t s=true->Goes s (au s)/\rem (au s)+1=rem s/\j7 s (au s):=fun c=>⟨cQ hi c,aG hi c,.inl (by have:=aG hi c;omega)⟩;have tk:∀k:Int,¬k=0->(ai s).kind=k/\aQ s=false->Goes s (au s)/\rem (au s)+1=rem s/\j7 s (au s):=fun k hk c=>by have h3:=bf.1 c.2;have h2:s.pos<(s.toks.length:Int):=fC (by have:=c.1;unfold ai at this;rw[this];exact hk);have:=mZ hi h2 h3;exact⟨n5 hi h2 h3 (by have:=c.1;unfold ai at this;rw[this];exact hk),this,.inl (by omega)⟩
 split
 ·rename_i c;obtain⟨a,_,b⟩:=tk 2 (by decide) c;exact⟨a,b⟩
 split
 ·rename_i c;obtain⟨a,_,b⟩:=tk 1 (by decide) c;have g:=ba (t:=[47]) a.good;obtain⟨t1,t2⟩:=lu (k:=2) g.good (by decide);exact⟨(a.trans g).trans t1,(b.then g).then t1⟩
 split
 ·rename_i c;obtain⟨a,d,b⟩:=hadv c;obtain⟨r1,r2⟩:=hR _ a.good (by omega);have g:=ba (t:=[93]) r1.good;exact⟨(a.trans r1).trans g,(b.then r1).then g⟩
 split
 ·rename_i c;obtain⟨a,d,b⟩:=hadv c;have g:=aI (cH hR) [44] [125] ⟨6,[],[],[],[]⟩ a.good (by omega);exact⟨a.trans g,b.then g⟩
 split
 ·rename_i c;obtain⟨a,d,b⟩:=hadv c;have g:=aI (cH hR) [124] [62] ⟨7,[],[],[],[]⟩ a.good (by omega);exact⟨a.trans g,b.then g⟩
 split
 ·rename_i c;obtain⟨a,d,b⟩:=hadv c;have hp:=bA (ct c).2;obtain⟨m,rfl⟩:∃m,n=m+1:=⟨n-1,by omega⟩;have g:=aI (ew hR) [44] [41] ⟨8,[],[],[],[]⟩ a.good (by omega);have g2:=g.trans (ba (t:=[45,62]) g.good);obtain⟨r1,r2⟩:=hR _ g2.good (by have:=g2.le;omega);exact⟨(a.trans g2).trans r1,(b.then g2).then r1⟩
 ·exact⟨hZ hi (by decide),.inr (iy (by decide))⟩
theorem b8:∀n,cP (ag n) n
 |0=>fun s _ h=>absurd h (It _)
 |n+1=>tT (b8 n)
theorem j8{s:Par}(h:a8 s):rem s<=4098:=by obtain⟨a,b,c⟩:=h;unfold rem;split<;>omega
theorem kL{s:Par}(hi:a8 s):Goes s (bg s).2/\j7 s (bg s).2:=by
 obtain⟨a,b⟩:=b8 big s hi (by have:=j8 hi;unfold big;omega);unfold bg;simp only;split
 ·exact⟨a,b⟩
 split
 ·exact⟨a,b⟩
 ·rename_i h;exact⟨a.trans (hZ a.good h),.inr (iy h)⟩
end Go.Pd
end
section
namespace Go.AL
open Go.Proofs Go.Shelf Go.RowKit Go.Pd
theorem ow:∀(l:Str)(acc:Nat),(∀c∈l,48<=c.toNat/\c.toNat<=57)->∃m:Nat,Lib.decFrom acc l=some m/\(m:Int)=l.foldl (fun n c=>10 *n+((c.toNat:Int)-48)) (acc:Int)/\m<(acc+1) *10 ^ l.length
 |[],acc,_=>⟨acc,rfl,rfl,by simp⟩
 |c::r,acc,h=>by
  obtain⟨h1,h2⟩:=h c (IA ..);obtain⟨m,e1,e2,e3⟩:=ow r (acc *10+(c.toNat-48)) (fun d hd=>h d (HH _ hd));refine⟨m,?_,?_,?_⟩
  ·simp only[Lib.decFrom,Lib.digitVal,h1,h2,JY,Ia];exact e1
  ·rw[e2,JB];congr 1;omega
  ·refine JO e3 ?_;rw[HJ,Nat.pow_succ,<-Nat.mul_assoc,Nat.mul_right_comm];exact I4 _ (by omega)
theorem atoi_num{t:Str}(h:js t):Lib.atoi t=some (iR t)/\0<=iR t/\iR t<1000000000000000:=by
 obtain⟨h1,h2,h3⟩:=h;obtain⟨m,e1,e2,e3⟩:=ow t 0 h3;have e4:(m:Int)=iR t:=e2;refine⟨?_,by omega,?_⟩
 ·cases t with
  |nil=>exact absurd rfl h1
  |cons c r=>
   have hc:=h3 c (IA ..);have n1:(c ==45)=false:=by rw[IT];rintro rfl;simp at hc
   have n2:(c ==43)=false:=by rw[IT];rintro rfl;simp at hc
   simp only[Lib.atoi,n1,n2,I1,HW,Lib.decNat,List.isEmpty_cons,e1,Ir,e4]
 ·have:m<10 ^ t.length:=by simpa using e3
  have h10:10 ^ t.length<=10 ^ 15:=Nat.pow_le_pow_right (by decide) h2;have:m<1000000000000000:=JO this h10;omega
variable [Tabs] {P:Program} {ρ:Ren}
theorem After.below{w w':World}{pub:Nat->Nat->Prop}{e:Nat->Option CObj}(hp:kz w pub)(hd:∀id,e id=none)(hb:Below w.heap.size w w'):After w pub e (aD (putB [] [])) w' pub e where
 os:=hb.os
 tape:=hb.tape
 output:=hb.output
 size:=hb.size
 block b h _:=hb.block b h
 cell b o h _:=aF (hb.block b h) o
 kind b h _:=⟨bU (hb.block b h),fun o=>bF (hb.block b h) o⟩
 ext:=⟨fun _ c h=>⟨c,h,CLe.refl c⟩,fun _ _ h=>h,fun b o h=>by obtain⟨v,hv⟩:=hp b o h;exact aF (hb.block b (bD hv)) o⟩
 fresh b o h:=.inl h
 ok b o h:=by obtain⟨v,hv⟩:=hp b o h;exact⟨v,(aF (hb.block b (bD hv)) o).trans hv⟩
 slots id o h:=by simp[putB,aD]at h
 dom id _:=hd id
 inj i j c d b o h:=by rw[hd i]at h;cases h
theorem yg(L:Lays.n172 P ρ)(t:Str)(h:js t):ay P (ρ.f 172) [.str t] [] ⟨some (js t),none,.tup [.int .i64 (iR t),.nilif],[]⟩:=by intro w pub e vs hp ht hv hs hd hi;obtain⟨v,rfl,h1⟩:=VL.one_inv hv;obtain⟨rfl,hl⟩:=h1.str_inv;obtain⟨a1,a2,a3⟩:=atoi_num h;refine(Any.strconv_Atoi L ⟨t.toArray⟩ (iR t) (by have:=h.2.1;show t.toArray.size<=18;simp;omega) (by simpa using a1) w).mono ?_;rintro en w' ⟨rfl,ty,rfl⟩;refine⟨pub,e,?_⟩;refine And.intro (fun b pv u h=>by cases h) (And.intro ?_ (After.below hp (fun id=>hd id rfl) (Lib.bytesWorld_below w _ _)));have b1:inR .i64 (iR t):=aP (by omega) (by omega);exact V.of_tup (VL.cons (.int _ _ b1.1 b1.2) (VL.cons .nilif .nil))
def F3:Pat:=p1 .str fun t=>⟨some (js t),none,.tup [.int .i64 (iR t),.nilif],[]⟩
theorem yh{f:Nat}(L:Lays.n172 P ρ)(hf:ρ.f 172=f)(he:az P f):ah P f F3:=by subst hf;exact cd he fun t _ ho=>yg L t (ho _ rfl)
end Go.AL
end
section
namespace Go.AL
variable [Tabs]
def RdO:SObj->SObj->Prop
 |.box c,.box d=>RdL (aa c) (aa d)
 |o,o'=>o=o'
theorem RdO.refl(o:SObj):RdO o o:=by
 cases o with|box c=>exact RdL.refl _|_=>rfl
theorem RdO.slot{Ω:Om}{own:Nat->Nat->Prop}{id:Nat}{o o':SObj}(h:bB Ω own id o)(hr:RdO o o'):bB Ω own id o':=by
 cases o with
 |box c=>
  cases o' with
  |box d=>exact bB.rd h hr
  |_=>cases hr
 |_=>cases o'<;>first|(cases hr;exact h)|cases hr
inductive RdS:List (Nat×SObj)->List (Nat×SObj)->Prop
 |nil:RdS [] []
 |cons {i:Nat} {o o':SObj} {r r':List (Nat×SObj)}:RdO o o'->RdS r r'->RdS ((i,o)::r) ((i,o')::r')
theorem RdS.get{S S':List (Nat×SObj)}(h:RdS S S')(id:Nat):(aD S id=none/\aD S' id=none)∨∃o o',aD S id=some o/\aD S' id=some o'/\RdO o o':=by
 induction h with
 |nil=>exact .inl ⟨rfl,rfl⟩
 |@cons i o o' r r' ho _ ih=>
  simp only[aD];by_cases hi:i=id
  ·simp only[hi,Jb,Ia];exact .inr ⟨o,o',rfl,rfl,ho⟩
  ·simp only[I3,hi,HW];exact ih
theorem sq(S:List (Nat×SObj))(u:List (Nat×SObj))(id:Nat):aD (AL.putB S u) id=AL.updB (aD S) u id:=by rw[ir]
theorem zU:∀(u:List (Nat×SObj))(B B':Nat->Option SObj)(id:Nat),id∈aq u->updB B u id=updB B' u id
 |(i,o)::r,B,B',id,h=>by
  simp only[updB];by_cases hr:id∈aq r
  ·exact zU r _ _ id hr
  ·have hi:id=i:=by simp only[aq,HN,Hy]at h hr;exact h.resolve_right hr
   subst hi;rw[fA r _ id hr,fA r _ id hr];simp
theorem ay.slots{P:Program}{f:Nat}{args:List AV}{S S':List (Nat×SObj)}{A:Ans}(hr:RdS S S')(hp:A.pan=none)(hu:∀i∈aq S,i∈aq A.upd)
 (h:ay P f args S' A):ay P f args S A:=by
 intro w pub e vs hpo ht hv hs hd hi
 have e2:aD (putB S A.upd)=aD (putB S' A.upd):=by
  funext id;rw[sq,sq];by_cases hk:id∈aq A.upd
  ·exact zU _ _ _ _ hk
  ·rw[fA _ _ _ hk,fA _ _ _ hk];rcases hr.get id with⟨h1,h2⟩|⟨o,o',h1,h2,_⟩
   ·rw[h1,h2]
   ·exact absurd (hu id (by
     have:=dE _ _ _ h1;exact I7.2 ⟨_,this,rfl⟩)) hk
 refine(h w pub e vs hpo ht hv (fun id o ho=>?_) (fun id hid=>?_) hi).mono ?_
 ·rcases hr.get id with⟨h1,h2⟩|⟨o1,o2,h1,h2,h3⟩
  ·rw[h2]at ho;cases ho
  ·rw[h2]at ho;cases ho;exact h3.slot (hs id o1 h1)
 ·rcases hr.get id with⟨h1,_⟩|⟨o1,o2,_,h2,_⟩
  ·exact hd id h1
  ·rw[h2]at hid;cases hid
 ·intro en w' hq;obtain⟨pub',e',hq⟩:=hq;refine⟨pub',e',?_⟩
  cases en with
  |returned v=>simp only at hq⊢;rw[e2];exact hq
  |panicked ch=>obtain⟨pv,u,v,h1,_⟩:=hq;rw[hp]at h1;cases h1
  |outgrown=>exact hq
section
variable {P:Program} {f:Nat}
def pP0(F:Par->Ans):Pat
 |[.ptr 900 0],[(900,.box c)]=>(match arg (.st .par) c with|some x=>some (F x)|none=>none)
 |_,_=>none
def pP1(τ:Ty)(F:Par->den τ->Ans):Pat
 |[.ptr 900 0,a],[(900,.box c)]=>(match arg (.st .par) c,arg τ a with|some x,some y=>some (F x y)|_,_=>none)
 |_,_=>none
def pP2(τ σ:Ty)(F:Par->den τ->den σ->Ans):Pat
 |[.ptr 900 0,a,b],[(900,.box c)]=>(match arg (.st .par) c,arg τ a,arg σ b with|some x,some y,some z=>some (F x y z)|_,_,_=>none)
 |_,_=>none
theorem rdP{c:AV}{x:Par}(h:arg (.st .par) c=some x):RdS [(900,.box c)] [(900,.box (.st .par x))]:=.cons (dk _ h) .nil
theorem iz{F:Par->Ans}(he:az P f)(hp:∀x,(F x).pan=none)(hu:∀x,900∈aq (F x).upd)(h:∀x,(∀q,(F x).ob=some q->q)->ay P f [.ptr 900 0] [(900,.box (.st .par x))] (F x)):ah P f (pP0 F):=by
 intro args S A hA ho _;unfold pP0 at hA;split at hA
 ·split at hA
  ·rename_i x hx;simp only[Xs]at hA;subst hA;exact⟨he,ay.slots (rdP hx) (hp x) (by simpa[aq]using hu x) (h x ho)⟩
  ·cases hA
 ·cases hA
theorem qk{τ:Ty}{F:Par->den τ->Ans}(he:az P f)(hp:∀x y,(F x y).pan=none)(hu:∀x y,900∈aq (F x y).upd)
 (h:∀x y,Wf τ y->(∀q,(F x y).ob=some q->q)->ay P f [.ptr 900 0,inj τ y] [(900,.box (.st .par x))] (F x y)):ah P f (pP1 τ F):=by
 intro args S A hA ho _;unfold pP1 at hA;split at hA
 ·split at hA
  ·rename_i x y hx hy;simp only[Xs]at hA;subst hA;exact⟨he,ay.slots (rdP hx) (hp x y) (by simpa[aq]using hu x y) (ay.args (.cons (Rd.refl _) (.cons (Rd.arg hy) .nil)) (ay.wf fun hw=>h x y hw.two ho))⟩
  ·cases hA
 ·cases hA
theorem Gm{τ σ:Ty}{F:Par->den τ->den σ->Ans}(he:az P f)(hp:∀x y z,(F x y z).pan=none)(hu:∀x y z,900∈aq (F x y z).upd)
 (h:∀x y z,Wf τ y->Wf σ z->(∀q,(F x y z).ob=some q->q)->ay P f [.ptr 900 0,inj τ y,inj σ z] [(900,.box (.st .par x))] (F x y z)):ah P f (pP2 τ σ F):=by
 intro args S A hA ho _;unfold pP2 at hA;split at hA
 ·split at hA
  ·rename_i x y z hx hy hz;simp only[Xs]at hA;subst hA;exact⟨he,ay.slots (rdP hx) (hp x y z) (by simpa[aq]using hu x y z) (ay.args (.cons (Rd.refl _) (.cons (Rd.arg hy) (.cons (Rd.arg hz) .nil))) (ay.wf fun hw=>h x y z hw.two hw.three ho))⟩
  ·cases hA
 ·cases hA
end
end Go.AL
end
section
namespace Go.AL
variable [Tabs]
section
variable {P:Program} {f:Nat}
def qm(F:Shape->Par->Nat->Nat->Ans):Pat
 |[.ptr 900 0,.ptr 901 0],[(900,.box (.ptr 902 0)),(901,.box (.agg [.int .i64 k,.str p,.str q,.lst .str ns (some 903),.lst (.st .shape) ps (some 904)])),(902,.box c),(903,.tail .str m),(904,.tail (.st .shape) m')]=>
  (match arg (.st .par) c with|some s=>some (F ⟨k,p,q,ns,ps⟩ s m m')|none=>none)
 |_,_=>none
def D1(x:Shape)(c:AV)(m m':Nat):List (Nat×SObj):=
 [(900,.box (.ptr 902 0)),(901,.box (.agg [.int .i64 x.kind,.str x.pkg,.str x.name,.lst .str x.names (some 903),.lst (.st .shape) x.parts (some 904)])),(902,.box c),(903,.tail .str m),(904,.tail (.st .shape) m')]
theorem AU{F:Shape->Par->Nat->Nat->Ans}(he:az P f)(hp:∀x s m m',(F x s m m').pan=none)(hu:∀x s m m',∀i∈[900,901,902,903,904],i∈aq (F x s m m').upd)
 (h:∀x s m m',(∀q,(F x s m m').ob=some q->q)->ay P f [.ptr 900 0,.ptr 901 0] (D1 x (.st .par s) m m') (F x s m m')):ah P f (qm F):=by
 intro args S A hA ho _;unfold qm at hA;split at hA
 ·split at hA
  ·rename_i s hs;simp only[Xs]at hA;subst hA;refine⟨he,ay.slots ?_ (hp _ _ _ _) (by simpa[aq]using hu _ _ _ _) (h _ _ _ _ ho)⟩;exact .cons (RdO.refl _) (.cons (RdO.refl _) (.cons (dk _ hs) (.cons rfl (.cons rfl .nil))))
  ·cases hA
 ·cases hA
def vA(F:Shape->Par->Nat->Ans):Pat
 |[.ptr 900 0,.ptr 901 0],[(900,.box (.agg [.int .i64 k,.str p,.str q,.nils,.lst (.st .shape) ps (some 902)])),(901,.box (.ptr 903 0)),(902,.tail (.st .shape) m),(903,.box c)]=>
  (match arg (.st .par) c with|some s=>some (F ⟨k,p,q,[],ps⟩ s m)|none=>none)
 |_,_=>none
def G6(x:Shape)(c:AV)(m:Nat):List (Nat×SObj):=
 [(900,.box (.agg [.int .i64 x.kind,.str x.pkg,.str x.name,.nils,.lst (.st .shape) x.parts (some 902)])),(901,.box (.ptr 903 0)),(902,.tail (.st .shape) m),(903,.box c)]
theorem D2{F:Shape->Par->Nat->Ans}(he:az P f)(hp:∀x s m,(F x s m).pan=none)(hu:∀x s m,∀i∈[900,901,902,903],i∈aq (F x s m).upd)
 (h:∀x s m,x.names=[]->(∀q,(F x s m).ob=some q->q)->ay P f [.ptr 900 0,.ptr 901 0] (G6 x (.st .par s) m) (F x s m)):ah P f (vA F):=by
 intro args S A hA ho _;unfold vA at hA;split at hA
 ·split at hA
  ·rename_i s hs;simp only[Xs]at hA;subst hA;refine⟨he,ay.slots ?_ (hp _ _ _) (by simpa[aq]using hu _ _ _) (h _ _ _ rfl ho)⟩;exact .cons (RdO.refl _) (.cons (RdO.refl _) (.cons rfl (.cons (dk _ hs) .nil)))
  ·cases hA
 ·cases hA
def tU(g:Nat)(F:Str->Str->Int->Par->Ans):Pat
 |[.ptr 900 0,.str b,.str e,.fn g' [.ptr 901 0,.ptr 902 0]],[(900,.box c),(901,.box (.ptr 900 0)),(902,.box (.agg [.int .i64 k,.str [],.str [],.nils,.nils]))]=>
  (match Nat.beq g' g,arg (.st .par) c with|true,some s=>some (F b e k s)|_,_=>none)
 |_,_=>none
def D3(k:Int)(c:AV):List (Nat×SObj):=[(900,.box c),(901,.box (.ptr 900 0)),(902,.box (.agg [.int .i64 k,.str [],.str [],.nils,.nils]))]
theorem AW{g:Nat}{F:Str->Str->Int->Par->Ans}(he:az P f)(hp:∀b e k s,(F b e k s).pan=none)(hu:∀b e k s,∀i∈[900,901,902],i∈aq (F b e k s).upd)
 (h:∀b e k s,(∀q,(F b e k s).ob=some q->q)->ay P f [.ptr 900 0,.str b,.str e,.fn g [.ptr 901 0,.ptr 902 0]] (D3 k (.st .par s)) (F b e k s)):ah P f (tU g F):=by
 intro args S A hA ho _;unfold tU at hA;split at hA
 ·split at hA
  ·rename_i hb hs;simp only[Xs]at hA;subst hA;have e:=HF hb;subst e;refine⟨he,ay.slots ?_ (hp _ _ _ _) (by simpa[aq]using hu _ _ _ _) (h _ _ _ _ ho)⟩;exact .cons (dk _ hs) (.cons (RdO.refl _) (.cons (RdO.refl _) .nil))
  ·cases hA
 ·cases hA
def tV(g:Nat)(F:Str->Str->Int->Par->Ans):Pat
 |[.ptr 900 0,.str b,.str e,.fn g' [.ptr 901 0,.ptr 902 0]],[(900,.box c),(901,.box (.agg [.int .i64 k,.str [],.str [],.nils,.nils])),(902,.box (.ptr 900 0))]=>
  (match Nat.beq g' g,arg (.st .par) c with|true,some s=>some (F b e k s)|_,_=>none)
 |_,_=>none
def D4(k:Int)(c:AV):List (Nat×SObj):=[(900,.box c),(901,.box (.agg [.int .i64 k,.str [],.str [],.nils,.nils])),(902,.box (.ptr 900 0))]
theorem AX{g:Nat}{F:Str->Str->Int->Par->Ans}(he:az P f)(hp:∀b e k s,(F b e k s).pan=none)(hu:∀b e k s,∀i∈[900,901,902],i∈aq (F b e k s).upd)
 (h:∀b e k s,(∀q,(F b e k s).ob=some q->q)->ay P f [.ptr 900 0,.str b,.str e,.fn g [.ptr 901 0,.ptr 902 0]] (D4 k (.st .par s)) (F b e k s)):ah P f (tV g F):=by
 intro args S A hA ho _;unfold tV at hA;split at hA
 ·split at hA
  ·rename_i hb hs;simp only[Xs]at hA;subst hA;have e:=HF hb;subst e;refine⟨he,ay.slots ?_ (hp _ _ _ _) (by simpa[aq]using hu _ _ _ _) (h _ _ _ _ ho)⟩;exact .cons (dk _ hs) (.cons (RdO.refl _) (.cons (RdO.refl _) .nil))
  ·cases hA
 ·cases hA
end
end Go.AL
end
section
namespace Go.Pd
open Go.AL
structure Moves(s s':Par):Prop where
 goes:Goes s s'
 eats:j7 s s'
theorem Moves.goes_then{a b c:Par}(h:Moves a b)(k:Goes b c):Moves a c:=⟨h.goes.trans k,h.eats.then k⟩
theorem Moves.then{a b c:Par}(h:Moves a b)(k:Moves b c):Moves a c:=h.goes_then k.goes
theorem Moves.lt{a b:Par}{n:Nat}(h:Moves a b)(k:rem a<=n)(h0:a.err=0):rem b<n:=h.eats.lt k h0
theorem Moves.good{a b:Par}(h:Moves a b):a8 b:=h.goes.good
theorem aC{t:Str}{s:Par}(h:a8 s)(c:isF t s=true):Moves s (au s):=⟨cQ h c,.inl (by have:=aG h c;omega)⟩
theorem ae{t:Str}{s:Par}(h:a8 s):Moves s (ak t s):=⟨ba h,sl h⟩
theorem aO{k:Int}{s:Par}(h:a8 s)(hk:¬k=0):Moves s (aE k s).2:=⟨(lu h hk).1,(lu h hk).2⟩
theorem bN{ns:List Str}{s:Par}(h:a8 s):Moves s (aJ ns s).2:=⟨(jT h).1,(jT h).2⟩
theorem dK{s:Par}(h:a8 s):Moves s (bg s).2:=⟨(kL h).1,(kL h).2⟩
theorem yi{e a:Int}{s:Par}(h:a8 s)(he:¬e=0):Moves s (cC e a s):=⟨hZ h he,.inr (iy he)⟩
theorem cP.moves{α:Type}{R:Par->α×Par}{n:Nat}(h:cP R n){s:Par}(hi:a8 s)(hn:rem s<n):Moves s (R s).2:=⟨(h s hi hn).1,(h s hi hn).2⟩
theorem cO{a:Str}{t:Trm}{s:Par}(h:a8 s):Moves s (dF a t s).2:=(ae h).then (dK (ae h).good)
theorem eZ{k:Int}{s:Par}(hi:a8 s)(hk:¬k=0)(c:(ai s).kind=k)(b:aQ s=false):Moves s (au s)/\rem (au s)+1=rem s:=by have h3:=bf.1 b;have h2:s.pos<(s.toks.length:Int):=fC (by have:=c;unfold ai at this;rw[this];exact hk);have:=mZ hi h2 h3;exact⟨⟨n5 hi h2 h3 (by have:=c;unfold ai at this;rw[this];exact hk),.inl (by omega)⟩,this⟩
theorem dW(n:Nat):dn aB n:=by intro x s hi h0 hn;have m:=(bN (ns:=x.names) hi).then (cO (a:=[58]) (t:=aY x (aJ x.names s).1) (bN hi).good);exact⟨m.goes,m.eats⟩
theorem bC{R:Par->Trm×Par}{n:Nat}(hR:cP R (n+1)):dn (ax R) n:=by intro x s hi h0 hn;exact hR s hi (by omega)
theorem eI{R:Par->Trm×Par}{n:Nat}(hR:cP R n):dn (an R) n:=by intro x s hi h0 hn;have m1:=bN (ns:=x.names) hi;have m2:=m1.then (ae (t:=[40]) m1.good);have m3:=m2.then (aO (k:=1) m2.good (by decide));have m4:=m3.then (cO (a:=[58]) (t:=bY (aY x (aJ x.names s).1) (aE 1 (ak [40] (aJ x.names s).2)).1.text) m3.good);have m5:=m4.then (ae (t:=[41]) m4.good);have m6:=m5.then (ae (t:=[45,62]) m5.good);have m7:=m6.then (hR.moves m6.good (m6.lt hn h0));exact⟨m7.goes,m7.eats⟩
theorem fm{R:Par->Trm×Par}{n:Nat}(hR:cP R n):dn (aj R) n:=by intro x s hi h0 hn;have m1:=bN (ns:=x.names) hi;have m2:=m1.then (ae (t:=[61]) m1.good);have m3:=m2.then (hR.moves m2.good (m2.lt hn h0));exact⟨m3.goes,m3.eats⟩
theorem vB{R:Par->Trm×Par}{n:Nat}(hR:cP R n){s:Par}(hi:a8 s)(hn:rem (ak [40] s)<n):Moves s (bP R s).2:=by have m1:=ae (t:=[40]) hi;have m2:=m1.then (hR.moves m1.good hn);exact m2.then (ae (t:=[41]) m2.good)
theorem Moves.ite{α:Type}{s:Par}{c:Prop}[Decidable c]{p q:α×Par}(h1:c->Moves s p.2)(h2:¬c->Moves s q.2):Moves s (if c then p else q).2:=by
 by_cases h:c
 ·rw[Hj h];exact h1 h
 ·rw[Hh h];exact h2 h
theorem fa{R:Par->Trm×Par}{n:Nat}(hR:cP R n){s:Par}(hi:a8 s)(hn:rem s<n+1):Moves s (cr R s).2:=by
 unfold cr;refine Moves.ite (fun b=>⟨Goes.refl hi,.inr (D0.2 (b7.1 b))⟩) (fun b=>?_);have b:aQ s=false:=by simpa using b
 refine Moves.ite (fun c=>(eZ hi (by decide) c b).1) (fun _=>?_);refine Moves.ite (fun c=>(eZ hi (by decide) c b).1) (fun _=>?_);refine Moves.ite (fun c=>?_) (fun _=>?_)
 ·have m:=(eZ hi (by decide) c b).1;refine Moves.ite (fun c2=>?_) (fun _=>m);have m2:=m.then (aC m.good c2);exact m2.then (aO m2.good (by decide))
 refine Moves.ite (fun c=>aC hi c) (fun _=>?_);refine Moves.ite (fun c=>aC hi c) (fun _=>?_);refine Moves.ite (fun c=>?_) (fun _=>?_)
 ·have m:=aC hi c;have r:=aG hi c;have m2:=m.then (hR.moves m.good (by omega));refine Moves.ite (fun c2=>?_) (fun _=>m2.then (ae m2.good));have m3:=m2.then (aC m2.good c2);have m4:=m3.then (dK m3.good);exact m4.then (ae m4.good)
 refine Moves.ite (fun c=>?_) (fun _=>?_)
 ·have m:=aC hi c;have r:=aG hi c;exact m.goes_then (aI (fm hR) [44] [125] _ m.good (by omega))
 have inn:∀k:Int,¬k=0->∀t:Str,isF t s=true->Moves s (bP R (aE k (au s)).2).2:=fun k hk t c=>by have m:=aC hi c;have r:=aG hi c;have m2:=aO (k:=k) m.good hk;have m3:=ae (t:=[40]) m2.good;exact(m.then m2).then (vB hR m2.good (by have:=m2.goes.le;have:=m3.goes.le;omega))
 refine Moves.ite (fun c=>inn 1 (by decide) _ c) (fun _=>?_);refine Moves.ite (fun c=>inn 2 (by decide) _ c) (fun _=>?_);refine Moves.ite (fun c=>inn 2 (by decide) _ c) (fun _=>?_);exact yi hi (by decide)
theorem dt{R:Par->Trm×Par}{n:Nat}(hR:cP R n)(p:Int):∀(k:Nat)(t:Trm)(s:Par),a8 s->rem s<n+1->Goes s (dJ R p k t s).2
 |0,t,s,hi,_=>Goes.refl hi
 |k+1,t,s,hi,hn=>by
  simp only[dJ];split
  ·exact Goes.refl hi
  split
  ·rename_i c;have m:=aC hi c;have r:=aG hi c;have hp:=bA (ct c).2;obtain⟨j,rfl⟩:∃j,n=j+1:=⟨n-1,by have:=bA (ct c).2;have:rem (au s)=rem (au s):=rfl;omega⟩;have g:=aI (bC hR) [44] [41] (⟨7,[],[],0,[],[],[],[t],p⟩:Trm) m.good (by omega);exact(m.goes.trans g).trans (dt hR p k _ _ g.good (by have:=g.le;omega))
  split
  ·rename_i c;have m:=aC hi c;have m2:=m.then (aO (k:=1) m.good (by decide));exact m2.goes.trans (dt hR p k _ _ m2.good (by have:=m2.goes.le;omega))
  ·exact Goes.refl hi
theorem vC{R:Par->Trm×Par}{n:Nat}(hR:cP R n){s:Par}(hi:a8 s)(hn:rem s<n+1):Moves s (dT R s).2:=by have m:=fa hR hi hn;exact m.goes_then (dt hR _ _ _ _ m.good (by have:=m.goes.le;omega))
theorem vD{R:Par->Trm×Par}{n:Nat}(hR:cP R n):cP (gw R) (n+1):=by
 intro s hi hn
 suffices m:Moves s (gw R s).2 from⟨m.goes,m.eats⟩
 unfold gw;simp only;split
 ·rename_i c;have m:=aC hi c;have r:=aG hi c;have m2:=m.then (ae (t:=[40]) m.good);have g:=aI (dW n) [44] [41] (⟨6,[],[],0,[],[],[],[],(ai s).pos⟩:Trm) m2.good (by have:=(ae (t:=[40]) m.good).goes.le;omega);have m3:=(m2.goes_then g).then (ae (t:=[45,62]) g.good);have l1:=(ae (t:=[40]) m.good).goes.le;have l2:=g.le;have l3:=(ae (t:=[45,62]) g.good).goes.le;exact m3.then (hR.moves m3.good (by omega))
 split
 ·rename_i c;have m:=aC hi c;have r:=aG hi c;have a:=aO (k:=1) m.good (by decide);have b:=a.then (ae (t:=[61]) a.good);have p1:=b.then (hR.moves b.good (by have:=b.goes.le;omega));have q:=p1.then (ae (t:=[105,110]) p1.good);exact m.then (q.then (hR.moves q.good (by have:=q.goes.le;omega)))
 split
 ·rename_i c;have m:=aC hi c;have r:=aG hi c;have p1:=hR.moves m.good (by omega);have b:=p1.then (ae (t:=[116,104,101,110]) p1.good);have p2:=b.then (hR.moves b.good (by have:=b.goes.le;omega));have d:=p2.then (ae (t:=[101,108,115,101]) p2.good);have p3:=d.then (hR.moves d.good (by have:=d.goes.le;omega));exact m.then (p3.then (cO p3.good))
 split
 ·rename_i c;have m:=aC hi c;have r:=aG hi c;have p1:=hR.moves m.good (by omega);have b:=p1.then (ae (t:=[111,102]) p1.good);have d:=b.then (ae (t:=[123]) b.good);have g:=aI (eI hR) [124] [125] (ax R ⟨13,[],[],0,[],[],[],[],(ai s).pos⟩ (au s)).1 d.good (by have:=d.goes.le;omega);have e:=d.goes_then g;exact m.then (e.then (cO e.good))
 split
 ·rename_i c;have m:=aC hi c;have r:=aG hi c;have hp:=bA (ct c).2;obtain⟨j,rfl⟩:∃j,n=j+1:=⟨n-1,by omega⟩;have g:=aI (bC hR) [44] [93] (⟨11,[],[],0,[],[],[],[],(ai s).pos⟩:Trm) m.good (by omega);have e:=m.goes_then g;exact e.then (cO e.good)
 ·exact vC hR hi hn
theorem cD:∀n,cP (a7 n) n
 |0=>fun s _ h=>absurd h (It _)
 |n+1=>vD (cD n)
end Go.Pd
end
section
namespace Go.AL
variable [Tabs]
section
variable {P:Program} {f:Nat}
def pT_(F:Trm->Par->Ans):Pat
 |[.ptr 900 0,.ptr 901 0],[(900,.box (.agg [.int .i64 k,.str g,.str q,.int .i64 z,.nils,.nils,.nils,.nils,.int .i64 pp])),(901,.box (.ptr 902 0)),(902,.box c)]=>
  (match arg (.st .par) c with|some s=>some (F ⟨k,g,q,z,[],[],[],[],pp⟩ s)|_=>none)
 |_,_=>none
def sT_(x:Trm)(c:AV):List (Nat×SObj):=
 [(900,.box (.agg [.int .i64 (x).kind,.str (x).pkg,.str (x).name,.int .i64 (x).n,.nils,.nils,.nils,.nils,.int .i64 (x).pos])),(901,.box (.ptr 902 0)),(902,.box c)]
theorem Gn{F:Trm->Par->Ans}(he:az P f)(hp:∀x s,(F x s).pan=none)(hu:∀x s,∀i∈[900,901,902],i∈aq (F x s).upd)
 (h:∀x s,x.names=[]->x.vars=[]->x.shapes=[]->x.parts=[]->(∀q,(F x s).ob=some q->q)->ay P f [.ptr 900 0,.ptr 901 0] (sT_ x (.st .par s)) (F x s)):ah P f (pT_ F):=by
 intro args S A hA ho _;unfold pT_ at hA;split at hA
 ·split at hA
  ·rename_i hs;simp only[Xs]at hA;subst hA;refine⟨he,ay.slots ?_ (hp _ _) (by simpa[aq]using hu _ _) (h _ _ rfl rfl rfl rfl ho)⟩;exact .cons (RdO.refl _) (.cons (RdO.refl _) (.cons (dk _ hs) .nil))
  ·cases hA
 ·cases hA
def tW(F:Trm->Par->Nat->Ans):Pat
 |[.ptr 900 0,.ptr 901 0],[(900,.box (.agg [.int .i64 k,.str g,.str q,.int .i64 z,.nils,.nils,.nils,.lst (.st .term) ps (some 902),.int .i64 pp])),(901,.box (.ptr 903 0)),(902,.tail (.st .term) mp),(903,.box c)]=>
  (match arg (.st .par) c with|some s=>some (F ⟨k,g,q,z,[],[],[],ps,pp⟩ s mp)|_=>none)
 |_,_=>none
def Gp(x:Trm)(c:AV)(mp:Nat):List (Nat×SObj):=
 [(900,.box (.agg [.int .i64 (x).kind,.str (x).pkg,.str (x).name,.int .i64 (x).n,.nils,.nils,.nils,.lst (.st .term) (x).parts (some 902),.int .i64 (x).pos])),(901,.box (.ptr 903 0)),(902,.tail (.st .term) mp),(903,.box c)]
theorem zW{F:Trm->Par->Nat->Ans}(he:az P f)(hp:∀x s mp,(F x s mp).pan=none)(hu:∀x s mp,∀i∈[900,901,902,903],i∈aq (F x s mp).upd)
 (h:∀x s mp,x.names=[]->x.vars=[]->x.shapes=[]->(∀q,(F x s mp).ob=some q->q)->ay P f [.ptr 900 0,.ptr 901 0] (Gp x (.st .par s) mp) (F x s mp)):ah P f (tW F):=by
 intro args S A hA ho _;unfold tW at hA;split at hA
 ·split at hA
  ·rename_i hs;simp only[Xs]at hA;subst hA;refine⟨he,ay.slots ?_ (hp _ _ _) (by simpa[aq]using hu _ _ _) (h _ _ _ rfl rfl rfl ho)⟩;exact .cons (RdO.refl _) (.cons (RdO.refl _) (.cons (RdO.refl _) (.cons (dk _ hs) .nil)))
  ·cases hA
 ·cases hA
def zX(F:Trm->Par->Nat->Nat->Ans):Pat
 |[.ptr 900 0,.ptr 901 0],[(900,.box (.agg [.int .i64 k,.str g,.str q,.int .i64 z,.lst .str ns (some 902),.nils,.lst (.st .shape) ss (some 903),.nils,.int .i64 pp])),(901,.box (.ptr 904 0)),(902,.tail .str mn),(903,.tail (.st .shape) ms),(904,.box c)]=>
  (match arg (.st .par) c with|some s=>some (F ⟨k,g,q,z,ns,[],ss,[],pp⟩ s mn ms)|_=>none)
 |_,_=>none
def G7(x:Trm)(c:AV)(mn ms:Nat):List (Nat×SObj):=
 [(900,.box (.agg [.int .i64 (x).kind,.str (x).pkg,.str (x).name,.int .i64 (x).n,.lst .str (x).names (some 902),.nils,.lst (.st .shape) (x).shapes (some 903),.nils,.int .i64 (x).pos])),(901,.box (.ptr 904 0)),(902,.tail .str mn),(903,.tail (.st .shape) ms),(904,.box c)]
theorem D5{F:Trm->Par->Nat->Nat->Ans}(he:az P f)(hp:∀x s mn ms,(F x s mn ms).pan=none)(hu:∀x s mn ms,∀i∈[900,901,902,903,904],i∈aq (F x s mn ms).upd)
 (h:∀x s mn ms,x.vars=[]->x.parts=[]->(∀q,(F x s mn ms).ob=some q->q)->ay P f [.ptr 900 0,.ptr 901 0] (G7 x (.st .par s) mn ms) (F x s mn ms)):ah P f (zX F):=by
 intro args S A hA ho _;unfold zX at hA;split at hA
 ·split at hA
  ·rename_i hs;simp only[Xs]at hA;subst hA;refine⟨he,ay.slots ?_ (hp _ _ _ _) (by simpa[aq]using hu _ _ _ _) (h _ _ _ _ rfl rfl ho)⟩;exact .cons (RdO.refl _) (.cons (RdO.refl _) (.cons (RdO.refl _) (.cons (RdO.refl _) (.cons (dk _ hs) .nil))))
  ·cases hA
 ·cases hA
def vE(F:Trm->Par->Nat->Nat->Ans):Pat
 |[.ptr 900 0,.ptr 901 0],[(900,.box (.agg [.int .i64 k,.str g,.str q,.int .i64 z,.lst .str ns (some 902),.nils,.nils,.lst (.st .term) ps (some 903),.int .i64 pp])),(901,.box (.ptr 904 0)),(902,.tail .str mn),(903,.tail (.st .term) mp),(904,.box c)]=>
  (match arg (.st .par) c with|some s=>some (F ⟨k,g,q,z,ns,[],[],ps,pp⟩ s mn mp)|_=>none)
 |_,_=>none
def G8(x:Trm)(c:AV)(mn mp:Nat):List (Nat×SObj):=
 [(900,.box (.agg [.int .i64 (x).kind,.str (x).pkg,.str (x).name,.int .i64 (x).n,.lst .str (x).names (some 902),.nils,.nils,.lst (.st .term) (x).parts (some 903),.int .i64 (x).pos])),(901,.box (.ptr 904 0)),(902,.tail .str mn),(903,.tail (.st .term) mp),(904,.box c)]
theorem D6{F:Trm->Par->Nat->Nat->Ans}(he:az P f)(hp:∀x s mn mp,(F x s mn mp).pan=none)(hu:∀x s mn mp,∀i∈[900,901,902,903,904],i∈aq (F x s mn mp).upd)
 (h:∀x s mn mp,x.vars=[]->x.shapes=[]->(∀q,(F x s mn mp).ob=some q->q)->ay P f [.ptr 900 0,.ptr 901 0] (G8 x (.st .par s) mn mp) (F x s mn mp)):ah P f (vE F):=by
 intro args S A hA ho _;unfold vE at hA;split at hA
 ·split at hA
  ·rename_i hs;simp only[Xs]at hA;subst hA;refine⟨he,ay.slots ?_ (hp _ _ _ _) (by simpa[aq]using hu _ _ _ _) (h _ _ _ _ rfl rfl ho)⟩;exact .cons (RdO.refl _) (.cons (RdO.refl _) (.cons (RdO.refl _) (.cons (RdO.refl _) (.cons (dk _ hs) .nil))))
  ·cases hA
 ·cases hA
def n9(F:Trm->Par->Nat->Nat->Nat->Nat->Ans):Pat
 |[.ptr 900 0,.ptr 901 0],[(900,.box (.agg [.int .i64 k,.str g,.str q,.int .i64 z,.lst .str ns (some 902),.lst .str vs (some 903),.lst (.st .shape) ss (some 904),.lst (.st .term) ps (some 905),.int .i64 pp])),(901,.box (.ptr 906 0)),(902,.tail .str mn),(903,.tail .str mv),(904,.tail (.st .shape) ms),(905,.tail (.st .term) mp),(906,.box c)]=>
  (match arg (.st .par) c with|some s=>some (F ⟨k,g,q,z,ns,vs,ss,ps,pp⟩ s mn mv ms mp)|_=>none)
 |_,_=>none
def zY(x:Trm)(c:AV)(mn mv ms mp:Nat):List (Nat×SObj):=
 [(900,.box (.agg [.int .i64 (x).kind,.str (x).pkg,.str (x).name,.int .i64 (x).n,.lst .str (x).names (some 902),.lst .str (x).vars (some 903),.lst (.st .shape) (x).shapes (some 904),.lst (.st .term) (x).parts (some 905),.int .i64 (x).pos])),(901,.box (.ptr 906 0)),(902,.tail .str mn),(903,.tail .str mv),(904,.tail (.st .shape) ms),(905,.tail (.st .term) mp),(906,.box c)]
theorem yj{F:Trm->Par->Nat->Nat->Nat->Nat->Ans}(he:az P f)(hp:∀x s mn mv ms mp,(F x s mn mv ms mp).pan=none)(hu:∀x s mn mv ms mp,∀i∈[900,901,902,903,904,905,906],i∈aq (F x s mn mv ms mp).upd)
 (h:∀x s mn mv ms mp,True->(∀q,(F x s mn mv ms mp).ob=some q->q)->ay P f [.ptr 900 0,.ptr 901 0] (zY x (.st .par s) mn mv ms mp) (F x s mn mv ms mp)):ah P f (n9 F):=by
 intro args S A hA ho _;unfold n9 at hA;split at hA
 ·split at hA
  ·rename_i hs;simp only[Xs]at hA;subst hA;refine⟨he,ay.slots ?_ (hp _ _ _ _ _ _) (by simpa[aq]using hu _ _ _ _ _ _) (h _ _ _ _ _ _ trivial ho)⟩;exact .cons (RdO.refl _) (.cons (RdO.refl _) (.cons (RdO.refl _) (.cons (RdO.refl _) (.cons (RdO.refl _) (.cons (RdO.refl _) (.cons (dk _ hs) .nil))))))
  ·cases hA
 ·cases hA
def D7(F:Trm->Str->Par->Nat->Nat->Ans):Pat
 |[.str a,.ptr 900 0,.ptr 901 0],[(900,.box (.ptr 902 0)),(901,.box (.agg [.int .i64 k,.str g,.str q,.int .i64 z,.lst .str ns (some 903),.nils,.lst (.st .shape) ss (some 904),.nils,.int .i64 pp])),(902,.box c),(903,.tail .str mn),(904,.tail (.st .shape) ms)]=>
  (match arg (.st .par) c with|some s=>some (F ⟨k,g,q,z,ns,[],ss,[],pp⟩ a s mn ms)|_=>none)
 |_,_=>none
def GP(x:Trm)(c:AV)(mn ms:Nat):List (Nat×SObj):=
 [(900,.box (.ptr 902 0)),(901,.box (.agg [.int .i64 (x).kind,.str (x).pkg,.str (x).name,.int .i64 (x).n,.lst .str (x).names (some 903),.nils,.lst (.st .shape) (x).shapes (some 904),.nils,.int .i64 (x).pos])),(902,.box c),(903,.tail .str mn),(904,.tail (.st .shape) ms)]
theorem D8{F:Trm->Str->Par->Nat->Nat->Ans}(he:az P f)(hp:∀x a s mn ms,(F x a s mn ms).pan=none)(hu:∀x a s mn ms,∀i∈[900,901,902,903,904],i∈aq (F x a s mn ms).upd)
 (h:∀x a s mn ms,x.vars=[]->x.parts=[]->(∀q,(F x a s mn ms).ob=some q->q)->ay P f [.str a,.ptr 900 0,.ptr 901 0] (GP x (.st .par s) mn ms) (F x a s mn ms)):ah P f (D7 F):=by
 intro args S A hA ho _;unfold D7 at hA;split at hA
 ·split at hA
  ·rename_i hs;simp only[Xs]at hA;subst hA;refine⟨he,ay.slots ?_ (hp _ _ _ _ _) (by simpa[aq]using hu _ _ _ _ _) (h _ _ _ _ _ rfl rfl ho)⟩;exact .cons (RdO.refl _) (.cons (RdO.refl _) (.cons (dk _ hs) (.cons (RdO.refl _) (.cons (RdO.refl _) .nil))))
  ·cases hA
 ·cases hA
def Gq(F:Trm->Str->Par->Nat->Ans):Pat
 |[.str a,.ptr 900 0,.ptr 901 0],[(900,.box (.ptr 902 0)),(901,.box (.agg [.int .i64 k,.str g,.str q,.int .i64 z,.nils,.nils,.nils,.lst (.st .term) ps (some 903),.int .i64 pp])),(902,.box c),(903,.tail (.st .term) mp)]=>
  (match arg (.st .par) c with|some s=>some (F ⟨k,g,q,z,[],[],[],ps,pp⟩ a s mp)|_=>none)
 |_,_=>none
def sY_p(x:Trm)(c:AV)(mp:Nat):List (Nat×SObj):=
 [(900,.box (.ptr 902 0)),(901,.box (.agg [.int .i64 (x).kind,.str (x).pkg,.str (x).name,.int .i64 (x).n,.nils,.nils,.nils,.lst (.st .term) (x).parts (some 903),.int .i64 (x).pos])),(902,.box c),(903,.tail (.st .term) mp)]
theorem F4{F:Trm->Str->Par->Nat->Ans}(he:az P f)(hp:∀x a s mp,(F x a s mp).pan=none)(hu:∀x a s mp,∀i∈[900,901,902,903],i∈aq (F x a s mp).upd)
 (h:∀x a s mp,x.names=[]->x.vars=[]->x.shapes=[]->(∀q,(F x a s mp).ob=some q->q)->ay P f [.str a,.ptr 900 0,.ptr 901 0] (sY_p x (.st .par s) mp) (F x a s mp)):ah P f (Gq F):=by
 intro args S A hA ho _;unfold Gq at hA;split at hA
 ·split at hA
  ·rename_i hs;simp only[Xs]at hA;subst hA;refine⟨he,ay.slots ?_ (hp _ _ _ _) (by simpa[aq]using hu _ _ _ _) (h _ _ _ _ rfl rfl rfl ho)⟩;exact .cons (RdO.refl _) (.cons (RdO.refl _) (.cons (dk _ hs) (.cons (RdO.refl _) .nil)))
  ·cases hA
 ·cases hA
def tX(F:Trm->Str->Par->Nat->Nat->Nat->Nat->Ans):Pat
 |[.str a,.ptr 900 0,.ptr 901 0],[(900,.box (.ptr 902 0)),(901,.box (.agg [.int .i64 k,.str g,.str q,.int .i64 z,.lst .str ns (some 903),.lst .str vs (some 904),.lst (.st .shape) ss (some 905),.lst (.st .term) ps (some 906),.int .i64 pp])),(902,.box c),(903,.tail .str mn),(904,.tail .str mv),(905,.tail (.st .shape) ms),(906,.tail (.st .term) mp)]=>
  (match arg (.st .par) c with|some s=>some (F ⟨k,g,q,z,ns,vs,ss,ps,pp⟩ a s mn mv ms mp)|_=>none)
 |_,_=>none
def F5(x:Trm)(c:AV)(mn mv ms mp:Nat):List (Nat×SObj):=
 [(900,.box (.ptr 902 0)),(901,.box (.agg [.int .i64 (x).kind,.str (x).pkg,.str (x).name,.int .i64 (x).n,.lst .str (x).names (some 903),.lst .str (x).vars (some 904),.lst (.st .shape) (x).shapes (some 905),.lst (.st .term) (x).parts (some 906),.int .i64 (x).pos])),(902,.box c),(903,.tail .str mn),(904,.tail .str mv),(905,.tail (.st .shape) ms),(906,.tail (.st .term) mp)]
theorem yk{F:Trm->Str->Par->Nat->Nat->Nat->Nat->Ans}(he:az P f)(hp:∀x a s mn mv ms mp,(F x a s mn mv ms mp).pan=none)(hu:∀x a s mn mv ms mp,∀i∈[900,901,902,903,904,905,906],i∈aq (F x a s mn mv ms mp).upd)
 (h:∀x a s mn mv ms mp,True->(∀q,(F x a s mn mv ms mp).ob=some q->q)->ay P f [.str a,.ptr 900 0,.ptr 901 0] (F5 x (.st .par s) mn mv ms mp) (F x a s mn mv ms mp)):ah P f (tX F):=by
 intro args S A hA ho _;unfold tX at hA;split at hA
 ·split at hA
  ·rename_i hs;simp only[Xs]at hA;subst hA;refine⟨he,ay.slots ?_ (hp _ _ _ _ _ _ _) (by simpa[aq]using hu _ _ _ _ _ _ _) (h _ _ _ _ _ _ _ trivial ho)⟩;exact .cons (RdO.refl _) (.cons (RdO.refl _) (.cons (dk _ hs) (.cons (RdO.refl _) (.cons (RdO.refl _) (.cons (RdO.refl _) (.cons (RdO.refl _) .nil))))))
  ·cases hA
 ·cases hA
def Gr(gY:Nat)(F:Trm->Par->Nat->Nat->Ans):Pat
 |[.ptr 900 0,.ptr 901 0,.ptr 902 0],[(900,.box (.agg [.int .i64 k,.str g,.str q,.int .i64 z,.lst .str ns (some 903),.nils,.lst (.st .shape) ss (some 904),.nils,.int .i64 pp])),(901,.box (.ptr 905 0)),(902,.box (.fn gY' [.ptr 901 0,.ptr 900 0])),(903,.tail .str mn),(904,.tail (.st .shape) ms),(905,.box c)]=>
  (match Nat.beq gY' gY,arg (.st .par) c with|true,some s=>some (F ⟨k,g,q,z,ns,[],ss,[],pp⟩ s mn ms)|_,_=>none)
 |_,_=>none
def sFun(gY:Nat)(x:Trm)(c:AV)(mn ms:Nat):List (Nat×SObj):=
 [(900,.box (.agg [.int .i64 (x).kind,.str (x).pkg,.str (x).name,.int .i64 (x).n,.lst .str (x).names (some 903),.nils,.lst (.st .shape) (x).shapes (some 904),.nils,.int .i64 (x).pos])),(901,.box (.ptr 905 0)),(902,.box (.fn gY [.ptr 901 0,.ptr 900 0])),(903,.tail .str mn),(904,.tail (.st .shape) ms),(905,.box c)]
theorem F6{gY:Nat}{F:Trm->Par->Nat->Nat->Ans}(he:az P f)(hp:∀x s mn ms,(F x s mn ms).pan=none)(hu:∀x s mn ms,∀i∈[900,901,902,903,904,905],i∈aq (F x s mn ms).upd)
 (h:∀x s mn ms,x.vars=[]->x.parts=[]->(∀q,(F x s mn ms).ob=some q->q)->ay P f [.ptr 900 0,.ptr 901 0,.ptr 902 0] (sFun gY x (.st .par s) mn ms) (F x s mn ms)):ah P f (Gr gY F):=by
 intro args S A hA ho _;unfold Gr at hA;split at hA
 ·split at hA
  ·rename_i hb0 hs;simp only[Xs]at hA;subst hA;have e0:=HF hb0;subst e0;refine⟨he,ay.slots ?_ (hp _ _ _ _) (by simpa[aq]using hu _ _ _ _) (h _ _ _ _ rfl rfl ho)⟩;exact .cons (RdO.refl _) (.cons (RdO.refl _) (.cons (RdO.refl _) (.cons (RdO.refl _) (.cons (RdO.refl _) (.cons (dk _ hs) .nil)))))
  ·cases hA
 ·cases hA
def D9(gY:Nat)(gT:Nat)(F:Trm->Par->Nat->Nat->Nat->Nat->Ans):Pat
 |[.ptr 900 0,.ptr 901 0,.ptr 902 0,.ptr 903 0],[(900,.box (.agg [.int .i64 k,.str g,.str q,.int .i64 z,.lst .str ns (some 904),.lst .str vs (some 905),.lst (.st .shape) ss (some 906),.lst (.st .term) ps (some 907),.int .i64 pp])),(901,.box (.ptr 908 0)),(902,.box (.fn gY' [.ptr 901 0,.ptr 900 0])),(903,.box (.fn gT' [.ptr 900 0,.ptr 901 0])),(904,.tail .str mn),(905,.tail .str mv),(906,.tail (.st .shape) ms),(907,.tail (.st .term) mp),(908,.box c)]=>
  (match Nat.beq gY' gY,Nat.beq gT' gT,arg (.st .par) c with|true,true,some s=>some (F ⟨k,g,q,z,ns,vs,ss,ps,pp⟩ s mn mv ms mp)|_,_,_=>none)
 |_,_=>none
def sWay(gY:Nat)(gT:Nat)(x:Trm)(c:AV)(mn mv ms mp:Nat):List (Nat×SObj):=
 [(900,.box (.agg [.int .i64 (x).kind,.str (x).pkg,.str (x).name,.int .i64 (x).n,.lst .str (x).names (some 904),.lst .str (x).vars (some 905),.lst (.st .shape) (x).shapes (some 906),.lst (.st .term) (x).parts (some 907),.int .i64 (x).pos])),(901,.box (.ptr 908 0)),(902,.box (.fn gY [.ptr 901 0,.ptr 900 0])),(903,.box (.fn gT [.ptr 900 0,.ptr 901 0])),(904,.tail .str mn),(905,.tail .str mv),(906,.tail (.st .shape) ms),(907,.tail (.st .term) mp),(908,.box c)]
theorem F7{gY:Nat}{gT:Nat}{F:Trm->Par->Nat->Nat->Nat->Nat->Ans}(he:az P f)(hp:∀x s mn mv ms mp,(F x s mn mv ms mp).pan=none)(hu:∀x s mn mv ms mp,∀i∈[900,901,902,903,904,905,906,907,908],i∈aq (F x s mn mv ms mp).upd)
 (h:∀x s mn mv ms mp,True->(∀q,(F x s mn mv ms mp).ob=some q->q)->ay P f [.ptr 900 0,.ptr 901 0,.ptr 902 0,.ptr 903 0] (sWay gY gT x (.st .par s) mn mv ms mp) (F x s mn mv ms mp)):ah P f (D9 gY gT F):=by
 intro args S A hA ho _;unfold D9 at hA;split at hA
 ·split at hA
  ·rename_i hb0 hb1 hs;simp only[Xs]at hA;subst hA;have e0:=HF hb0;subst e0;have e1:=HF hb1;subst e1;refine⟨he,ay.slots ?_ (hp _ _ _ _ _ _) (by simpa[aq]using hu _ _ _ _ _ _) (h _ _ _ _ _ _ trivial ho)⟩;exact .cons (RdO.refl _) (.cons (RdO.refl _) (.cons (RdO.refl _) (.cons (RdO.refl _) (.cons (RdO.refl _) (.cons (RdO.refl _) (.cons (RdO.refl _) (.cons (RdO.refl _) (.cons (dk _ hs) .nil))))))))
  ·cases hA
 ·cases hA
def zZ(gC:Nat)(gY:Nat)(F:Trm->Str->Str->Par->Ans):Pat
 |[.ptr 900 0,.str b,.str e,.fn gC' [.ptr 901 0,.ptr 902 0,.ptr 903 0]],[(900,.box c),(901,.box (.agg [.int .i64 k,.str g,.str q,.int .i64 z,.nils,.nils,.nils,.nils,.int .i64 pp])),(902,.box (.ptr 900 0)),(903,.box (.fn gY' [.ptr 902 0,.ptr 901 0]))]=>
  (match Nat.beq gC' gC,Nat.beq gY' gY,arg (.st .par) c with|true,true,some s=>some (F ⟨k,g,q,z,[],[],[],[],pp⟩ b e s)|_,_,_=>none)
 |_,_=>none
def G9(gC:Nat)(gY:Nat)(x:Trm)(c:AV):List (Nat×SObj):=
 [(900,.box c),(901,.box (.agg [.int .i64 (x).kind,.str (x).pkg,.str (x).name,.int .i64 (x).n,.nils,.nils,.nils,.nils,.int .i64 (x).pos])),(902,.box (.ptr 900 0)),(903,.box (.fn gY [.ptr 902 0,.ptr 901 0]))]
theorem Da{gC:Nat}{gY:Nat}{F:Trm->Str->Str->Par->Ans}(he:az P f)(hp:∀x b e s,(F x b e s).pan=none)(hu:∀x b e s,∀i∈[900,901,902,903],i∈aq (F x b e s).upd)
 (h:∀x b e s,x.names=[]->x.vars=[]->x.shapes=[]->x.parts=[]->(∀q,(F x b e s).ob=some q->q)->ay P f [.ptr 900 0,.str b,.str e,.fn gC [.ptr 901 0,.ptr 902 0,.ptr 903 0]] (G9 gC gY x (.st .par s)) (F x b e s)):ah P f (zZ gC gY F):=by
 intro args S A hA ho _;unfold zZ at hA;split at hA
 ·split at hA
  ·rename_i hb0 hb1 hs;simp only[Xs]at hA;subst hA;have e0:=HF hb0;subst e0;have e1:=HF hb1;subst e1;refine⟨he,ay.slots ?_ (hp _ _ _ _) (by simpa[aq]using hu _ _ _ _) (h _ _ _ _ rfl rfl rfl rfl ho)⟩;exact .cons (dk _ hs) (.cons (RdO.refl _) (.cons (RdO.refl _) (.cons (RdO.refl _) .nil)))
  ·cases hA
 ·cases hA
def Aa(gC:Nat)(gY:Nat)(gT:Nat)(F:Trm->Str->Str->Par->Nat->Ans):Pat
 |[.ptr 900 0,.str b,.str e,.fn gC' [.ptr 901 0,.ptr 902 0,.ptr 903 0,.ptr 904 0]],[(900,.box c),(901,.box (.agg [.int .i64 k,.str g,.str q,.int .i64 z,.nils,.nils,.nils,.lst (.st .term) ps (some 905),.int .i64 pp])),(902,.box (.ptr 900 0)),(903,.box (.fn gY' [.ptr 902 0,.ptr 901 0])),(904,.box (.fn gT' [.ptr 901 0,.ptr 902 0])),(905,.tail (.st .term) mp)]=>
  (match Nat.beq gC' gC,Nat.beq gY' gY,Nat.beq gT' gT,arg (.st .par) c with|true,true,true,some s=>some (F ⟨k,g,q,z,[],[],[],ps,pp⟩ b e s mp)|_,_,_,_=>none)
 |_,_=>none
def Ga(gC:Nat)(gY:Nat)(gT:Nat)(x:Trm)(c:AV)(mp:Nat):List (Nat×SObj):=
 [(900,.box c),(901,.box (.agg [.int .i64 (x).kind,.str (x).pkg,.str (x).name,.int .i64 (x).n,.nils,.nils,.nils,.lst (.st .term) (x).parts (some 905),.int .i64 (x).pos])),(902,.box (.ptr 900 0)),(903,.box (.fn gY [.ptr 902 0,.ptr 901 0])),(904,.box (.fn gT [.ptr 901 0,.ptr 902 0])),(905,.tail (.st .term) mp)]
theorem Db{gC:Nat}{gY:Nat}{gT:Nat}{F:Trm->Str->Str->Par->Nat->Ans}(he:az P f)(hp:∀x b e s mp,(F x b e s mp).pan=none)(hu:∀x b e s mp,∀i∈[900,901,902,903,904,905],i∈aq (F x b e s mp).upd)
 (h:∀x b e s mp,x.names=[]->x.vars=[]->x.shapes=[]->(∀q,(F x b e s mp).ob=some q->q)->ay P f [.ptr 900 0,.str b,.str e,.fn gC [.ptr 901 0,.ptr 902 0,.ptr 903 0,.ptr 904 0]] (Ga gC gY gT x (.st .par s) mp) (F x b e s mp)):ah P f (Aa gC gY gT F):=by
 intro args S A hA ho _;unfold Aa at hA;split at hA
 ·split at hA
  ·rename_i hb0 hb1 hb2 hs;simp only[Xs]at hA;subst hA;have e0:=HF hb0;subst e0;have e1:=HF hb1;subst e1;have e2:=HF hb2;subst e2;refine⟨he,ay.slots ?_ (hp _ _ _ _ _) (by simpa[aq]using hu _ _ _ _ _) (h _ _ _ _ _ rfl rfl rfl ho)⟩;exact .cons (dk _ hs) (.cons (RdO.refl _) (.cons (RdO.refl _) (.cons (RdO.refl _) (.cons (RdO.refl _) (.cons (RdO.refl _) .nil)))))
  ·cases hA
 ·cases hA
def qn(gC:Nat)(F:Trm->Str->Str->Par->Ans):Pat
 |[.ptr 900 0,.str b,.str e,.fn gC' [.ptr 901 0,.ptr 902 0]],[(900,.box c),(901,.box (.agg [.int .i64 k,.str g,.str q,.int .i64 z,.nils,.nils,.nils,.nils,.int .i64 pp])),(902,.box (.ptr 900 0))]=>
  (match Nat.beq gC' gC,arg (.st .par) c with|true,some s=>some (F ⟨k,g,q,z,[],[],[],[],pp⟩ b e s)|_,_=>none)
 |_,_=>none
def Dc(gC:Nat)(x:Trm)(c:AV):List (Nat×SObj):=
 [(900,.box c),(901,.box (.agg [.int .i64 (x).kind,.str (x).pkg,.str (x).name,.int .i64 (x).n,.nils,.nils,.nils,.nils,.int .i64 (x).pos])),(902,.box (.ptr 900 0))]
theorem vF{gC:Nat}{F:Trm->Str->Str->Par->Ans}(he:az P f)(hp:∀x b e s,(F x b e s).pan=none)(hu:∀x b e s,∀i∈[900,901,902],i∈aq (F x b e s).upd)
 (h:∀x b e s,x.names=[]->x.vars=[]->x.shapes=[]->x.parts=[]->(∀q,(F x b e s).ob=some q->q)->ay P f [.ptr 900 0,.str b,.str e,.fn gC [.ptr 901 0,.ptr 902 0]] (Dc gC x (.st .par s)) (F x b e s)):ah P f (qn gC F):=by
 intro args S A hA ho _;unfold qn at hA;split at hA
 ·split at hA
  ·rename_i hb0 hs;simp only[Xs]at hA;subst hA;have e0:=HF hb0;subst e0;refine⟨he,ay.slots ?_ (hp _ _ _ _) (by simpa[aq]using hu _ _ _ _) (h _ _ _ _ rfl rfl rfl rfl ho)⟩;exact .cons (dk _ hs) (.cons (RdO.refl _) (.cons (RdO.refl _) .nil))
  ·cases hA
 ·cases hA
def qo(gC:Nat)(F:Trm->Str->Str->Par->Nat->Ans):Pat
 |[.ptr 900 0,.str b,.str e,.fn gC' [.ptr 901 0,.ptr 902 0]],[(900,.box c),(901,.box (.agg [.int .i64 k,.str g,.str q,.int .i64 z,.nils,.nils,.nils,.lst (.st .term) ps (some 903),.int .i64 pp])),(902,.box (.ptr 900 0)),(903,.tail (.st .term) mp)]=>
  (match Nat.beq gC' gC,arg (.st .par) c with|true,some s=>some (F ⟨k,g,q,z,[],[],[],ps,pp⟩ b e s mp)|_,_=>none)
 |_,_=>none
def Dd(gC:Nat)(x:Trm)(c:AV)(mp:Nat):List (Nat×SObj):=
 [(900,.box c),(901,.box (.agg [.int .i64 (x).kind,.str (x).pkg,.str (x).name,.int .i64 (x).n,.nils,.nils,.nils,.lst (.st .term) (x).parts (some 903),.int .i64 (x).pos])),(902,.box (.ptr 900 0)),(903,.tail (.st .term) mp)]
theorem AY{gC:Nat}{F:Trm->Str->Str->Par->Nat->Ans}(he:az P f)(hp:∀x b e s mp,(F x b e s mp).pan=none)(hu:∀x b e s mp,∀i∈[900,901,902,903],i∈aq (F x b e s mp).upd)
 (h:∀x b e s mp,x.names=[]->x.vars=[]->x.shapes=[]->(∀q,(F x b e s mp).ob=some q->q)->ay P f [.ptr 900 0,.str b,.str e,.fn gC [.ptr 901 0,.ptr 902 0]] (Dd gC x (.st .par s) mp) (F x b e s mp)):ah P f (qo gC F):=by
 intro args S A hA ho _;unfold qo at hA;split at hA
 ·split at hA
  ·rename_i hb0 hs;simp only[Xs]at hA;subst hA;have e0:=HF hb0;subst e0;refine⟨he,ay.slots ?_ (hp _ _ _ _ _) (by simpa[aq]using hu _ _ _ _ _) (h _ _ _ _ _ rfl rfl rfl ho)⟩;exact .cons (dk _ hs) (.cons (RdO.refl _) (.cons (RdO.refl _) (.cons (RdO.refl _) .nil)))
  ·cases hA
 ·cases hA
end
end Go.AL
end
section
namespace Go.Pd
open Go.AL
def b9(l:List Tokn)(a:Int):Par:=if a<0∨(l.length:Int)<a then⟨l,a,2,0⟩else if 4097<l.length then⟨l,a,3,0⟩else⟨l,a,0,0⟩
def iJ{α:Type}(z:α)(p:α×Par):α×Int×Flt:=if aQ p.2=true then(z,0,⟨p.2.err,p.2.fat⟩)else(p.1,p.2.pos,⟨0,0⟩)
def Ab:Shape:=⟨0,[],[],[],[]⟩
def lR:Trm:=⟨0,[],[],0,[],[],[],[],0⟩
def gG(l:List Tokn)(a:Int):Shape×Int×Flt:=if aQ (b9 l a)=true then(Ab,0,⟨(b9 l a).err,(b9 l a).fat⟩)else iJ Ab (bg (b9 l a))
def cR(l:List Tokn)(a:Int):Flt:=if a=(l.length:Int)-1 then⟨0,0⟩else⟨90,(l.getD a.toNat (dfl (.st .token))).pos⟩
theorem fU{l:List Tokn}{a:Int}(hN:ml l)(h:aQ (b9 l a)=false):a8 (b9 l a):=by
 unfold b9 at h⊢;split
 ·rename_i c;rw[Hj c]at h;exact absurd h (by simp[aQ])
 rename_i c;rw[Hh c]at h;split
 ·rename_i d;rw[Hj d]at h;exact absurd h (by simp[aQ])
 rename_i d;exact⟨by show 0<=a;omega,by show a<=(l.length:Int);omega,by show l.length<=4097;omega,hN⟩
end Go.Pd
end
section
namespace Go.Pd
open Go.AL
mutual
def szT:Trm->Nat
 |⟨_,_,_,_,_,_,_,ps,_⟩=>szTL ps+1
def szTL:List Trm->Nat
 |[]=>0
 |p::r=>szT p+szTL r
end
mutual
def countT:Trm->Int->Int×Int
 |⟨_,_,_,_,_,_,_,ps,_⟩,m=>((countL ps m 1 0).1,(countL ps m 1 0).2+1)
def countL:List Trm->Int->Int->Int->Int×Int
 |[],_,n,d=>(n,d)
 |p::r,m,n,d=>if m<n then(n,d)else countL r m (n+(countT p (m-n)).1) (max d (countT p (m-n)).2)
end
theorem AZ(t:Trm)(m:Int):countT t m=((countL t.parts m 1 0).1,(countL t.parts m 1 0).2+1):=by cases t;rw[countT]
theorem mq(t:Trm):szT t=szTL t.parts+1:=by cases t;rw[szT]
theorem jU(t:Trm):1<=szT t:=by rw[mq];omega
mutual
theorem countT_bound:∀(t:Trm)(m:Int),0<=m->1<=(countT t m).1/\(countT t m).1<=m+1/\1<=(countT t m).2/\(countT t m).2<=(countT t m).1
 |⟨k,g,q,z,ns,vs,ss,ps,pp⟩,m,hm=>by have h:=countL_bound ps m 1 0 (by omega) (by omega) (by omega) (by omega);rw[countT];exact⟨h.1,h.2.1,by show 1<=(countL ps m 1 0).2+1;omega,by show(countL ps m 1 0).2+1<=_;omega⟩
theorem countL_bound:∀(l:List Trm)(m n d:Int),1<=n->n<=m+1->0<=d->d+1<=n->1<=(countL l m n d).1/\(countL l m n d).1<=m+1/\0<=(countL l m n d).2/\(countL l m n d).2+1<=(countL l m n d).1
 |[],m,n,d,h1,h2,h3,h4=>by rw[countL];exact⟨h1,h2,h3,h4⟩
 |p::r,m,n,d,h1,h2,h3,h4=>by
  rw[countL];split
  ·exact⟨h1,h2,h3,h4⟩
  ·have h:=countT_bound p (m-n) (by omega);exact countL_bound r m _ _ (by omega) (by omega) (by omega) (by omega)
end
theorem jV:∀{l:List Trm} {t:Trm},t∈l->szT t<=szTL l
 |p::r,t,h=>by
  rw[szTL];rcases Hy.1 h with e|e
  ·subst e;omega
  ·have:=jV e;omega
def cu{α:Type}(F:α->Bool):List α->Nat->Int
 |[],_=>-1
 |x::r,k=>if F x=true then cu F r (k+1)else(k:Int)
theorem kM{α:Type}(F:α->Bool):∀(l:List α)(k:Nat),decide (0<=cu F l k)=!l.all F
 |[],_=>rfl
 |x::r,k=>by
  rw[cu,HZ];by_cases h:F x=true
  ·rw[Hj h,kM F r (k+1),h];rfl
  ·rw[Hh h];have:F x=false:=by simpa using h
   rw[this];simp
def bn(s:Shape):Bool:=!decide (s.kind=10)
theorem jt(f:Shape->Bool):∀l:List Shape,allL f l=l.all (allS f)
 |[]=>rfl
 |p::r=>by rw[HZ,<-jt f r];rfl
end Go.Pd
end
section
namespace Go.AL
variable [Tabs]
section
variable {P:Program} {f:Nat}
def pfc(τ:Ty)(n g:Nat)(F:den τ->Ans):Pat
 |[a,.fn f [.ptr 900 0]],[(900,.box (.fn h []))]=>(match Nat.beq f n,Nat.beq h g,arg τ a with|true,true,some a=>some (F a)|_,_,_=>none)
 |_,_=>none
theorem kN{τ:Ty}{n g:Nat}{F:den τ->Ans}(he:az P f)(h:∀x,Wf τ x->(∀q,(F x).ob=some q->q)->ay P f [inj τ x,.fn n [.ptr 900 0]] [(900,.box (.fn g []))] (F x)):ah P f (pfc τ n g F):=by
 intro args S A hA ho _;unfold pfc at hA;split at hA
 ·split at hA
  ·rename_i hb hc hx;simp only[Xs]at hA;subst hA;have e:=HF hb;subst e;have e:=HF hc;subst e;exact⟨he,ay.args (.cons (Rd.arg hx) (.cons (Rd.refl _) .nil)) (ay.wf fun hw=>h _ hw.one ho)⟩
  ·cases hA
 ·cases hA
def pcl(τ:Ty)(g:Nat)(F:den τ->Ans):Pat
 |[a,.ptr 900 0],[(900,.box (.fn h []))]=>(match Nat.beq h g,arg τ a with|true,some a=>some (F a)|_,_=>none)
 |_,_=>none
theorem tY{τ:Ty}{g:Nat}{F:den τ->Ans}(he:az P f)(h:∀x,Wf τ x->(∀q,(F x).ob=some q->q)->ay P f [inj τ x,.ptr 900 0] [(900,.box (.fn g []))] (F x)):ah P f (pcl τ g F):=by
 intro args S A hA ho _;unfold pcl at hA;split at hA
 ·split at hA
  ·rename_i hc hx;simp only[Xs]at hA;subst hA;have e:=HF hc;subst e;exact⟨he,ay.args (.cons (Rd.arg hx) (.cons (Rd.refl _) .nil)) (ay.wf fun hw=>h _ hw.one ho)⟩
  ·cases hA
 ·cases hA
end
end Go.AL
end
section
namespace Go.Pd
open Go.AL
def bAt(s:Str)(a:Int):Int:=if a<(s.length:Int)then bI (s.getD a.toNat 0)else 0
def ao(p:Int->Bool)(s:Str)(a:Int):Nat:=((s.drop a.toNat).takeWhile fun b=>p (bI b)).length
def cut(s:Str)(a b:Int):Str:=(s.take b.toNat).drop a.toNat
def fJ(r:Str)(k:Nat):Bool:=decide (k<r.length)&&decide ((r.getD k 0).toNat/64=2)
def lH(r:Str)(k:Nat):Nat:=(r.getD k 0).toNat%64
def pb(c:Nat):Bool:=decide (c<1114112)&&!(decide (55296<=c)&&decide (c<57344))
def dU:Str->Nat
 |[]=>0
 |b::r=>
  if b.toNat<128 then 1
  else if b.toNat/32=6/\fJ r 0=true then(if 128<=b.toNat%32 *64+lH r 0 then 2 else 0)
  else if b.toNat/16=14/\fJ r 0=true/\fJ r 1=true then
   (if 2048<=b.toNat%16 *4096+lH r 0 *64+lH r 1/\pb (b.toNat%16 *4096+lH r 0 *64+lH r 1)=true then 3 else 0)
  else if b.toNat/8=30/\fJ r 0=true/\fJ r 1=true/\fJ r 2=true then
   (if 65536<=b.toNat%8 *262144+lH r 0 *4096+lH r 1 *64+lH r 2/\pb (b.toNat%8 *262144+lH r 0 *4096+lH r 1 *64+lH r 2)=true then 4 else 0)
  else 0
def fD:Nat->Str->Nat->Option Nat
 |0,_,_=>none
 |f+1,x,k=>if x=[]then none else if dU x=0 then some k else fD f (x.drop (dU x)) (k+dU x)
def bS(x:Str):Option Nat:=fD x.length x 0
structure SC where
 pos:Int
 out:List Tokn
 err:Int
 fat:Int
def ca(c:Int):Bool:=!decide (c=10)
def bO(c:Int):Bool:=cq c||cy c||de c||decide (c=46)||decide (c=45)
def Gs:Str:=[40,41,123,125,91,93,60,62,61,94,42,44,58,46,47,64,124]
def kO(s:Str):Bool:=decide (s=[60,61])||decide (s=[62,61])||decide (s=[45,62])||(decide (s.length=1)&&decide (s.getD 0 0∈Gs))
def gL(s:Str):Bool:=(s.all fun c=>de (bI c))&&decide (s.length<=15)&&(decide (s=[48])||!decide (bI (s.getD 0 0)=48))
def splitB(c:UInt8):Str->List Str
 |[]=>[[]]
 |b::r=>if b=c then[]::splitB c r else match splitB c r with|[]=>[[b]]|p::ps=>(b::p)::ps
def da(s:Str):Bool:=!decide (s=[])&&s.all fun c=>de (bI c)
def iK(c:Int):Bool:=de c||cq c||cy c||decide (c=45)
def fK(s:Str):Bool:=!decide (s=[])&&!(da s&&decide (bI (s.getD 0 0)=48)&&!decide (s=[48]))&&s.all fun c=>iK (bI c)
def De(s:Str):Int:=s.foldl (fun n c=>10 *n+((c.toNat:Int)-48)) 0
def fq(s:Str):Bool:=da s&&decide (s.length<=6)&&!(decide (1<s.length)&&decide (bI (s.getD 0 0)=48))
def dN(v:Vers):Int:=
 if v.major<0∨999999<v.major∨v.minor<0∨999999<v.minor∨v.patch<0∨999999<v.patch then 40
 else if 24<v.pre.length then 40 else if v.pre=[]then 0 else if(splitB 46 v.pre).all fK=true then 0 else 40
def aS(s:Str):Str:=s.takeWhile fun b=>!decide (b=45)
def dY(s:Str):Str:=s.drop ((aS s).length+1)
def iA(s:Str):Bool:=decide ((aS s).length<s.length)
def noV:Vers:=⟨0,0,0,[]⟩
def fb(s:Str):Vers:=⟨De ((splitB 46 (aS s)).getD 0 []),De ((splitB 46 (aS s)).getD 1 []),De ((splitB 46 (aS s)).getD 2 []),dY s⟩
def dO(s:Str):Vers×Int:=
 if ¬(splitB 46 (aS s)).length=3∨iA s=true/\dY s=[]then(noV,40)
 else if(splitB 46 (aS s)).all fq=true then(if dN (fb s)=0 then(fb s,0)else(noV,40))
 else(noV,40)
def fE(e a:Int)(c:SC):Bool×SC:=(false,⟨c.pos,c.out,e,a⟩)
def ez(k:Int)(t:Str)(fr:Int)(c:SC):Bool×SC:=(true,⟨c.pos,c.out++[⟨k,t,fr⟩],c.err,c.fat⟩)
def gB(s:Str)(a b:Int)(c:SC):Bool×SC:=match bS (cut s a b)with|none=>(true,c)|some k=>fE 30 (a+k) c
def bH(c:SC)(a:Int):SC:=⟨a,c.out,c.err,c.fat⟩
def aZ(c:Int):Bool:=decide (32<=c)&&!decide (c=34)&&!decide (c=92)
def iS(b:Int):Option Int:=if b=110 then some 10 else if b=116 then some 9 else if b=34 then some 34 else if b=92 then some 92 else none
def bZ(s:Str)(fr:Int):Nat->Str->SC->Str×Bool×SC
 |0,_,c=>([],false,c)
 |n+1,acc,c=>
  if bAt s c.pos<32 then([],fE 60 fr c)
  else if bAt s c.pos=34 then(acc,true,bH c (c.pos+1))
  else if bAt s c.pos=92 then
   match iS (bAt s (c.pos+1))with
   |none=>([],fE 60 fr c)
   |some x=>bZ s fr n (acc++[UInt8.ofNat x.toNat]) (bH c (c.pos+2))
  else
   match bS (cut s c.pos (c.pos+ao aZ s c.pos))with
   |some k=>([],fE 30 (c.pos+k) (bH c (c.pos+ao aZ s c.pos)))
   |none=>bZ s fr n (acc++cut s c.pos (c.pos+ao aZ s c.pos)) (bH c (c.pos+ao aZ s c.pos))
def bL(s:Str)(c:SC):Str×Bool×SC:=bZ s c.pos (s.length+2) [] (bH c (c.pos+1))
def rL(t:Str)(e:Int)(c:SC):Bool×SC:=
 if qg t=true then ez 5 t c.pos (bH c e)
 else if aW t=true then ez 1 t c.pos (bH c e)
 else if dM t=true then ez 2 t c.pos (bH c e)
 else fE 60 c.pos (bH c e)
def vG(t:Str)(e:Int)(c:SC):Bool×SC:=
 if gL t=true then ez 3 t c.pos (bH c e)
 else if(dO t).2=0 then ez 7 t c.pos (bH c e)
 else fE 60 c.pos (bH c e)
def vH(fr:Int)(q:Str×Bool×SC):Bool×SC:=if q.2.1=true then ez 4 q.1 fr q.2.2 else(false,q.2.2)
def cv(s:Str)(p k:Int):Bool:=decide (p+k<=(s.length:Int))&&kO (cut s p (p+k))
def oK(s:Str)(c:SC):Bool×SC:=
 if cv s c.pos 2=true then ez 6 (cut s c.pos (c.pos+2)) c.pos (bH c (c.pos+2))
 else if cv s c.pos 1=true then ez 6 (cut s c.pos (c.pos+1)) c.pos (bH c (c.pos+1))
 else fE 60 c.pos c
def aK(s:Str)(c:SC):Bool×SC:=
 if cq (bAt s c.pos)=true∨cy (bAt s c.pos)=true then rL (cut s c.pos (c.pos+ao bK s c.pos)) (c.pos+ao bK s c.pos) c
 else if de (bAt s c.pos)=true then vG (cut s c.pos (c.pos+ao bO s c.pos)) (c.pos+ao bO s c.pos) c
 else if bAt s c.pos=34 then vH c.pos (bL s c)
 else oK s c
def iB(b:Int):Bool:=decide (b=32)||decide (b=10)||decide (b=9)||decide (b=13)
def cM(s:Str):Nat->SC->List Tokn×Flt
 |0,_=>([],⟨0,0⟩)
 |n+1,c=>
  if c.pos=(s.length:Int)then(c.out++[⟨0,[],(s.length:Int)⟩],⟨0,0⟩)
  else if iB (bAt s c.pos)=true then cM s n (bH c (c.pos+1))
  else if bAt s c.pos=45/\bAt s (c.pos+1)=45 then
   match bS (cut s c.pos (c.pos+ao ca s c.pos))with
   |some k=>([],⟨30,c.pos+k⟩)
   |none=>cM s n (bH c (c.pos+ao ca s c.pos))
  else if(aK s c).1=true then cM s n (aK s c).2 else([],⟨(aK s c).2.err,(aK s c).2.fat⟩)
def aU(s:Str):List Tokn×Flt:=if 4096<s.length then([],⟨3,4096⟩)else cM s (s.length+2) ⟨0,[],0,0⟩
end Go.Pd
end
section
namespace Go.AL
open Go.Pd
variable [Tabs]
section
variable {P:Program} {f:Nat}
def pLn(F:Str->Int->Nat->Int->Ans):Pat
 |[.ptr 900 0,.int .i64 k],[(900,.box (.agg [.str s,.int .i64 p])),(901,.tail (.st .token) n)]=>some (F s p n k)
 |_,_=>none
theorem Gt{F:Str->Int->Nat->Int->Ans}(he:az P f)(h:∀s p n k,(∀q,(F s p n k).ob=some q->q)->ay P f [.ptr 900 0,.int .i64 k] [(900,.box (.agg [.str s,.int .i64 p])),(901,.tail (.st .token) n)] (F s p n k)):ah P f (pLn F):=by
 intro args S A hA ho _;unfold pLn at hA;split at hA
 ·simp only[Xs]at hA;subst hA;exact⟨he,h _ _ _ _ ho⟩
 ·cases hA
def pLf(g:Nat)(F:Str->Int->Nat->Ans):Pat
 |[.ptr 900 0,.fn g' []],[(900,.box (.agg [.str s,.int .i64 p])),(901,.tail (.st .token) n)]=>(match Nat.beq g' g with|true=>some (F s p n)|false=>none)
 |_,_=>none
theorem tZ{g:Nat}{F:Str->Int->Nat->Ans}(he:az P f)(h:∀s p n,(∀q,(F s p n).ob=some q->q)->ay P f [.ptr 900 0,.fn g []] [(900,.box (.agg [.str s,.int .i64 p])),(901,.tail (.st .token) n)] (F s p n)):ah P f (pLf g F):=by
 intro args S A hA ho _;unfold pLf at hA;split at hA
 ·split at hA
  ·rename_i hb;have e:=HF hb;subst e;simp only[Xs]at hA;subst hA;exact⟨he,h _ _ _ ho⟩
  ·cases hA
 ·cases hA
def pC0(F:Str->SC->Nat->Ans):Pat
 |[.ptr 900 0],[(900,.box (.agg [.str s,.int .i64 p,.lst (.st .token) out (some 901),.int .i64 e,.int .i64 g])),(901,.tail (.st .token) n)]=>some (F s ⟨p,out,e,g⟩ n)
 |_,_=>none
theorem Df{F:Str->SC->Nat->Ans}(he:az P f)(h:∀s c n,(∀q,(F s c n).ob=some q->q)->ay P f [.ptr 900 0] [(900,.box (.agg [.str s,.int .i64 c.pos,.lst (.st .token) c.out (some 901),.int .i64 c.err,.int .i64 c.fat])),(901,.tail (.st .token) n)] (F s c n)):ah P f (pC0 F):=by
 intro args S A hA ho _;unfold pC0 at hA;split at hA
 ·simp only[Xs]at hA;subst hA;exact⟨he,h _ _ _ ho⟩
 ·cases hA
def pC2(F:Str->SC->Nat->Int->Int->Ans):Pat
 |[.ptr 900 0,.int .i64 a,.int .i64 b],[(900,.box (.agg [.str s,.int .i64 p,.lst (.st .token) out (some 901),.int .i64 e,.int .i64 g])),(901,.tail (.st .token) n)]=>some (F s ⟨p,out,e,g⟩ n a b)
 |_,_=>none
theorem Dg{F:Str->SC->Nat->Int->Int->Ans}(he:az P f)(h:∀s c n a b,(∀q,(F s c n a b).ob=some q->q)->ay P f [.ptr 900 0,.int .i64 a,.int .i64 b] [(900,.box (.agg [.str s,.int .i64 c.pos,.lst (.st .token) c.out (some 901),.int .i64 c.err,.int .i64 c.fat])),(901,.tail (.st .token) n)] (F s c n a b)):ah P f (pC2 F):=by
 intro args S A hA ho _;unfold pC2 at hA;split at hA
 ·simp only[Xs]at hA;subst hA;exact⟨he,h _ _ _ _ _ ho⟩
 ·cases hA
def pCt(F:Str->SC->Nat->Int->Str->Int->Ans):Pat
 |[.int .i64 k,.str t,.ptr 900 0,.ptr 901 0],[(900,.box (.ptr 902 0)),(901,.box (.int .i64 fr)),(902,.box (.agg [.str s,.int .i64 p,.lst (.st .token) out (some 903),.int .i64 e,.int .i64 g])),(903,.tail (.st .token) n)]=>some (F s ⟨p,out,e,g⟩ n k t fr)
 |_,_=>none
theorem Gu{F:Str->SC->Nat->Int->Str->Int->Ans}(he:az P f)(h:∀s c n k t fr,(∀q,(F s c n k t fr).ob=some q->q)->ay P f [.int .i64 k,.str t,.ptr 900 0,.ptr 901 0] [(900,.box (.ptr 902 0)),(901,.box (.int .i64 fr)),(902,.box (.agg [.str s,.int .i64 c.pos,.lst (.st .token) c.out (some 903),.int .i64 c.err,.int .i64 c.fat])),(903,.tail (.st .token) n)] (F s c n k t fr)):ah P f (pCt F):=by
 intro args S A hA ho _;unfold pCt at hA;split at hA
 ·simp only[Xs]at hA;subst hA;exact⟨he,h _ _ _ _ _ _ ho⟩
 ·cases hA
end
end Go.AL
end
