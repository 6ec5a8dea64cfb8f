/- The layer: Go code as conditions, and that they are sound. Plain facts. No condition. -/
import Derived.Test.YtpiedfeneggkmaaGreatDoorT02
import Derived.ChangeMaps
import Derived.Deep.LoopGhost
import Derived.JoinedCond
import Derived.KernelRfl
import Derived.Lib.AtoiErrMem
import Derived.Lib.DecodeN
import Derived.Maps.RangeRun
import Derived.OpenShut
import Derived.ProofKit
import Derived.Scope
import Derived.Shelf.SlIter.Sorted
import Derived.Shelf.SlSortCmp.Whole1
import Derived.Shelf.Slices.CompactS
import Derived.Shelf.Slices.In.SortNone
import Derived.Shelf.Small.Strs
import Derived.Shelf.Sort.Plain
import Derived.Shelf.Strconv.Atoi
import Derived.Shelf.Strings.BuilderF
import Derived.WalkKit
import Derived.WideKeyArgs
set_option linter.all false
set_option maxRecDepth 100000
noncomputable section
namespace Go.AL
variable [Tabs]
def db(acc:List (List Nat))(o:Oper):List Nat:=(o.after.toList.filter (Region.binds .any)).flatMap fun e=>e.on::acc.getD e.on []
def bh(ops:List Oper):List (List Nat):=ops.foldl (fun acc o=>acc++[db acc o]) []
theorem py(ops:List Oper):bh ops=ops.foldl (fun acc o=>acc++[db acc o]) []:=rfl
theorem pz{l:List Edge}{acc:List Nat}{i:Nat}:∀{m:Nat},(l.foldl (fun m e=>m ||| 2 ^ e.on ||| acc.getD e.on 0) m).testBit i=true->
  m.testBit i=true∨∃e∈l,e.on=i∨(acc.getD e.on 0).testBit i=true:=by
 induction l with
 |nil=>intro m h;exact Or.inl h
 |cons e r ih=>
  intro m h;rcases ih h with h|⟨x,hx,h⟩
  ·simp only[Nat.testBit_or,xa,Nat.testBit_two_pow,wb]at h;rcases h with(h|h)|h
   ·exact Or.inl h
   ·exact Or.inr ⟨e,by simp,Or.inl h⟩
   ·exact Or.inr ⟨e,by simp,Or.inr h⟩
  ·exact Or.inr ⟨x,wa _ hx,h⟩
theorem o8(ops:List Oper):(mB ops).length=(bh ops).length/\∀j i,((mB ops).getD j 0).testBit i=true->i∈(bh ops).getD j []:=by
 suffices h:∀(ops:List Oper)(a:List Nat)(b:List (List Nat)),a.length=b.length->(∀j i,(a.getD j 0).testBit i=true->i∈b.getD j [])->
   (ops.foldl (fun acc o=>acc++[kf acc o]) a).length=(ops.foldl (fun acc o=>acc++[db acc o]) b).length/\
   ∀j i,((ops.foldl (fun acc o=>acc++[kf acc o]) a).getD j 0).testBit i=true->i∈(ops.foldl (fun acc o=>acc++[db acc o]) b).getD j [] by
  exact h ops [] [] rfl (by simp)
 intro ops
 induction ops with
 |nil=>exact fun a b hl h=>⟨hl,h⟩
 |cons o r ih=>
  intro a b hl h;refine ih (a++[kf a o]) (b++[db b o]) (by simp[hl]) fun j i hb=>?_;rcases Nat.lt_trichotomy j a.length with hj|hj|hj
  ·rw[vZ,w6 hj,<-vZ]at hb;rw[vZ,w6 (by omega),<-vZ];exact h j i hb
  ·subst hj;rw[vZ,w8 (wj _),Nat.sub_self]at hb;rw[hl,vZ,w8 (wj _),Nat.sub_self];simp only[xp,wN]at hb⊢;unfold kf at hb;rcases pz hb with hz|⟨e,he,hz⟩
   ·simp at hz
   ·unfold db;rw[xj];refine⟨e,he,?_⟩;rcases hz with rfl|hz
    ·simp
    ·exact wa _ (h _ _ hz)
  ·rw[vZ,vX (by simp;omega)]at hb;simp at hb
theorem fA(l:List Oper)(o:Oper):bh (l++[o])=bh l++[db (bh l) o]:=by simp only[py,List.foldl_append,yz,List.foldl_nil]
theorem jq:∀(r l:List Oper),∃t,bh (l++r)=bh l++t
 |[],l=>⟨[],by simp⟩
 |o::r,l=>by obtain⟨t,ht⟩:=jq r (l++[o]);refine⟨db (bh l) o::t,?_⟩;rw[show l++o::r=(l++[o])++r from by simp,ht,fA];simp
theorem kJ(l:List Oper):(bh l).length=l.length:=by
 induction h:l.length generalizing l with
 |zero=>rw[wi h];rfl
 |succ n ih=>
  have hne:l≠[]:=fun e=>by rw[e]at h;simp at h
  have hs:=List.dropLast_concat_getLast hne;rw[<-hs,fA];simp only[xL,yl];rw[ih l.dropLast (by simp[h])]
theorem pA{l:List Oper}{i:Nat}{o:Oper}(h:l[i]?=some o) :
  (bh l).getD i []=db (bh (l.take i)) o/\∀m,m<i->(bh l).getD m []=(bh (l.take i)).getD m []:=by
 have hi:i<l.length:=by
  rcases w4 i l.length with k|k
  ·exact k
  ·rw[vX k]at h;cases h
 have ho:l[i]=o:=by rw[vV hi]at h;simpa using h
 have e:l=(l.take i++[o])++l.drop (i+1):=by rw[<-ho,wJ,List.singleton_append,<-y5 hi,List.take_append_drop]
 obtain⟨t,ht⟩:=jq (l.drop (i+1)) (l.take i++[o]);rw[<-e,fA]at ht;have hl:(bh (l.take i)).length=i:=by rw[kJ];simp;omega
 refine⟨?_,fun m hm=>?_⟩
 ·rw[ht,vZ,wJ,w8 (by omega),hl];simp
 ·rw[ht,vZ,wJ,w6 (by omega),vZ]
theorem mX{l:List Oper}(he:∀(i:Nat)(o:Oper),l[i]?=some o->∀e∈o.after.toList,Region.binds .any e=true->e.on<i){L:Nat->Prop}
 (hd:∀(i:Nat)(o:Oper),l[i]?=some o->L i->∀e∈o.after.toList,Region.binds .any e=true->L e.on) :
  ∀(n i:Nat)(o:Oper),i<n->l[i]?=some o->(∀e∈o.after.toList,Region.binds .any e=true->L e.on)->∀k∈(bh l).getD i [],L k:=by
 intro n
 induction n with
 |zero=>intro i o hi;omega
 |succ n ih=>
  intro i o hi ho hp k hk;obtain⟨h1,h2⟩:=pA ho;rw[h1]at hk;simp only[db,xj,wI,wC]at hk;obtain⟨e,⟨he1,he2⟩,hk⟩:=hk;have hlt:=he i o ho e he1 he2;rcases hk with rfl|hk
  ·exact hp e he1 he2
  ·rw[<-h2 e.on hlt]at hk
   have hlen:e.on<l.length:=by
    have:i<l.length:=by
     rcases w4 i l.length with k|k
     ·exact k
     ·rw[vX k]at ho;cases ho
    omega
   have ho':l[e.on]?=some l[e.on]:=vV hlen;exact ih e.on _ (by omega) ho' (hd e.on _ ho' (hp e he1 he2)) k hk
theorem lC{l:List Oper}{fl:List bw}(h:bZ l fl=true) :
  (∀(i:Nat)(o:Oper),l[i]?=some o->∀e∈o.after.toList,Region.binds .any e=true->e.on<i)/\
  ∀j i,i<j->j<l.length->i∈(bh l).getD j []∨sI l (fun k=>fl.getD k ([],[])) i j:=by
 simp only[bZ,vW,wk]at h;obtain⟨h1,h2⟩:=h;refine⟨fun i o ho e he hb=>?_,fun j i hij hj=>?_⟩
 ·have hm:(o,i)∈l.zipIdx:=by rw[List.mem_zipIdx_iff_getElem?];exact ho
  have:=h2 (o,i) hm;simp only[yO,xa,wc,yo]at this;obtain⟨k,hk,hke⟩:=xQ.1 (xU.1 he);have:=this k hk;rw[hke]at this;rcases this with h|h
  ·rw[hb]at h;cases h
  ·exact h
 ·have:=h1 j (xw.2 hj) i (xw.2 hij);simp only[xa]at this;rcases this with h|h
  ·left;exact(o8 l).2 j i h
  ·right;intro x y hx hy;simp only[fT,hx,hy]at h;split at h
   ·rename_i x' y' f g e1 e2 e3 e4;simp at e1 e2;subst e1 e2;simp only[vW]at h;simp only[vZ,e3,e4,wN];exact h
   ·simp at h
section
variable {P:Program} {C:Cfg} {ops:Array Oper} {Q:Exit->Act->World->Prop} {F:Fr}
theorem any_sound(hT:aG P C.tbl)(hS:aX P C.spec)(hdst:∀(o:Oper),o∈ops.toList->∀d,o.dst=some d->d<F.n)
 {fs:Nat->bw}{sN:AS}(he:∀(i:Nat)(o:Oper),ops.toList[i]?=some o->∀e∈o.after.toList,Region.binds .any e=true->e.on<i)
 (hi:∀j i,i<j->j<ops.size->i∈(bh ops.toList).getD j []∨sI ops.toList fs i j)
 (hQ:∀a' E',Holds F sN a' E'->Q .normal a' E'.w) :
  ∀(fuel:Nat)(R:List Nat)(listed:Array Bool)(s:AS)(a:Act)(E:Om),R.length=fuel->listed.size=ops.size->
   (∀i,i<ops.size->(listed.getD i true=false↔i∈R))->R.Pairwise (·<·)->(∀i∈R,i<ops.size)->
   (∀(i:Nat)(o:Oper),ops.toList[i]?=some o->listed.getD i true=true->∀e∈o.after.toList,Region.binds .any e=true->listed.getD e.on true=true)->
   o7 C ops.toList fs R s sN->Holds F s a E->wpAny P .any ops Q fuel listed a E.w:=by
 intro fuel
 have mem_ready:∀{listed:Array Bool} {i:Nat},i∈Region.ready .any ops listed↔
   i<ops.size/\listed.getD i true=false/\∃o,ops[i]?=some o/\∀e∈o.after.toList,Region.binds .any e=true->listed.getD e.on false=true:=by
  intro listed i;unfold Region.ready;simp only[wI,xw,vW,wc];constructor
  ·rintro⟨h1,h2,h3⟩;refine⟨h1,h2,?_⟩
   cases ho:ops[i]? with
   |none=>rw[ho]at h3;simp at h3
   |some o=>
    rw[ho]at h3;refine⟨o,rfl,fun e hem hb=>?_⟩;simp only[wV,wN,yO,xa,wc]at h3;obtain⟨k,hk,hke⟩:=xQ.1 (xU.1 hem);have:=h3 k hk;rw[hke]at this;rcases this with h|h
    ·rw[hb]at h;cases h
    ·exact h
  ·rintro⟨h1,h2,o,ho,h3⟩;refine⟨h1,h2,?_⟩;rw[ho];simp only[wV,wN,yO,xa,wc];intro k hk
   cases hb:Region.binds .any o.after[k]with|false=>exact Or.inl rfl|true=>exact Or.inr (h3 _ (xU.2 (Array.getElem_mem hk)) hb)
 have two:∀{listed:Array Bool} {i:Nat},listed.size=ops.size->i<ops.size->listed.getD i true=listed.getD i false:=by intro listed i hs hi';simp[w9,hs,hi']
 have least:∀(R:List Nat)(listed:Array Bool),listed.size=ops.size->(∀i,i<ops.size->(listed.getD i true=false↔i∈R))->R.Pairwise (·<·)->(∀i∈R,i<ops.size)->
   Region.ready .any ops listed=[]->R=[]:=by
  intro R listed hs hl hp hlt hr
  cases R with
  |nil=>rfl
  |cons m R=>
   have hm:=hlt m (by simp)
   have:m∈Region.ready .any ops listed:=by
    refine mem_ready.2 ⟨hm,(hl m hm).2 (by simp),ops[m],xc hm,fun e hem hb0=>?_⟩;have hon:=he m ops[m] (by rw[wg];exact xc hm) e hem hb0;rw[<-two hs (by omega)]
    cases hb:listed.getD e.on true with
    |true=>rfl
    |false=>
     have hin:=(hl e.on (by omega)).1 hb;simp only[wC]at hin;rcases hin with hin|hin
     ·omega
     ·have:=(yJ.1 hp).1 e.on hin;omega
   rw[hr]at this;cases this
 induction fuel with
 |zero=>
  intro R listed s a E hlen hs hl hp hlt hdc hrun h;have hR:=wi hlen;subst hR;have hsn:s=sN:=hrun;subst hsn;refine⟨?_,hQ a E h⟩
  cases hr:Region.ready .any ops listed with
  |nil=>rfl
  |cons i r=>
   have:i∈Region.ready .any ops listed:=by rw[hr];simp
   obtain⟨h1,h2,_⟩:=mem_ready.1 this;have:=(hl i h1).1 h2;cases this
 |succ fuel ih=>
  intro R listed s a E hlen hs hl hp hlt hdc hrun h;refine⟨fun hr=>?_,fun i hir=>?_⟩
  ·have hR:=least R listed hs hl hp hlt hr;subst hR;have hsn:s=sN:=hrun;subst hsn;exact hQ a E h
  ·obtain⟨h1,h2,o,ho,h3⟩:=mem_ready.1 hir;have hiR:=(hl i h1).1 h2;obtain⟨r1,r2,hR⟩:=List.append_of_mem hiR;subst hR;have hpre:∀e∈o.after.toList,Region.binds .any e=true->listed.getD e.on true=true:=by intro e hem hb;have hon:=he i o (by rw[wg];exact ho) e hem hb;rw[two hs (by omega)];exact h3 e hem hb
   have hal:=mX (l:=ops.toList) he (L:=fun k=>listed.getD k true=true) hdc (i+1) i o (by omega) (by rw[wg];exact ho) hpre;have hp':=List.pairwise_append.1 hp
   have hfront:=o7.front r1 i r2 s sN hrun (fun j hj=>by
    have hji:j<i:=hp'.2.2 j hj i (by simp);rcases hi i j hji h1 with hk|hk
    ·have:=hal j hk;have hjf:=(hl j (by omega)).2 (by simp[hj]);rw[this]at hjf;cases hjf
    ·exact hk)
   obtain⟨o',s1,ho',hstep,hrest⟩:=hfront;have hoo:o'=o:=by rw[wg,ho]at ho';simpa using ho'.symm
   subst hoo;refine pr hT hS ho (hdst o' (wq ho')) h hstep (fun a' E' h'=>?_)
   have hnd:i∉r1/\i∉r2:=by
    refine⟨fun hm=>?_,fun hm=>?_⟩
    ·have:=hp'.2.2 i hm i (by simp);omega
    ·have:=(yJ.1 hp'.2.1).1 i hm;omega
   refine ih (r1++r2) (listed.setIfInBounds i true) s1 a' E' (by simp at hlen⊢;omega) (by simpa using hs) (fun k hk=>?_) ?_ (fun k hk=>hlt k (by simp at hk⊢;rcases hk with hk|hk<;>simp[hk])) (fun k ok hok hkl e hem hb=>?_) hrest h'
   ·by_cases hik:i=k
    ·subst hik;simp[w9,hs,h1,hnd.1,hnd.2]
    ·have:(listed.setIfInBounds i true).getD k true=listed.getD k true:=by simp[w9,hik]
     rw[this,hl k hk];simp;have:¬k=i:=fun e=>hik e.symm;simp[this]
   ·refine List.pairwise_append.2 ⟨hp'.1,(yJ.1 hp'.2.1).2,fun x hx y hy=>hp'.2.2 x hx y (by simp[hy])⟩
   ·have key:∀m,listed.getD m true=true->(listed.setIfInBounds i true).getD m true=true:=by
     intro m hm;by_cases him:i=m
     ·subst him;simp[w9,hs,h1]
     ·have:(listed.setIfInBounds i true).getD m true=listed.getD m true:=by simp[w9,him]
      rw[this,hm]
    by_cases hik:i=k
    ·subst hik;rw[wg,ho]at hok;simp at hok;subst hok;exact key _ (hpre e hem hb)
    ·have:(listed.setIfInBounds i true).getD k true=listed.getD k true:=by simp[w9,hik]
     rw[this]at hkl;exact key _ (hdc k ok hok hkl e hem hb)
theorem iB(hm:P.follows .mixedOrders=true)(hT:aG P C.tbl)(hS:aX P C.spec){id:Nat}{draw:Bool}
 (hdst:∀(o:Oper),o∈ops.toList->∀d,o.dst=some d->d<F.n){kp:AV->St->Prop}{k:St->List bw->Prop}{s:St}{a:Act}{E:Om}
 (hrun:aU C ops.toList draw kp ops.toList 0 s [] k)(hind:draw=true->∀s fs,k s fs->bZ ops.toList fs=true)(h:Holds F s.abs a E)
 (hQ:∀s fs a' E',k s fs->Holds F s.abs a' E'->Q .normal a' E'.w)(hP:∀pv s a' E' v,kp pv s->Holds F s.abs a' E'->V E' pv v->Q (.panic [{v,recovered:=false}]) a' E'.w) :
  (Code.region id ops draw).wp P Q a E.w:=by
 cases draw with
 |false=>refine yp ?_;have:=gF (Q:=Q) hT hS hdst hQ hP ops.toList 0 s [] a E rfl hrun h;rw[List.range_eq_range'];simpa using this
 |true=>
  obtain⟨s',fl,hr0,hk⟩:=hU C ops.toList kp k ops.toList 0 s [] hrun;simp only[List.reverse_nil,wZ]at hk;obtain⟨h1,h2⟩:=lC (hind rfl s' fl hk);refine wp_region_any hm ?_;have hr:=jo C ops.toList ops.toList 0 s.abs s'.abs fl (fun k=>fl.getD k ([],[])) rfl hr0 (fun k=>by simp)
  have:=any_sound (Q:=Q) hT hS hdst (fs:=fun k=>fl.getD k ([],[])) h1 (fun j i hij hj=>h2 j i hij (by simpa using hj)) (fun a' E' h'=>hQ s' fl a' E' hk h') ops.size (List.range' 0 ops.toList.length)
   (Array.replicate ops.size false) s.abs a ⟨E.e,E.w.drew,E.pub⟩ (by simp) (by simp) (fun i hi=>by simp[w9,hi,List.mem_range'])
   (List.pairwise_lt_range') (fun i hi=>by simp[List.mem_range']at hi;omega)
   (fun i o ho hl=>by
    have hi:i<ops.size:=by
     rw[wg]at ho;rcases w4 i ops.size with k|k
     ·exact k
     ·rw[wW k]at ho;cases ho
    simp[w9,hi]at hl) hr h.drew
  exact this
end
end Go.AL
end
noncomputable section
namespace Go.AL
variable [Tabs]
theorem bT:∀{cs:List AV} {j:Nat} {c:AV},cs[j]?=some c->∀i∈ids c,i∈ids.idsL cs
 |[],j,c,h,_,_=>by simp at h
 |a::r,0,c,h,i,hi=>by simp at h;subst h;simp[ids.idsL,hi]
 |a::r,j+1,c,h,i,hi=>by simp only[ids.idsL,x9];exact Or.inr (bT (by simpa using h) i hi)
theorem cW(I:Ty)(x:den I):ids.idsL (cells I x)=[]:=by
 cases I with
 |st n=>cases n<;>rfl
 |_=>rfl
theorem sJ(I:Ty)(xs:List (den I)):∀c∈aH I xs,ids c=[]:=by
 intro c hc;simp only[aH,xj]at hc;obtain⟨x,_,hx⟩:=hc;obtain⟨j,hj⟩:=xo hx
 cases hi:ids c with
 |nil=>rfl
 |cons a r=>have:=bT hj a (by rw[hi];simp);rw[cW]at this;cases this
theorem iY{c:AV}{j:Nat}{c':AV}(hc:(a7 c)[j]?=some c')(k:Nat)(hk:k∈ids c'):k∈ids c:=by
 cases c with
 |agg cs=>exact bT (cs:=cs) hc k hk
 |st n x=>have:=bT (cs:=cells (.st n) x) hc k hk;rw[cW]at this;cases this
 |row I xs=>rw[sJ I xs c' (wq hc)]at hk;cases hk
 |_=>
  cases j with|zero=>simp[a7]at hc;subst hc;exact hk|succ j=>simp[a7]at hc
theorem V.agree{E:Om}{e':Nat->Option CObj}{a:AV}{v:Value}(h:V E a v):(∀i∈ids a,e' i=E.e i)->V ⟨e',E.w,E.pub⟩ a v:=by
 have tok:∀{o:Option Nat} {n:Nat} {v:Value},(∀i,o=some i->e' i=E.e i)->di E o n v->di ⟨e',E.w,E.pub⟩ o n v:=by intro o n v hi ht id hid;obtain⟨m,base,cap,h1,h2,h3⟩:=ht id hid;exact⟨m,base,cap,by simp only;rw[hi id hid,h1],h2,h3⟩
 induction h with
 |undef v=>exact fun _=>.undef v
 |int k n h1 h2=>exact fun _=>.int k n h1 h2
 |bool b=>exact fun _=>.bool b
 |str s h=>exact fun _=>.str s h
 |lstNil I o ht=>exact fun hi=>.lstNil I o (tok (fun i e=>hi i (by subst e;simp[ids])) ht)
 |lstVoid I a=>exact fun _=>.lstVoid I a
 |lst I xs o b off cap vals h1 h2 h3 h4 h5 ih=>intro hi;refine .lst I xs o b off cap vals h1 h2 (tok (fun i e=>hi i (by subst e;simp[ids])) h3) h4 (fun i x hx j c hc=>ih i x hx j c hc (fun k hk=>?_));have:=bT hc k hk;rw[cW]at this;cases this
 |nils=>exact fun _=>.nils
 |ptr id off b o len hb=>exact fun hi=>.ptr id off b o len (by simp only;rw[hi id (by simp[ids]),hb])
 |ptNone n=>exact fun _=>.ptNone n
 |ptSome n x v _ ih=>exact fun _=>.ptSome n x v (ih (fun k hk=>by simp[ids]at hk))
 |arr id n w b len cap a he h1 h2 h3 h4=>exact fun hi=>.arr id n w b len cap a (by simp only;rw[hi id (by simp[ids]),he]) h1 h2 h3 h4
 |aptr id i w off b o len he=>exact fun hi=>.aptr id i w off b o len (by simp only;rw[hi id (by simp[ids]),he])
 |map id r he=>exact fun hi=>.map id r (by simp only;rw[hi id (by simp[ids]),he])
 |bptr id b g he=>exact fun hi=>.bptr id b g (by simp only;rw[hi id (by simp[ids]),he])
 |iface t a v _ ih=>exact fun hi=>.iface t a v (ih (fun k hk=>hi k (by simp only[ids];exact hk)))
 |nilif=>exact fun _=>.nilif
 |nilm=>exact fun _=>.nilm
 |lstp I xs k b off cap vals h1 h2 h3 h4 h5 ih=>intro hi;refine .lstp I xs k b off cap vals h1 h2 (tok (fun i e=>hi i (by cases e;simp[ids])) h3) h4 (fun i x hx j c hc=>ih i x hx j c hc (fun k hk=>?_));have:=bT hc k hk;rw[cW]at this;cases this
 |tptr I n k p hp=>intro hi;obtain⟨m,base,cap,h1,h2⟩:=hp;exact .tptr I n k p ⟨m,base,cap,by simp only;rw[hi k (by simp[ids]),h1],h2⟩
 |st n x v _ ih=>exact fun hi=>.st n x v (ih (fun k hk=>by
   have e:ids (.agg (cells (.st n) x))=[]:=cW (.st n) x;rw[e]at hk;cases hk))
 |cptr c b off vals h1 h2 ih=>exact fun hi=>.cptr c b off vals h1 (fun j c' hc=>ih j c' hc (fun k hk=>hi k (iY hc k hk)))
 |nilp=>exact fun _=>.nilp
 |agg cs vs hl _ ih=>exact fun hi=>.agg cs vs hl (fun j c v hc hv=>ih j c v hc hv (fun k hk=>hi k (by simp only[ids];exact bT hc k hk)))
 |tup cs vs hl _ ih=>exact fun hi=>.tup cs vs hl (fun j c v hc hv=>ih j c v hc hv (fun k hk=>hi k (by simp only[ids];exact bT hc k hk)))
 |fn f cs vs hl _ ih=>exact fun hi=>.fn f cs vs hl (fun j c v hc hv=>ih j c v hc hv (fun k hk=>hi k (by simp only[ids];exact bT hc k hk)))
theorem iC:∀(l:List (Nat×AV))(i:Nat),aE l i=.undef∨(i,aE l i)∈l
 |[],i=>Or.inl rfl
 |(j,v)::r,i=>by
  simp only[bD,bl];by_cases h:j=i
  ·subst h;simp
  ·simp only[wG,h,wA];rcases iC r i with k|k
   ·exact Or.inl k
   ·exact Or.inr (wa _ k)
theorem bc:∀(l:List (Nat×SObj))(i:Nat)(o:SObj),ae l i=some o->(i,o)∈l
 |[],i,o,h=>by simp[aw,aq]at h
 |(j,v)::r,i,o,h=>by
  simp only[aw,aq]at h;by_cases hj:j=i
  ·subst hj;simp at h;simp[h]
  ·simp only[wG,hj,wA]at h;exact wa _ (bc r i o h)
theorem eU:∀(l:List (Nat×SObj))(i:Nat),ae l i=none->i∉l.map (·.1)
 |[],i,_=>by simp
 |(j,v)::r,i,h=>by
  simp only[aw,aq]at h;by_cases hj:j=i
  ·subst hj;simp at h
  ·simp only[wG,hj,wA]at h;have:=eU r i h;simp only[wu,wC,yP];exact⟨fun e=>hj e.symm,this⟩
theorem eo(l:List (Nat×AV))(p:Nat->Bool)(i:Nat):aE (l.filter fun x=>p x.1) i=if p i then aE l i else .undef:=by
 induction l with
 |nil=>simp[bD,bl]
 |cons x r ih=>
  obtain⟨j,v⟩:=x;by_cases hp:p j=true
  ·rw[List.filter_cons_of_pos (by simpa using hp)];simp only[bD,bl,ih];by_cases hj:j=i
   ·subst hj;simp[hp]
   ·simp[hj]
  ·rw[List.filter_cons_of_neg (by simpa using hp),ih];by_cases hj:j=i
   ·subst hj;simp[hp]
   ·simp[bD,bl,hj]
theorem ep(l:List (Nat×SObj))(p:Nat->Bool)(i:Nat):ae (l.filter fun x=>p x.1) i=if p i then ae l i else none:=by
 induction l with
 |nil=>simp[aw,aq]
 |cons x r ih=>
  obtain⟨j,v⟩:=x;by_cases hp:p j=true
  ·rw[List.filter_cons_of_pos (by simpa using hp)];simp only[aw,aq,ih];by_cases hj:j=i
   ·subst hj;simp[hp]
   ·simp[hj]
  ·rw[List.filter_cons_of_neg (by simpa using hp),ih];by_cases hj:j=i
   ·subst hj;simp[hp]
   ·simp[aw,aq,hj]
theorem Holds.forget{F:Fr}{s:AS}{s':St}{a:Act}{E:Om}{A:List Nat}(h:Holds F s a E)(hT:∀i,s'.abs.T i=.undef∨s'.abs.T i=s.T i)
 (hB:∀i,i∈A->s'.abs.B i=none)(hB':∀i,i∉A->s'.abs.B i=s.B i)(hn:bJ A s'=true)(hA:∀i∈A,aP i=false) :
  ∃E',E'.w=E.w/\Holds F s'.abs a E':=by
 have hn':(∀x∈s'.t,∀i∈ids x.2,i∉A)/\(∀x∈s'.b,∀i∈oS x.2,i∉A):=by simp only[bJ,vW,wk]at hn;exact⟨fun x hx=>dO (hn.1 x hx),fun x hx=>dO (hn.2 x hx)⟩
 have he:∀i,i∉A->(fun i=>if i∈A then none else E.e i) i=E.e i:=fun i hi=>by simp[hi]
 refine⟨⟨fun i=>if i∈A then none else E.e i,E.w,E.pub⟩,rfl,fun i=>?_,h.size,h.defers,fun id o ho=>?_,fun id hid=>?_,fun i j ci cj b o hi hj hbi hbj=>?_,h.pubok,fun id c hc=>?_,?_⟩
 ·rcases iC s'.t i with k|k
  ·have:s'.abs.T i=.undef:=k;rw[this];exact .undef _
  ·rcases hT i with hu|hu
   ·rw[hu];exact .undef _
   ·refine V.agree (E:=E) ?_ (fun j hj=>he j (hn'.1 _ k j hj));have:=h.tmps i;rw[<-hu]at this;exact this
 ·have hid:id∉A:=fun hm=>by rw[hB id hm]at ho;cases ho
  have hs:=h.slots id o (by rw[<-hB' id hid];exact ho);have hm:=hn'.2 _ (bc _ _ _ ho)
  cases o with
  |box c=>obtain⟨b,off,h1,h2⟩:=hs;refine⟨b,off,by simp only[w5 hid,h1],fun j c' hc=>?_⟩;obtain⟨k1,k2,k3,v,k4,k5⟩:=h2 j c' hc;exact⟨k1,k2,k3,v,k4,k5.agree (fun j hj=>he j (hm j (iY hc j hj)))⟩
  |tail I n=>obtain⟨base,cap,h1,h2⟩:=hs;exact⟨base,cap,by simp only[w5 hid,h1],h2⟩
  |map U I m=>obtain⟨r,h1,h2,es,clock,h3,h4⟩:=hs;exact⟨r,by simp only[w5 hid,h1],h2,es,clock,h3,h4.data⟩
  |bld t u l=>obtain⟨b,g,h1,h2,h3⟩:=hs;exact⟨b,g,by simp only[w5 hid,h1],h2,h3⟩
  |tailp I n x=>obtain⟨b,cap,h1,h2,h3,h4,h5,h6,h7⟩:=hs;refine⟨b,cap,by simp only[w5 hid,h1],h2,h3,h4,h5,h6,fun j c hc=>?_⟩;obtain⟨v,g1,g2⟩:=h7 j c hc;refine⟨v,g1,g2.agree (fun i hi=>?_)⟩;have:=bT hc i hi;rw[cW]at this;cases this
 ·by_cases hA:id∈A
  ·simp[hA]
  ·simp only[w5 hA];exact h.dom id (by rw[<-hB' id hA];exact hid)
 ·by_cases hi':i∈A
  ·simp[hi']at hi
  ·by_cases hj':j∈A
   ·simp[hj']at hj
   ·simp only[w5 hi']at hi;simp only[w5 hj']at hj;exact h.inj i j ci cj b o hi hj hbi hbj
 ·have hl:=F.dom0 id c hc;have hid:id∉A:=fun hm=>by rw[hA id hm]at hl;cases hl
  obtain⟨c',h1,h2⟩:=h.keep id c hc;exact⟨c',by simp only[w5 hid];exact h1,h2⟩
 ·exact⟨h.frame.os,h.frame.tape,h.frame.output,h.frame.size,h.frame.block,h.frame.cell,h.frame.kind,h.frame.pub,h.frame.old,h.frame.pcell⟩
theorem vh{A:List Nat}{i:Nat}(h:i∈A):¬((!A.contains i)=true):=by simp[h]
theorem ue{A:List Nat}{i:Nat}(h:i∉A):(!A.contains i)=true:=by simp[h]
theorem gj{F:Fr}{ops:List Oper}{s s':St}{a:Act}{E:Om}(h:Holds F s.abs a E)(he:enter ops s=some s') :
  ∃E',E'.w=E.w/\Holds F s'.abs a E':=by
 simp only[enter]at he;generalize hA:((s.b.map (·.1)).filter fun i=>qn (kg ops) (mC ops) i&&!aP i)=A at he;have hAl:∀i∈A,aP i=false:=by intro i hi;rw[<-hA]at hi;simp only[wI,vW,wc]at hi;exact hi.2.2
 split at he
 ·simp at he;subst he;exact⟨E,rfl,h⟩
 ·split at he
  ·rename_i hn;simp only[Xs]at he;subst he;refine h.forget (A:=A) (fun i=>?_) (fun i hi=>?_) (fun i hi=>?_) hn hAl
   ·have:=eo s.t (fun i=>!A.contains i) i;simp only[St.abs];rw[this];split<;>simp
   ·have:=ep s.b (fun i=>!A.contains i) i;simp only[St.abs];rw[this,w5 (vh hi)]
   ·have:=ep s.b (fun i=>!A.contains i) i;simp only[St.abs];rw[this,wh (ue hi)]
  ·simp at he
theorem iD{G:List Nat}:∀{cs ds:List AV},LeL G cs ds->cs.length=ds.length/\∀(j:Nat)(c d:AV),cs[j]?=some c->ds[j]?=some d->LeV G c d
 |[],[],_=>⟨rfl,fun j c d h=>by simp at h⟩
 |[],_::_,h=>by simp[LeL]at h
 |_::_,[],h=>by simp[LeL]at h
 |a::r,b::s,h=>by
  simp only[LeL]at h;obtain⟨h1,h2⟩:=iD h.2;refine⟨by simp[h1],fun j c d hc hd=>?_⟩
  cases j with|zero=>simp at hc hd;subst hc hd;exact h.1|succ j=>exact h2 j c d (by simpa using hc) (by simpa using hd)
theorem gl{G:List Nat}:∀{cs ds:List AV},nD G cs ds->cs.length=ds.length/\∀(j:Nat)(c d:AV),cs[j]?=some c->ds[j]?=some d->LeF G c d
 |[],[],_=>⟨rfl,fun j c d h=>by simp at h⟩
 |[],_::_,h=>by simp[nD]at h
 |_::_,[],h=>by simp[nD]at h
 |a::r,b::s,h=>by
  simp only[nD]at h;obtain⟨h1,h2⟩:=gl h.2;refine⟨by simp[h1],fun j c d hc hd=>?_⟩
  cases j with|zero=>simp at hc hd;subst hc hd;exact h.1|succ j=>exact h2 j c d (by simpa using hc) (by simpa using hd)
theorem V.leF{E:Om}{G:List Nat}(hG:∀k∈G,E.e k=some (.tail 0 none 0)){a:AV}{v:Value}(h:V E a v){b:AV}(hb:LeF G a b):V E b v:=by
 cases b with
 |undef=>exact .undef v
 |int k n=>cases a<;>simp[LeF]at hb;obtain⟨rfl,rfl⟩:=hb;exact h
 |bool b=>cases a<;>simp[LeF]at hb;subst hb;exact h
 |str b=>cases a<;>simp[LeF]at hb;subst hb;exact h
 |nilp=>cases a<;>simp[LeF]at hb;exact h
 |nilif=>cases a<;>simp[LeF]at hb;exact h
 |nilm=>cases a<;>simp[LeF]at hb;exact h
 |map i=>cases a<;>simp[LeF]at hb;subst hb;exact h
 |bptr i=>cases a<;>simp[LeF]at hb;subst hb;exact h
 |arr i n w=>cases a<;>simp[LeF]at hb;obtain⟨⟨rfl,rfl⟩,rfl⟩:=hb;exact h
 |aptr i n w o=>cases a<;>simp[LeF]at hb;obtain⟨⟨rfl,rfl,rfl⟩,rfl⟩:=hb;exact h
 |row I xs=>cases h<;>simp[LeF]at hb
 |lstp I xs k=>cases a<;>simp[LeF]at hb
 |tptr I n k=>cases a<;>simp[LeF]at hb
 |iface t c=>cases a<;>simp[LeF]at hb
 |pt m y=>
  cases a with
  |pt n x=>
   simp only[LeF]at hb;split at hb
   ·rename_i x' hx;obtain⟨e,e2⟩:=kr hx;subst e;simp only at e2;subst e2;subst hb;exact h
   ·exact hb.elim
  |nilp=>simp[LeF]at hb;subst hb;cases h;exact .ptNone m
  |_=>simp[LeF]at hb
 |nils=>cases a<;>simp[LeF]at hb;exact h
 |ptr i o=>cases a<;>simp[LeF]at hb;obtain⟨rfl,rfl⟩:=hb;exact h
 |cptr c=>cases a<;>simp[LeF]at hb
 |agg c=>cases a<;>simp[LeF]at hb
 |tup c=>cases a<;>simp[LeF]at hb
 |fn f c=>cases a<;>simp[LeF]at hb
 |st m y=>
  cases a with
  |st n x=>
   simp only[LeF]at hb;split at hb
   ·rename_i x' hx;obtain⟨e,e2⟩:=fZ hx;subst e;simp only at e2;subst e2;subst hb;exact h
   ·exact hb.elim
  |_=>simp[LeF]at hb
 |lst M ys p=>
  cases a with
  |lst I xs o=>
   simp only[LeF]at hb;obtain⟨k1,k2⟩:=hb
   have hp:∀id,p=some id->o=some id:=by
    intro id hid
    have:p=none∨p=o:=by
     rcases xN (p=none∨p=o)with k|k
     ·exact k
     ·rw[w5 k]at k2;exact k2.elim
    rcases this with k|k
    ·rw[k]at hid;cases hid
    ·rw[<-k];exact hid
   split at k1
   ·rename_i xs' hx;obtain⟨e,e2⟩:=eL hx;subst e;simp only at e2;subst e2;subst k1
    cases h with
    |lstNil _ _ ht=>exact .lstNil _ p (fun id hid=>ht id (hp id hid))
    |lstVoid _ a=>
     cases p with|none=>exact .lstVoid _ a|some k=>exact absurd (hp k rfl) (by simp)
    |lst _ _ _ b' off cap vals h1 h2 h3 h4 h5=>exact .lst _ _ p b' off cap vals h1 h2 (fun id hid=>h3 id (hp id hid)) h4 h5
   ·exact k1.elim
  |nils=>
   simp only[LeF]at hb;obtain⟨h1,h2⟩:=hb;subst h2;cases h;refine .lstNil M p (fun id hid=>?_);subst hid;simp only at h1
   have hk:id∈G:=by
    rcases xN (G.contains id=true)with k|k
    ·simpa using k
    ·rw[w5 k]at h1;exact h1.elim
   exact⟨0,none,0,hG id hk,wj _,fun _=>rfl⟩
  |_=>simp[LeF]at hb
theorem aY{G:List Nat}{a b:AV}(h:LeF G a b):LeV G a b:=by
 cases a<;>cases b<;>first|exact h|exact h.elim
theorem o9{G:List Nat}{c d:AV}(h0:lP c d)(h:LeV G c d):(a7 c).length=(a7 d).length/\
  ∀(j:Nat)(c' d':AV),(a7 c)[j]?=some c'->(a7 d)[j]?=some d'->(c'=d'∨LeV G c' d'):=by
 have one:∀{c d:AV},a7 c=[c]->a7 d=[d]->LeV G c d->(a7 c).length=(a7 d).length/\
   ∀(j:Nat)(c' d':AV),(a7 c)[j]?=some c'->(a7 d)[j]?=some d'->(c'=d'∨LeV G c' d'):=by
  intro c d hc hd h;rw[hc,hd];refine⟨rfl,fun j c' d' h1 h2=>?_⟩
  cases j with|zero=>simp at h1 h2;subst h1 h2;exact Or.inr h|succ j=>simp at h1
 cases c with
 |agg cs=>
  cases d with
  |agg ds=>obtain⟨l1,l2⟩:=iD (cs:=cs) (ds:=ds) h;exact⟨l1,fun j c' d' h1 h2=>Or.inr (l2 j c' d' h1 h2)⟩
  |st m y=>obtain⟨l1,l2⟩:=gl (cs:=cs) (ds:=cells (.st m) y) h;exact⟨l1,fun j c' d' h1 h2=>Or.inr (aY (l2 j c' d' h1 h2))⟩
  |undef=>exact h0.elim
  |_=>exact h.elim
 |st n x=>
  cases d with
  |agg ds=>obtain⟨l1,l2⟩:=gl (cs:=cells (.st n) x) (ds:=ds) h;exact⟨l1,fun j c' d' h1 h2=>Or.inr (aY (l2 j c' d' h1 h2))⟩
  |st m y=>
   have h':(match fN n m x with|some x=>x=y|none=>False):=h;split at h'
   ·rename_i x' hx;obtain⟨e,e2⟩:=fZ hx;subst e;simp only at e2;subst e2;subst h';exact⟨rfl,fun j c' d' h1 h2=>Or.inl (by rw[h1]at h2;exact wH h2)⟩
   ·exact h'.elim
  |undef=>exact h0.elim
  |_=>exact h.elim
 |row I xs=>
  cases d with
  |row M ys=>
   have h':(match dc I M xs with|some xs=>xs=ys|none=>False):=h;split at h'
   ·rename_i x' hx;obtain⟨e,e2⟩:=eL hx;subst e;simp only at e2;subst e2;subst h';exact⟨rfl,fun j c' d' h1 h2=>Or.inl (by rw[h1]at h2;exact wH h2)⟩
   ·exact h'.elim
  |undef=>exact h0.elim
  |_=>exact h.elim
 |_=>
  cases d with|agg ds=>exact h.elim|st m y=>exact h.elim|row I xs=>exact h.elim|_=>exact one rfl rfl h
theorem V.le{E:Om}{G:List Nat}(hG:∀k∈G,E.e k=some (.tail 0 none 0)){a:AV}{v:Value}(h:V E a v):∀{b:AV},LeV G a b->V E b v:=by
 have part:∀{cs ds:List AV} {vs:List Value},cs.length=ds.length->(∀(j:Nat)(c:AV)(v:Value),cs[j]?=some c->vs[j]?=some v->∀{b:AV},LeV G c b->V E b v)->
   (∀(j:Nat)(c d:AV),cs[j]?=some c->ds[j]?=some d->LeV G c d)->∀(j:Nat)(d:AV)(v:Value),ds[j]?=some d->vs[j]?=some v->V E d v:=by
  intro cs ds vs hl ih l2 j d v hd hv
  have:j<cs.length:=by
   rw[hl];rcases w4 j ds.length with k|k
   ·exact k
   ·rw[vX k]at hd;cases hd
  exact ih j _ v (vV this) hv (l2 j _ d (vV this) hd)
 induction h with
 |undef v=>intro b hb;exact(V.undef v).leF hG (by cases b<;>exact hb)
 |int k n h1 h2=>intro b hb;exact(V.int k n h1 h2).leF hG (by cases b<;>exact hb)
 |bool b'=>intro b hb;exact(V.bool b').leF hG (by cases b<;>exact hb)
 |str s h=>intro b hb;exact(V.str s h).leF hG (by cases b<;>exact hb)
 |lstNil I o ht=>intro b hb;exact(V.lstNil I o ht).leF hG (by cases b<;>exact hb)
 |lstVoid I a=>intro b hb;exact(V.lstVoid I a).leF hG (by cases b<;>exact hb)
 |lst I xs o b' off cap vals h1 h2 h3 h4 h5 ih=>intro b hb;exact(V.lst I xs o b' off cap vals h1 h2 h3 h4 h5).leF hG (by cases b<;>exact hb)
 |nils=>intro b hb;exact V.nils.leF hG (by cases b<;>exact hb)
 |ptr id off b' o len hb'=>intro b hb;exact(V.ptr id off b' o len hb').leF hG (by cases b<;>exact hb)
 |nilp=>intro b hb;exact V.nilp.leF hG (by cases b<;>exact hb)
 |ptNone n=>intro b hb;exact(V.ptNone n).leF hG (by cases b<;>exact hb)
 |ptSome n x v hv _=>intro b hb;exact(V.ptSome n x v hv).leF hG (by cases b<;>exact hb)
 |arr id n w b' len cap a he h1 h2 h3 h4=>intro b hb;exact(V.arr id n w b' len cap a he h1 h2 h3 h4).leF hG (by cases b<;>exact hb)
 |aptr id i w off b' o len he=>intro b hb;exact(V.aptr id i w off b' o len he).leF hG (by cases b<;>exact hb)
 |map id r he=>intro b hb;exact(V.map id r he).leF hG (by cases b<;>exact hb)
 |bptr id b' g he=>intro b hb;exact(V.bptr id b' g he).leF hG (by cases b<;>exact hb)
 |nilif=>intro b hb;exact V.nilif.leF hG (by cases b<;>exact hb)
 |nilm=>intro b hb;exact V.nilm.leF hG (by cases b<;>exact hb)
 |lstp I xs k b' off cap vals h1 h2 h3 h4 h5 ih=>intro b hb;exact(V.lstp I xs k b' off cap vals h1 h2 h3 h4 h5).leF hG (by cases b<;>exact hb)
 |tptr I n k p hp=>intro b hb;exact(V.tptr I n k p hp).leF hG (by cases b<;>exact hb)
 |iface t a v hv ih=>
  intro b hb
  cases b with
  |iface u d=>
   simp only[LeV]at hb;obtain⟨h0,hb⟩:=hb
   have htu:t=u:=by
    rcases xN (t=u)with k|k
    ·exact k
    ·rw[w5 k]at h0;exact h0.elim
   subst htu;exact .iface t d v (ih hb)
  |undef=>exact .undef _
  |_=>exact hb.elim
 |st n x v hv ih=>
  intro b hb
  cases b with
  |agg ds=>
   obtain⟨vs,rfl,hvl⟩:=hv.agg_inv;obtain⟨l1,l2⟩:=gl (cs:=cells (.st n) x) (ds:=ds) hb;refine .agg ds vs (by rw[<-l1,hvl.1]) (fun j d u hd hu=>?_)
   have:j<(cells (.st n) x).length:=by
    rw[l1];rcases w4 j ds.length with k|k
    ·exact k
    ·rw[vX k]at hd;cases hd
   exact(hvl.2 j _ u (vV this) hu).leF hG (l2 j _ d (vV this) hd)
  |_=>exact(V.st n x v hv).leF hG hb
 |cptr c b' off vals h1 h2 ih=>
  intro b hb
  cases b with
  |cptr d=>
   simp only[LeV]at hb;obtain⟨l1,l2⟩:=o9 hb.1 hb.2
   have hc:∀(j:Nat)(d':AV),(a7 d)[j]?=some d'->∃c',(a7 c)[j]?=some c':=by
    intro j d' hd
    have:j<(a7 c).length:=by
     rw[l1];rcases w4 j (a7 d).length with k|k
     ·exact k
     ·rw[vX k]at hd;cases hd
    exact⟨_,vV this⟩
   refine .cptr d b' off vals (fun j d' hd=>?_) (fun j d' hd=>?_)
   ·obtain⟨c',hcj⟩:=hc j d' hd;exact h1 j c' hcj
   ·obtain⟨c',hcj⟩:=hc j d' hd;rcases l2 j c' d' hcj hd with rfl|k
    ·exact h2 j c' hcj
    ·exact ih j c' hcj k
  |pt m y=>
   cases c with
   |st n x=>
    have hb':(match fN n m x with|some x=>some x=y|none=>False):=hb;split at hb'
    ·rename_i x' hx;obtain⟨e,e2⟩:=fZ hx;subst e;simp only at e2;subst e2;subst hb';exact .ptSome _ _ _ (.cptr _ b' off vals h1 h2)
    ·exact hb'.elim
   |_=>exact hb.elim
  |undef=>exact .undef _
  |_=>exact hb.elim
 |agg cs vs hl hv ih=>
  intro b hb
  cases b with
  |agg ds=>obtain⟨l1,l2⟩:=iD (cs:=cs) (ds:=ds) hb;exact .agg ds vs (by rw[<-l1,hl]) (part l1 ih l2)
  |st m y=>obtain⟨l1,l2⟩:=gl (cs:=cs) (ds:=cells (.st m) y) hb;exact .st m y _ (.agg _ vs (by rw[<-l1,hl]) (part l1 ih (fun j c d h1 h2=>aY (l2 j c d h1 h2))))
  |undef=>exact .undef _
  |_=>exact hb.elim
 |tup cs vs hl hv ih=>
  intro b hb
  cases b with
  |tup ds=>obtain⟨l1,l2⟩:=iD (cs:=cs) (ds:=ds) hb;exact .tup ds vs (by rw[<-l1,hl]) (part l1 ih l2)
  |undef=>exact .undef _
  |_=>exact hb.elim
 |fn f cs vs hl hv ih=>
  intro b hb
  cases b with
  |fn g ds=>
   simp only[LeV]at hb;obtain⟨h0,hb⟩:=hb
   have hfg:f=g:=by
    rcases xN (f=g)with k|k
    ·exact k
    ·rw[w5 k]at h0;exact h0.elim
   subst hfg;obtain⟨l1,l2⟩:=iD hb;exact .fn f ds vs (by rw[<-l1,hl]) (part l1 ih l2)
  |undef=>exact .undef _
  |_=>exact hb.elim
theorem sK{G:List Nat}{s:St}:∀{l:List (Nat×AV)},LeT G s l->∀i,aE l i=.undef∨LeV G (aE s.t i) (aE l i)
 |[],_,i=>Or.inl rfl
 |(j,v)::r,h,i=>by
  simp only[LeT]at h;simp only[bD,bl];by_cases hj:j=i
  ·subst hj;simp[h.1]
  ·simp only[wG,hj,wA];exact sK h.2 i
theorem kK{G:List Nat}{s:St}:∀{l:List (Nat×SObj)},LeB G s l->∀i o,ae l i=some o->
  (∃c d,o=.box d/\ae s.b i=some (.box c)/\lP c d/\LeV G c d)∨
  (∃I n,o=.tail I n/\(ae s.b i=some (.tail I n)∨(ae s.b i=none/\n=0)))∨
  (∃U I m,o=.map U I m/\ae s.b i=some (.map U I m))∨
  (∃t u l,o=.bld t u l/\ae s.b i=some (.bld t u l))
 |[],_,i,o,ho=>by simp[aw,aq]at ho
 |(j,.box d)::r,h,i,o,ho=>by
  simp only[LeB]at h;simp only[aw,aq]at ho;by_cases hj:j=i
  ·subst hj;simp at ho;subst ho;have h1:=h.1;split at h1
   ·rename_i c hc;exact Or.inl ⟨c,d,rfl,hc,h1⟩
   ·exact h1.elim
  ·simp only[wG,hj,wA]at ho;exact kK h.2 i o ho
 |(j,.bld t u l)::r,h,i,o,ho=>by
  simp only[LeB]at h;simp only[aw,aq]at ho;by_cases hj:j=i
  ·subst hj;simp at ho;subst ho;have h1:=h.1;split at h1
   ·rename_i t' u' l' hm;split at h1
    ·rename_i e;obtain⟨rfl,rfl⟩:=e;subst h1;exact Or.inr (Or.inr (Or.inr ⟨_,_,_,rfl,hm⟩))
    ·exact h1.elim
   ·exact h1.elim
  ·simp only[wG,hj,wA]at ho;exact kK h.2 i o ho
 |(j,.map U I m)::r,h,i,o,ho=>by
  simp only[LeB]at h;simp only[aw,aq]at ho;by_cases hj:j=i
  ·subst hj;simp at ho;subst ho;have h1:=h.1;split at h1
   ·rename_i U' I' m' hm;split at h1
    ·rename_i m2 hc;unfold qo at hc;split at hc
     ·rename_i e;obtain⟨rfl,rfl⟩:=e;simp at hc;subst hc;subst h1;exact Or.inr (Or.inr (Or.inl ⟨_,_,_,rfl,hm⟩))
     ·cases hc
    ·exact h1.elim
   ·exact h1.elim
  ·simp only[wG,hj,wA]at ho;exact kK h.2 i o ho
 |(j,.tail I n)::r,h,i,o,ho=>by
  simp only[LeB]at h;simp only[aw,aq]at ho;by_cases hj:j=i
  ·subst hj;simp at ho;subst ho;have h1:=h.1;split at h1
   ·rename_i M m hm;split at h1
    ·rename_i e;subst e;subst h1;exact Or.inr (Or.inl ⟨_,_,rfl,Or.inl hm⟩)
    ·exact h1.elim
   ·rename_i hm;exact Or.inr (Or.inl ⟨I,n,rfl,Or.inr ⟨hm,h1⟩⟩)
   ·exact h1.elim
  ·simp only[wG,hj,wA]at ho;exact kK h.2 i o ho
theorem Holds.begin{F:Fr}{s:AS}{a:Act}{E:Om}(h:Holds F s a E)(G:List Nat)(hG:∀k∈G,s.B k=none)(ty:Nat->Ty) :
  ∃E',E'.w=E.w/\Holds F ⟨s.T,fun i=>if i∈G then some (.tail (ty i) 0)else s.B i⟩ a E'/\∀k∈G,E'.e k=some (.tail 0 none 0):=by
 have hx:Ext E ⟨fun i=>if i∈G then some (.tail 0 none 0)else E.e i,E.w,E.pub⟩:=by
  refine⟨fun id c hc=>⟨c,?_,CLe.refl c⟩,fun _ _ p=>p,fun _ _ _=>rfl⟩;have:id∉G:=fun hm=>by rw[h.dom id (hG id hm)]at hc;cases hc
  simp[this,hc]
 refine⟨⟨fun i=>if i∈G then some (.tail 0 none 0)else E.e i,E.w,E.pub⟩,rfl,⟨fun i=>(h.tmps i).ext hx,h.size,h.defers,fun id o ho=>?_,fun id hid=>?_,fun i j ci cj b o hi hj hbi hbj=>?_,h.pubok,fun id c hc=>let ⟨c1,h1,l1⟩:=h.keep id c hc;let ⟨c2,h2,l2⟩:=hx.e id c1 h1;⟨c2,h2,l1.trans l2⟩,?_⟩,fun k hk=>by simp[hk]⟩
 ·by_cases hm:id∈G
  ·simp only[wh hm,Xs]at ho;subst ho;exact⟨none,0,by simp[hm],wj _,by unfold aS;omega,fun _=>rfl,fun b hb=>by simp at hb⟩
  ·simp only[w5 hm]at ho;exact(h.slots id o ho).keep hx (by simp[hm]) (fun _ _=>iu.of_blocks fun _ _ _=>⟨rfl,fun _ p=>p⟩)
 ·by_cases hm:id∈G
  ·simp[hm]at hid
  ·simp only[w5 hm]at hid⊢;exact h.dom id hid
 ·by_cases hi':i∈G
  ·simp only[wh hi',Xs]at hi;subst hi;cases hbi
  ·by_cases hj':j∈G
   ·simp only[wh hj',Xs]at hj;subst hj;cases hbj
   ·simp only[w5 hi']at hi;simp only[w5 hj']at hj;exact h.inj i j ci cj b o hi hj hbi hbj
 ·exact⟨h.frame.os,h.frame.tape,h.frame.output,h.frame.size,h.frame.block,h.frame.cell,h.frame.kind,h.frame.pub,h.frame.old,h.frame.pcell⟩
theorem bg{b:Bool}{k:Prop}(h:chk b k):b=true/\k:=by
 cases b with|true=>exact⟨rfl,h⟩|false=>exact h.elim
theorem qy{G:List Nat}{a b:AV}{k:Prop}(h:cF G a b k):LeF G a b/\k:=by
 unfold cF at h;split at h
 ·exact⟨by cases a<;>trivial,h⟩
 ·obtain⟨h1,h2,h3⟩:=bg h;simp only[wb]at h1;exact⟨by simp only[LeF,h1,wR];exact h2,h3⟩
 ·exact h
 ·exact h
 ·split at h
  ·rename_i hc;obtain⟨h1,h2,h3⟩:=bg h;simp only[wb]at h1;exact⟨by simp only[LeF,hc];exact⟨h2,by rw[wh h1];trivial⟩,h3⟩
  ·exact h.elim
 ·split at h
  ·exact⟨by simp only[LeF];exact⟨trivial,h.1⟩,h.2⟩
  ·obtain⟨h1,h2,h3⟩:=bg h;exact⟨by simp only[LeF,h1,wR];exact⟨trivial,h2⟩,h3⟩
 ·exact⟨trivial,h⟩
 ·exact⟨trivial,h⟩
 ·obtain⟨h1,h2⟩:=bg h;simp only[wb]at h1;exact⟨by simp only[LeF];rw[wh h1];trivial,h2⟩
 ·split at h
  ·rename_i hc;exact⟨by simp only[LeF,hc];exact h.1,h.2⟩
  ·exact h.elim
 ·split at h
  ·rename_i hc;exact⟨by simp only[LeF,hc];exact h.1,h.2⟩
  ·exact h.elim
 ·obtain⟨h1,h2,h3⟩:=bg h;simp only[wb]at h1;exact⟨by simp only[LeF];rw[wh h1];exact h2,h3⟩
 ·obtain⟨h1,h2,h3⟩:=bg h;simp only[wb]at h1;exact⟨by simp only[LeF];rw[wh h1];exact h2,h3⟩
 ·obtain⟨h1,h2⟩:=bg h;simp only[wb]at h1;exact⟨by simp only[LeF];rw[wh h1];trivial,h2⟩
 ·obtain⟨h1,h2⟩:=bg h;simp only[wb]at h1;exact⟨by simp only[LeF];rw[wh h1];trivial,h2⟩
 ·split at h
  ·rename_i hc;exact⟨by simp only[LeF,hc];exact h.1,h.2⟩
  ·exact h.elim
 ·exact⟨by simp only[LeF];exact h.1,h.2⟩
 ·exact⟨trivial,h⟩
 ·exact⟨trivial,h⟩
 ·exact h.elim
theorem kL{G:List Nat}{k:Prop}:∀{cs ds:List AV},cFs G cs ds k->nD G cs ds/\k
 |[],[],h=>⟨trivial,h⟩
 |a::r,b::s,h=>let ⟨h1,h2⟩:=qy (k:=cFs G r s k) h;let ⟨h3,h4⟩:=kL h2;⟨⟨h1,h3⟩,h4⟩
 |[],_::_,h=>h.elim
 |_::_,[],h=>h.elim
theorem jr{c d:AV}(h:mE c d=true):lP c d:=by
 cases c<;>cases d<;>first|trivial|(simp[mE]at h)
mutual
theorem cV_spec{G:List Nat}:∀{a b:AV} {k:Prop},cV G a b k->LeV G a b/\k:=by
 intro a b k h;unfold cV at h;split at h
 ·rename_i c d;obtain⟨h1,h2⟩:=bg h;obtain⟨h3,h4⟩:=cV_spec (a:=c) (b:=d) h2;exact⟨by simp only[LeV];exact⟨jr h1,h3⟩,h4⟩
 ·split at h
  ·rename_i hc;exact⟨by simp only[LeV,hc];exact h.1,h.2⟩
  ·exact h.elim
 ·rename_i t a u b;obtain⟨h1,h2⟩:=bg h;obtain⟨h3,h4⟩:=cV_spec (a:=a) (b:=b) h2;exact⟨by simp only[LeV];exact⟨by rw[wh (wm h1)];trivial,h3⟩,h4⟩
 ·obtain⟨h1,h2⟩:=kL h;exact⟨by simp only[LeV];exact h1,h2⟩
 ·obtain⟨h1,h2⟩:=kL h;exact⟨by simp only[LeV];exact h1,h2⟩
 ·rename_i cs ds;obtain⟨h1,h2⟩:=cL_spec (cs:=cs) (ds:=ds) h;exact⟨by simp only[LeV];exact h1,h2⟩
 ·rename_i cs ds;obtain⟨h1,h2⟩:=cL_spec (cs:=cs) (ds:=ds) h;exact⟨by simp only[LeV];exact h1,h2⟩
 ·rename_i f cs g ds;obtain⟨h0,h⟩:=bg h;obtain⟨h1,h2⟩:=cL_spec (cs:=cs) (ds:=ds) h;exact⟨by simp only[LeV];exact⟨by rw[wh (wm h0)];trivial,h1⟩,h2⟩
 ·obtain⟨h1,h2⟩:=qy h;exact⟨aY h1,h2⟩
theorem cL_spec{G:List Nat}:∀{cs ds:List AV} {k:Prop},cL G cs ds k->LeL G cs ds/\k
 |[],[],k,h=>by simp only[cL]at h;exact⟨by simp only[LeL],h⟩
 |a::r,b::s,k,h=>by simp only[cL]at h;obtain⟨h1,h2⟩:=cV_spec (a:=a) (b:=b) h;obtain⟨h3,h4⟩:=cL_spec (cs:=r) (ds:=s) h2;exact⟨by simp only[LeL];exact⟨h1,h3⟩,h4⟩
 |[],_::_,k,h=>by simp only[cL]at h
 |_::_,[],k,h=>by simp only[cL]at h
end
theorem qz{G:List Nat}{s:St}:∀{l:List (Nat×AV)} {k:Prop},cT G s l k->LeT G s l/\k
 |[],k,h=>⟨trivial,h⟩
 |(i,a)::r,k,h=>let ⟨h1,h2⟩:=cV_spec (k:=cT G s r k) h;let ⟨h3,h4⟩:=qz h2;⟨⟨h1,h3⟩,h4⟩
theorem gG{G:List Nat}{s:St}:∀{l:List (Nat×SObj)},cB G s l->LeB G s l
 |[],_=>trivial
 |(i,.box d)::r,h=>by
  simp only[cB]at h;simp only[LeB];split at h
  ·rename_i c hc;obtain⟨h1,h2⟩:=bg h;obtain⟨h3,h4⟩:=cV_spec h2;exact⟨⟨jr h1,h3⟩,gG h4⟩
  ·exact h.elim
 |(i,.tail I n)::r,h=>by
  simp only[cB]at h;simp only[LeB];split at h
  ·rename_i M m hc;obtain⟨h1,h2,h3⟩:=bg h;simp only[wb]at h1;exact⟨by rw[wh h1];exact h2,gG h3⟩
  ·exact⟨h.1,gG h.2⟩
  ·exact h.elim
 |(i,.bld t u l)::r,h=>by
  simp only[cB]at h;simp only[LeB];split at h
  ·rename_i t' u' l' hc;obtain⟨h1,h2,h3⟩:=bg h;simp only[wb]at h1;exact⟨by rw[wh h1];exact h2,gG h3⟩
  ·exact h.elim
 |(i,.map U I m)::r,h=>by
  simp only[cB]at h;simp only[LeB];split at h
  ·rename_i U' I' m' hc;split at h
   ·exact⟨h.1,gG h.2⟩
   ·exact h.elim
  ·exact h.elim
theorem dC{s s':St}(h:cS s s'):LeS s s':=by unfold cS at h;obtain⟨h1,h2⟩:=bg h;obtain⟨h3,h4⟩:=qz h2;exact⟨by rw[wh h1];trivial,h3,gG h4⟩
def uf:Option SObj->Ty
 |some (.tail I _)=>I
 |_=>.bool
theorem bK{F:Fr}{s s':St}{a:Act}{E:Om}(h:Holds F s.abs a E)(hle:LeS s s'):∃E',E'.w=E.w/\Holds F s'.abs a E':=by
 obtain⟨h0,h1,h2⟩:=hle
 have hn2:(bJ ((ao s.b).filter fun i=>!(ao s'.b).contains i) s'&&((ao s.b).filter fun i=>!(ao s'.b).contains i).all (fun i=>!aP i))=true:=by
  rcases xN ((bJ ((ao s.b).filter fun i=>!(ao s'.b).contains i) s'&&((ao s.b).filter fun i=>!(ao s'.b).contains i).all (fun i=>!aP i))=true)with k|k
  ·exact k
  ·rw[w5 k]at h0;exact h0.elim
 obtain⟨hn,hnl⟩:=Bool.and_eq_true_iff.1 hn2;have hGs:∀k,k∈cg s s'↔(k∈ao s'.b/\ae s.b k=none):=by intro k;simp[cg]
 obtain⟨E1,e1,h1',hg⟩:=h.begin (cg s s') (fun k hk=>((hGs k).1 hk).2) (fun i=>uf (ae s'.b i))
 have hmid:Holds F ⟨s'.abs.T,fun i=>match ae s'.b i with|some o=>some o|none=>if i∈cg s s' then some (.tail (uf (ae s'.b i)) 0)else s.abs.B i⟩ a E1:=by
  refine⟨fun i=>?_,h1'.size,h1'.defers,fun id o ho=>?_,fun id hid=>?_,h1'.inj,h1'.pubok,h1'.keep,h1'.frame⟩
  ·rcases sK h1 i with k|k
   ·have:s'.abs.T i=.undef:=k;rw[this];exact .undef _
   ·exact(h1'.tmps i).le hg k
  ·simp only at ho
   cases hb:ae s'.b id with
   |none=>rw[hb]at ho;simp only at ho;refine h1'.slots id o ?_;simp only[hb];exact ho
   |some o'=>
    rw[hb]at ho;simp at ho;subst ho;rcases kK h2 id o' hb with⟨c,d,rfl,hcs,hl0,hl⟩|⟨I,n,rfl,hcs⟩|⟨U,I,m,rfl,hcs⟩|⟨t,u,l,rfl,hcs⟩
    ·have hng:id∉cg s s':=fun hm=>by rw[((hGs id).1 hm).2]at hcs;cases hcs
     obtain⟨b,off,k1,k2⟩:=h1'.slots id (.box c) (by simp only[w5 hng];exact hcs);obtain⟨l1,l2⟩:=o9 hl0 hl;refine⟨b,off,by rw[<-l1];exact k1,fun j d' hd=>?_⟩
     have hj:j<(a7 c).length:=by
      rw[l1];rcases w4 j (a7 d).length with k|k
      ·exact k
      ·rw[vX k]at hd;cases hd
     obtain⟨m1,m2,m3,v,m4,m5⟩:=k2 j _ (vV hj);refine⟨m1,m2,m3,v,m4,?_⟩;rcases l2 j _ d' (vV hj) hd with e|k
     ·rw[<-e];exact m5
     ·exact m5.le hg k
    ·rcases hcs with hcs|⟨hcs,rfl⟩
     ·have hng:id∉cg s s':=fun hm=>by rw[((hGs id).1 hm).2]at hcs;cases hcs
      exact h1'.slots id (.tail I n) (by simp only[w5 hng];exact hcs)
     ·have hin:id∈cg s s':=(hGs id).2 ⟨wz.2 ⟨(id,.tail I 0),bc _ _ _ hb,rfl⟩,hcs⟩;have:=h1'.slots id (.tail I 0) (by simp only[wh hin,hb,uf]);exact this
    ·have hng:id∉cg s s':=fun hm=>by rw[((hGs id).1 hm).2]at hcs;cases hcs
     exact h1'.slots id (.map U I m) (by simp only[w5 hng];exact hcs)
    ·have hng:id∉cg s s':=fun hm=>by rw[((hGs id).1 hm).2]at hcs;cases hcs
     exact h1'.slots id (.bld t u l) (by simp only[w5 hng];exact hcs)
  ·refine h1'.dom id ?_;simp only at hid⊢
   cases hb:ae s'.b id with|none=>rw[hb]at hid;simpa[hb]using hid|some o'=>rw[hb]at hid;simp at hid
 have f1:∀i,i∈((ao s.b).filter fun i=>!(ao s'.b).contains i)->s'.abs.B i=none:=by
  intro i hi;simp at hi
  cases hb:ae s'.b i with|none=>exact hb|some o=>exact absurd (wz.2 ⟨(i,o),bc _ _ _ hb,rfl⟩) hi.2
 have f2:∀i,i∉((ao s.b).filter fun i=>!(ao s'.b).contains i)->
   s'.abs.B i=(match ae s'.b i with|some o=>some o|none=>if i∈cg s s' then some (.tail (uf (ae s'.b i)) 0)else s.abs.B i):=by
  intro i hi;simp only[St.abs]
  cases hb:ae s'.b i with
  |some o=>rfl
  |none=>
   have hk:i∉ao s'.b:=eU _ _ hb;have hng:i∉cg s s':=fun hm=>hk ((hGs i).1 hm).1;simp only[w5 hng]
   cases hsb:ae s.b i with|none=>rfl|some o=>exfalso;apply hi;simp only[wI,wc,wB,wF];exact⟨wz.2 ⟨(i,o),bc _ _ _ hsb,rfl⟩,hk⟩
 obtain⟨E2,e2,h2'⟩:=hmid.forget (s':=s') (fun i=>Or.inr rfl) f1 f2 hn (fun i hi=>by
  have:=wk.1 hnl i hi;simpa using this)
 exact⟨E2,e2.trans e1,h2'⟩
end Go.AL
end
noncomputable section
namespace Go.AL
variable [Tabs]
section
variable {id:Nat} {c:AV}
theorem iZ:∀(l:List AV)(j:Nat),(pubVs id c l)[j]?=(l[j]?).map (pubV id c)
 |[],j=>by simp[pubVs]
 |a::r,0=>by simp[pubVs]
 |a::r,j+1=>by simp only[pubVs,yf];exact iZ r j
theorem fB:∀l:List AV,(pubVs id c l).length=l.length
 |[]=>rfl
 |a::r=>by simp[pubVs,fB r]
theorem kM(I:Ty)(x:den I):∀d∈cells I x,pubV id c d=d:=by
 cases I with
 |st n=>cases n<;>simp[cells,bC,dE,cr,cK,cM,cN,bn,cO,eC,dF,dG,dH,eD,eE,dQ,dI,gx,cP,eF,dA,eG,eH,dJ,pubV]
 |_=>simp[cells,pubV]
theorem ry(I:Ty)(xs:List (den I)):∀d∈aH I xs,pubV id c d=d:=by intro d hd;simp only[aH,xj]at hd;obtain⟨x,_,hx⟩:=hd;exact kM I x d hx
theorem kN(d:AV):(a7 (pubV id c d)).length=(a7 d).length/\∀(j:Nat)(a:AV),(a7 d)[j]?=some a->(a7 (pubV id c d))[j]?=some (pubV id c a):=by
 have one:∀{d:AV},a7 d=[d]->a7 (pubV id c d)=[pubV id c d]->(a7 (pubV id c d)).length=(a7 d).length/\
   ∀(j:Nat)(a:AV),(a7 d)[j]?=some a->(a7 (pubV id c d))[j]?=some (pubV id c a):=by
  intro d h1 h2;rw[h1,h2];refine⟨rfl,fun j a ha=>?_⟩
  cases j with|zero=>simp at ha;subst ha;rfl|succ j=>simp at ha
 cases d with
 |agg cs=>exact⟨fB cs,fun j a ha=>by show(pubVs id c cs)[j]?=_;rw[iZ];have:cs[j]?=some a:=ha;rw[this];rfl⟩
 |st n x=>exact⟨rfl,fun j a ha=>by show(cells (.st n) x)[j]?=_;rw[kM (.st n) x a (wq ha)];exact ha⟩
 |row I xs=>exact⟨rfl,fun j a ha=>by show(aH I xs)[j]?=_;rw[ry I xs a (wq ha)];exact ha⟩
 |ptr i o=>
  refine one rfl ?_
  cases o with|zero=>simp only[pubV];split<;>rfl|succ o=>rfl
 |arr i n w=>
  refine one rfl ?_;simp only[pubV];split
  ·split
   ·split<;>rfl
   ·rfl
  ·rfl
 |_=>exact one rfl rfl
structure Fast(E:Om)(id:Nat)(c:AV)(b off:Nat)(vals:Nat->Value):Prop where
 e:E.e id=some (.box b off (a7 c).length)
 at_:∀(j:Nat)(c':AV),(a7 c)[j]?=some c'->E.pub b (off+j)/\E.w.cell? ⟨b,off+j,none⟩=some (vals j)/\V E c' (vals j)
theorem V.pubV{E:Om}{b off:Nat}{vals:Nat->Value}(hf:Fast E id c b off vals){a:AV}{v:Value}(h:V E a v):V E (AL.pubV id c a) v:=by
 have many:∀{cs:List AV} {vs:List Value},cs.length=vs.length->(∀(j:Nat)(d:AV)(v:Value),cs[j]?=some d->vs[j]?=some v->V E (AL.pubV id c d) v)->
   (pubVs id c cs).length=vs.length/\∀(j:Nat)(d:AV)(v:Value),(pubVs id c cs)[j]?=some d->vs[j]?=some v->V E d v:=by
  intro cs vs hl ih;refine⟨by rw[fB,hl],fun j d v hd hv=>?_⟩;rw[iZ]at hd;simp only[we]at hd;obtain⟨d0,hd0,rfl⟩:=hd;exact ih j d0 v hd0 hv
 induction h with
 |ptr i o b' p len he=>
  cases o with
  |succ o=>exact .ptr i (o+1) b' p len he
  |zero=>
   simp only[AL.pubV];split
   ·rename_i hi;subst hi;rw[hf.e]at he;simp at he;obtain⟨rfl,rfl,rfl⟩:=he;exact .cptr c b off vals (fun j c' hc=>⟨(hf.at_ j c' hc).1,(hf.at_ j c' hc).2.1⟩) (fun j c' hc=>(hf.at_ j c' hc).2.2)
   ·exact .ptr i 0 b' p len he
 |arr i n w b' len cap a he h1 h2 h3 h4=>
  simp only[AL.pubV];split
  ·rename_i hi;split
   ·rename_i I xs;split
    ·rename_i hw;subst hi hw;have hfe:=hf.e;rw[hfe]at he;simp only[Xs,CObj.box.injEq]at he;obtain⟨rfl,rfl,rfl⟩:=he;have hn:n<=xs.length:=by have:(a7 (.row I xs)).length=xs.length *a8 I:=aQ I xs;rw[this]at h1;exact Nat.le_of_mul_le_mul_right h1 (eK I)
     rcases h4 with rfl|⟨rfl,rfl,rfl⟩
     ·have hl:(xs.take n).length=n:=by simp;omega
      have hx':∀{i:Nat} {x:den I},(xs.take n)[i]?=some x->xs[i]?=some x:=by
       intro i x hx;rw[wv]at hx;split at hx
       ·exact hx
       ·cases hx
      have:=V.lst (E:=E) I (xs.take n) none b 0 cap (fun i j=>vals (i *a8 I+j)) (by omega) h3 (fun id hid=>by simp at hid) (fun i x hx j c' hc=>by
       have:=hf.at_ _ c' (dT I xs i x j c' (hx' hx) hc);exact⟨this.1,this.2.1⟩) (fun i x hx j c' hc=>(hf.at_ _ c' (dT I xs i x j c' (hx' hx) hc)).2.2)
      rw[hl]at this;exact this
     ·simp only[yK];exact .lstNil I none (fun id hid=>by simp at hid)
    ·exact .arr i n w b' len cap a he h1 h2 h3 h4
   ·exact .arr i n w b' len cap a he h1 h2 h3 h4
  ·exact .arr i n w b' len cap a he h1 h2 h3 h4
 |cptr d b' o vs h1 h2 ih=>
  obtain⟨p1,p2⟩:=kN (id:=id) (c:=c) d
  have back:∀(j:Nat)(d':AV),(a7 (AL.pubV id c d))[j]?=some d'->∃d0,(a7 d)[j]?=some d0/\d'=AL.pubV id c d0:=by
   intro j d' hd'
   have hj:j<(a7 d).length:=by
    rw[<-p1];rcases w4 j (a7 (AL.pubV id c d)).length with k|k
    ·exact k
    ·rw[vX k]at hd';cases hd'
   have:=p2 j _ (vV hj);rw[hd']at this;exact⟨_,vV hj,wH this⟩
  refine .cptr _ b' o vs (fun j d' hd'=>?_) (fun j d' hd'=>?_)
  ·obtain⟨d0,q1,_⟩:=back j d' hd';exact h1 j d0 q1
  ·obtain⟨d0,q1,rfl⟩:=back j d' hd';exact ih j d0 q1
 |agg cs vs hl _ ih=>obtain⟨q1,q2⟩:=many hl ih;exact .agg _ vs q1 q2
 |tup cs vs hl _ ih=>obtain⟨q1,q2⟩:=many hl ih;exact .tup _ vs q1 q2
 |fn f cs vs hl _ ih=>obtain⟨q1,q2⟩:=many hl ih;exact .fn f _ vs q1 q2
 |iface t a v _ ih=>exact .iface t _ v ih
 |undef v=>exact .undef v
 |int k n h1 h2=>exact .int k n h1 h2
 |bool b=>exact .bool b
 |str s h=>exact .str s h
 |lstNil I o ht=>exact .lstNil I o ht
 |lstVoid I a=>exact .lstVoid I a
 |lst I xs o b' off' cap vals' h1 h2 h3 h4 h5 _=>exact .lst I xs o b' off' cap vals' h1 h2 h3 h4 h5
 |nils=>exact .nils
 |nilp=>exact .nilp
 |ptNone n=>exact .ptNone n
 |ptSome n x v hv _=>exact .ptSome n x v hv
 |aptr i n w o b' p len he=>exact .aptr i n w o b' p len he
 |map i r he=>exact .map i r he
 |bptr i b g he=>exact .bptr i b g he
 |nilif=>exact .nilif
 |nilm=>exact .nilm
 |lstp I xs k b' off' cap vals' h1 h2 h3 h4 h5 _=>exact .lstp I xs k b' off' cap vals' h1 h2 h3 h4 h5
 |tptr I n k p hp=>exact .tptr I n k p hp
 |st n x v hv _=>exact .st n x v hv
end
theorem iE(f:AV->AV)(hf:f .undef=.undef):∀(l:List (Nat×AV))(i:Nat),aE (l.map fun x=>(x.1,f x.2)) i=f (aE l i)
 |[],i=>hf.symm
 |(j,v)::r,i=>by simp only[wu,bD,bl,iE f hf r i];by_cases h:j=i<;>simp[h]
theorem gm(f:SObj->SObj):∀(l:List (Nat×SObj))(i:Nat),ae (l.map fun x=>(x.1,f x.2)) i=(ae l i).map f
 |[],i=>rfl
 |(j,v)::r,i=>by simp only[wu,aw,aq,gm f r i];by_cases h:j=i<;>simp[h]
theorem pB{F:Fr}{s s':St}{a:Act}{E:Om}{id:Nat}(h:Holds F s.abs a E)(hp:v7 id s=some s'):∃E',E'.w=E.w/\Holds F s'.abs a E':=by
 unfold v7 at hp;split at hp
 ·rename_i c hb;simp only at hp;split at hp
  ·rename_i hck;simp only[vW,wc]at hck;obtain⟨⟨hnn,hcid⟩,hnl⟩:=hck;simp only[Xs]at hp;subst hp;simp only[bJ,vW,wk]at hnn;obtain⟨b,off,e1,e2⟩:=h.slots id _ hb
   let E1:Om:=⟨E.e,E.w,fun b' o=>E.pub b' o∨(b'=b/\off<=o/\o<off+(a7 c).length)⟩
   have hx1:Ext E E1:=⟨fun i c hc=>⟨c,hc,CLe.refl c⟩,fun _ _ p=>Or.inl p,fun _ _ _=>rfl⟩
   have hfast:Fast E1 id c b off (fun j=>(E.w.cell? ⟨b,off+j,none⟩).getD undef):=by
    refine⟨e1,fun j c' hc=>?_⟩;obtain⟨k1,k2,k3,v,k4,k5⟩:=e2 j c' hc
    have hj:j<(a7 c).length:=by
     rcases w4 j (a7 c).length with k|k
     ·exact k
     ·rw[vX k]at hc;cases hc
    refine⟨Or.inr ⟨rfl,by omega,by omega⟩,?_,?_⟩
    ·show E.w.cell? _=_;rw[k4];rfl
    ·simp only[k4,wN];exact k5.ext hx1
   have hag:∀{x:AV} {v:Value},V E1 x v->(∀i∈ids x,i≠id)->V ⟨fun i=>if i=id then none else E.e i,E1.w,E1.pub⟩ x v:=
    fun hv hi=>V.agree hv (fun i him=>by simp[hi i him,E1])
   have hin:∀b' o,(b'=b/\off<=o/\o<off+(a7 c).length)->occ (.box b off (a7 c).length) b' o:=fun b' o k=>k;refine⟨⟨fun i=>if i=id then none else E.e i,E.w,E1.pub⟩,rfl,⟨fun i=>?_,h.size,h.defers,fun id' o ho=>?_,fun id' hid=>?_,fun i j ci cj b' o hi hj=>?_,fun b' o hp=>?_,fun i x hx=>?_,?_⟩⟩
   ·simp only[St.abs];have e:=iE (pubV id c) rfl s.t i;rw[e];refine hag (V.pubV hfast ((h.tmps i).ext hx1)) (fun k hk=>?_);rcases iC s.t i with hu|hm
    ·rw[hu]at hk;simp[pubV,ids]at hk
    ·have:=dO (hnn.1 (i,pubV id c (aE s.t i)) (wz.2 ⟨_,hm,rfl⟩)) k hk;simpa using this
   ·simp only[St.abs]at ho;have e:=gm (sf id c) (s.b.filter fun x=>!(x.1 ==id)) id';rw[e]at ho;have e':=ep s.b (fun i=>!(i ==id)) id';rw[e']at ho;by_cases hid:id'=id
    ·subst hid;simp at ho
    ·simp only[wG,hid,Bool.not_false,wR,we]at ho;rw[wh (by simp[hid])]at ho;obtain⟨o0,ho0,rfl⟩:=ho;have hs:=h.slots id' o0 ho0;have apart:∀c0,E.e id'=some c0->∀b' o,occ c0 b' o->¬(b'=b/\off<=o/\o<off+(a7 c).length):=by intro c0 hc0 b' o hoc hk;exact hid (h.inj id' id c0 _ b' o hc0 e1 hoc (hin b' o hk))
     cases o0 with
     |box d=>
      obtain⟨b2,off2,g1,g2⟩:=hs;obtain⟨p1,p2⟩:=kN (id:=id) (c:=c) d;refine⟨b2,off2,by simp only[w5 hid];rw[g1,p1],fun j d' hd'=>?_⟩
      have hj:j<(a7 d).length:=by
       rw[<-p1];rcases w4 j (a7 (pubV id c d)).length with k|k
       ·exact k
       ·rw[vX k]at hd';cases hd'
      have hd2:=p2 j _ (vV hj);rw[hd']at hd2;obtain⟨m1,m2,m3,v,m4,m5⟩:=g2 j _ (vV hj);refine⟨m1,fun hp=>?_,m3,v,m4,?_⟩
      ·rcases hp with hp|hp
       ·exact m2 hp
       ·exact apart _ g1 b2 (off2+j) ⟨rfl,by omega,by omega⟩ hp
      ·rw[wH hd2];refine hag (V.pubV hfast (m5.ext hx1)) (fun k hk=>?_)
       have hmem:(id',sf id c (.box d))∈((s.b.filter fun x=>!(x.1 ==id)).map fun x=>(x.1,sf id c x.2)):=
        wz.2 ⟨(id',.box d),wI.2 ⟨bc _ _ _ ho0,by simp[hid]⟩,rfl⟩
       have:=dO (hnn.2 _ hmem) k (iY (c:=pubV id c d) (by rw[<-wH hd2];exact hd') k hk);simpa using this
     |tail I n=>
      obtain⟨base,cap,g1,g2,g3,g4,g5⟩:=hs;refine⟨base,cap,by simp only[w5 hid];exact g1,g2,g3,g4,fun b2 hb2=>?_⟩;obtain⟨m1,vs,ty,fz,m2,m3,m4,m5⟩:=g5 b2 hb2;refine⟨m1,vs,ty,fz,m2,m3,m4,fun o ho hp=>?_⟩;rcases hp with hp|hp
      ·exact m5 o ho hp
      ·exact apart _ g1 b2 o hb2 hp
     |map U I m=>obtain⟨r,g1,g2,es,clock,g3,g4⟩:=hs;exact⟨r,by simp only[w5 hid];exact g1,g2,es,clock,g3,(g4.ext hx1).data⟩
     |bld t u l=>
      obtain⟨b2,g,g1,g2,g3⟩:=hs;refine⟨b2,g,by simp only[w5 hid];exact g1,fun b3 hb3 o=>⟨(g2 b3 hb3 o).1,fun hp=>?_⟩,g3⟩;rcases hp with hp|hp
      ·exact(g2 b3 hb3 o).2 hp
      ·exact apart _ g1 b3 o hb3 hp
     |tailp I n x=>
      obtain⟨b2,cap,g1,g2,g3,g4,g5,g6,g7⟩:=hs;refine⟨b2,cap,by simp only[w5 hid];exact g1,g2,g3,g4,g5,fun o ho hp=>?_,fun j c' hc=>?_⟩
      ·rcases hp with hp|hp
       ·exact g6 o ho hp
       ·exact apart _ g1 b2 o rfl hp
      ·obtain⟨v,k1,k2⟩:=g7 j c' hc;refine⟨v,k1,hag (k2.ext hx1) (fun i hi=>?_)⟩;have:=bT hc i hi;rw[cW]at this;cases this
   ·simp only[St.abs]at hid;by_cases hii:id'=id
    ·simp[hii]
    ·have e:=gm (sf id c) (s.b.filter fun x=>!(x.1 ==id)) id';rw[e]at hid;have e':=ep s.b (fun i=>!(i ==id)) id';rw[e',wh (by simp[hii])]at hid;simp only[w5 hii];exact h.dom id' (by show ae s.b id'=none;simpa using hid)
   ·intro h1 h2;simp only at hi hj;split at hi
    ·cases hi
    ·split at hj
     ·cases hj
     ·exact h.inj i j ci cj b' o hi hj h1 h2
   ·rcases hp with hp|⟨rfl,hp1,hp2⟩
    ·exact h.pubok b' o hp
    ·have hj:o-off<(a7 c).length:=by omega
     obtain⟨_,_,_,v,hv,_⟩:=e2 (o-off) _ (vV hj);exact⟨v,by rw[show off+(o-off)=o by omega]at hv;exact hv⟩
   ·have hl:=F.dom0 i x hx;have hne:i≠id:=fun e=>by subst e;rw[hnl]at hl;cases hl
    obtain⟨x',q1,q2⟩:=h.keep i x hx;exact⟨x',by simp only[w5 hne];exact q1,q2⟩
   ·refine⟨h.frame.os,h.frame.tape,h.frame.output,h.frame.size,h.frame.block,h.frame.cell,h.frame.kind,fun b' o hp=>?_,fun b' o hp=>Or.inl (h.frame.old b' o hp),h.frame.pcell⟩;rcases hp with hp|⟨rfl,hp1,hp2⟩
    ·exact h.frame.pub b' o hp
    ·have hj:o-off<(a7 c).length:=by omega
     have:=(e2 (o-off) _ (vV hj)).1;rw[show off+(o-off)=o by omega]at this;exact Or.inr this
  ·cases hp
 ·cases hp
theorem fC{F:Fr}{a:Act}:∀(l:List Nat) {s s':St} {E:Om},Holds F s.abs a E->iP l s=some s'->∃E',E'.w=E.w/\Holds F s'.abs a E'
 |[],s,s',E,h,hp=>by simp[iP]at hp;subst hp;exact⟨E,rfl,h⟩
 |i::r,s,s',E,h,hp=>by
  simp only[iP]at hp;split at hp
  ·rename_i s1 h1;obtain⟨E1,e1,k1⟩:=pB h h1;obtain⟨E2,e2,k2⟩:=fC r k1 hp;exact⟨E2,e2.trans e1,k2⟩
  ·cases hp
end Go.AL
end
noncomputable section
namespace Go.AL
theorem j0{K V:Type}[DecidableEq K]:∀(m:List (K×V))(k k':K)(v:V),cd (fS m k v) k'=if k'=k then some v else cd m k'
 |[],k,k',v=>by simp[fS,cd]
 |(a,u)::r,k,k',v=>by
  simp only[fS];by_cases h:k=a
  ·subst h;rw[wh rfl];by_cases h':k'=k<;>simp[cd,h']
  ·rw[w5 h];simp only[cd,j0 r k k' v];by_cases h1:k'=a
   ·subst h1;simp[yU h]
   ·simp[h1]
variable [Tabs]
open Go.ChangeMaps (setBlock)
theorem Holds.aside{F:Fr}{s:AS}{a:Act}{E:Om}(h:Holds F s a E){w':World}{r:Nat}(os:w'.os=E.w.os)(tape:w'.tape=E.w.tape)(output:w'.output=E.w.output)(size:E.w.heap.size<=w'.heap.size)
 (hb:∀b,b<E.w.heap.size->b≠r->w'.heap[b]?=E.w.heap[b]?)(hr:F.w0.heap.size<=r)(hnp:∀o,¬E.pub r o)(hno:∀id c o,E.e id=some c->¬occ c r o):Holds F s a ⟨E.e,w',E.pub⟩:=by
 have pne:∀b o,E.pub b o->b<E.w.heap.size/\b≠r:=fun b o hp=>⟨let ⟨_,hv⟩:=h.pubok b o hp;ay hv,fun e=>hnp o (e ▸ hp)⟩;have hx:Ext E ⟨E.e,w',E.pub⟩:=⟨fun _ c hc=>⟨c,hc,CLe.refl c⟩,fun _ _ p=>p,fun b o p=>ab (hb b (pne b o p).1 (pne b o p).2) o⟩;have old:∀b,b<F.w0.heap.size->w'.heap[b]?=E.w.heap[b]?:=fun b hlt=>hb b (yL hlt h.frame.size) (by omega)
 refine⟨fun i=>(h.tmps i).ext hx,h.size,h.defers,fun id o ho=>(h.slots id o ho).keep hx rfl (fun c hc=>iu.of_blocks fun b o hbo=>⟨hb b (h.blk hc hbo) (fun e=>hno id c o hc (e ▸ hbo)),fun _ p=>p⟩),h.dom,h.inj,
  fun b o p=>let ⟨v,hv⟩:=h.pubok b o p;⟨v,by rw[<-hv];exact hx.cell b o p⟩,h.keep,?_⟩
 refine⟨os.trans h.frame.os,tape.trans h.frame.tape,output.trans h.frame.output,xB h.frame.size size,fun b hlt hn=>(old b hlt).trans (h.frame.block b hlt hn),fun b o hlt hn=>(ab (old b hlt) o).trans (h.frame.cell b o hlt hn),
  fun b hlt hn=>⟨(aJ (old b hlt)).trans (h.frame.kind b hlt hn).1,fun o=>(az (old b hlt) o).trans ((h.frame.kind b hlt hn).2 o)⟩,h.frame.pub,h.frame.old,fun b o p=>(hx.cell b o (h.frame.old b o p)).trans (h.frame.pcell b o p)⟩
theorem Holds.weak{F:Fr}{s s':AS}{a:Act}{E:Om}(h:Holds F s a E)(hT:∀i,s'.T i=.undef∨s'.T i=s.T i)(hB:s'.B=s.B):Holds F s' a E:=
 ⟨fun i=>by
  rcases hT i with e|e
  ·rw[e];exact .undef _
  ·rw[e];exact h.tmps i,h.size,h.defers,by rw[hB];exact h.slots,by rw[hB];exact h.dom,h.inj,h.pubok,h.keep,h.frame⟩
theorem js{K V:Type}[DecidableEq K]:∀(m:List (K×V))(k:K),(cd m k).isSome=true↔∃x∈m,x.1=k
 |[],k=>by simp[cd]
 |(a,u)::r,k=>by
  simp only[cd];by_cases h:k=a
  ·subst h;simp
  ·rw[w5 h,js r k];constructor
   ·rintro⟨x,hx,e⟩;exact⟨x,by simp[hx],e⟩
   ·rintro⟨x,hx,e⟩;rcases wC.1 hx with rfl|hx
    ·exact absurd e.symm h
    ·exact⟨x,hx,e⟩
section
variable {P:Program} {C:Cfg} {F:Fr}
theorem bd{ops:Array Oper}{Q:Exit->Act->World->Prop}{i:Nat}{rest:List Nat}{o:Oper}{a:Act}{w:World}(hi:ops[i]?=some o)(hg:o.guard=none)
 (h:o.wp P a w (wpOps P ops Q rest) Q):wpOps P ops Q (i::rest) a w:=by
 unfold wpOps;rw[hi];have:Region.wanted o (yielded ops a.tmps)=true:=by unfold Region.wanted;rw[hg]
 simp only[this,wR];exact .inl h
structure KLcode(L:KL)(a b:Code):Prop where
 code:∃i1 i2 i3 i4 x y ty1 ps1 af1 ty2 ps2 af2 ty3 ps3 af3 ty4 ps4 af4 ty5 ps5 af5 ty6 ps6 af6 ty7 ps7 af7 ty8 ps8 af8 ty9 ps9 af9 ty10 ps10 af10,
  a=.region i1 #[⟨some L.m1,.move L.src,ty1,ps1,af1,none⟩,⟨some L.it,.range L.t (.tmp L.m1),ty2,ps2,af2,none⟩] false/\
  b=.block x (.loop (.seq (.region i2 #[⟨some L.nx,.next (.tmp L.it) false,ty3,ps3,af3,none⟩,⟨some L.c,.extract (.tmp L.nx) 0,ty4,ps4,af4,none⟩] false) (.seq (.cond (.tmp L.c) .skip (.exit x)) (.block y (.seq
   (.region i3 #[⟨some L.en,.entry (.tmp L.it),ty5,ps5,af5,none⟩,⟨some L.k1,.extract (.tmp L.en) 0,ty6,ps6,af6,none⟩,⟨some L.kv,.assign (.tmp L.k1),ty7,ps7,af7,none⟩] false)
   (.region i4 #[⟨some L.d1,.move (.tmp L.dst),ty8,ps8,af8,none⟩,⟨some L.k2,.move (.tmp L.kv),ty9,ps9,af9,none⟩,⟨none,.mapUpdate L.t2 (.tmp L.d1) (.tmp L.k2) (.const (.int .i64 L.n)),ty10,ps10,af10,none⟩] false))))))
 rng:okC .i64 L.n=true
 dis:aF [L.m1,L.it,L.nx,L.c,L.en,L.k1,L.kv,L.d1,L.k2,L.dst]=true
theorem rz{a b:Code}{L:KL}(h:kh a b=some L):KLcode L a b:=by
 unfold kh at h;split at h
 ·rename_i i1 r1 x i2 r2 c x2 y i3 r3 i4 r4;split at h
  ·rename_i h1 h2 h3 h4;split at h
   ·rename_i hc;simp only[vW,wG]at hc;obtain⟨⟨⟨⟨⟨⟨⟨⟨⟨⟨⟨⟨rfl,rfl⟩,rfl⟩,rfl⟩,rfl⟩,rfl⟩,rfl⟩,rfl⟩,rfl⟩,rfl⟩,rfl⟩,hr⟩,hd⟩:=hc;simp only[Xs]at h;subst h;have e1:=xq List.toArray h1;have e2:=xq List.toArray h2;have e3:=xq List.toArray h3;have e4:=xq List.toArray h4;simp only[xi]at e1 e2 e3 e4;subst e1 e2 e3 e4;exact⟨⟨_,_,_,_,_,_,_,_,_,_,_,_,_,_,_,_,_,_,_,_,_,_,_,_,_,_,_,_,_,_,_,_,_,_,_,_,rfl,rfl⟩,hr,hd⟩
   ·cases h
  ·cases h
 ·cases h
theorem b8{a:Act}{n d i:Nat}{v:Value}(hs:a.tmps.size=n)(hd:d<n):(a.put (some d) v).tmps.getD i undef=if d=i then v else a.tmps.getD i undef:=by
 simp only[Act.put];by_cases h:d=i
 ·subst h;rw[wh rfl];simp[w9,hs,hd]
 ·rw[w5 h];simp[w9,h]
structure KInv(F:Fr)(L:KL)(s:St)(i j bm r:Nat)(es:Array MapEntry)(clock:Nat)(md:List (Str×Int))(seen:Array Nat)(a:Act)(E:Om)(d:List (Str×Int)):Prop where
 hh:Holds F ⟨fun k=>if L.wr.contains k then .undef else aE s.t k,fun k=>if j=k then some (.map .str (.int .i64) d)else ae s.b k⟩ a E
 it:a.tmps.getD L.it undef=.pointer (some ⟨r,0,none⟩)
 iter:∃c0,clock<=c0/\E.w.heap[r]?=some (.mapIter (some bm) clock seen c0)
 map:E.w.heap[bm]?=some (.map es clock)
 own:F.w0.heap.size<=r
 np:∀o,¬E.pub r o
 no:∀id c o,E.e id=some c->¬occ c r o
 ei:E.e i=some (.obj bm)
 ne:i≠j
 yes:∀k,(∃e∈es.toList,e.key=.string ⟨k.toArray⟩/\seen.contains e.born=true)->cd d k=some L.n
 not:∀k,(¬∃e∈es.toList,e.key=.string ⟨k.toArray⟩/\seen.contains e.born=true)->cd d k=cd md k
theorem rA{es:Array MapEntry}{seen:Array Nat}{e:MapEntry}(he:e∈(leftOf es seen).toList):(leftOf es (seen.push e.born)).size<(leftOf es seen).size:=by
 unfold leftOf at he⊢;have key:∀p:MapEntry->Bool,(es.filter p).size=(es.toList.filter p).length:=fun p=>xq List.length y9;rw[key,key];simp only[y9,wI,wc]at he
 exact filter_lt (fun x=>!seen.contains x.born) (fun x=>!(seen.push e.born).contains x.born) (fun x hx=>by
  simp only[wc]at hx⊢;rw[yD,yx]at hx
  first|exact hx.1|exact hx.2) e (by simpa using he.2) (by simp) es.toList he.1
theorem KInv.done{L:KL}{s:St}{i j bm r:Nat}{es:Array MapEntry}{clock:Nat}{md:List (Str×Int)}{seen:Array Nat}{a:Act}{E:Om}{d:List (Str×Int)}{I:Ty}{m:List (Str×den I)}
 (hK:KInv F L s i j bm r es clock md seen a E d)(hm:ae s.b i=some (.map .str I m))(h0:(leftOf es seen).size=0)
 {a':Act}(h':Holds F ⟨fun k=>if L.wr.contains k then .undef else aE s.t k,fun k=>if j=k then some (.map .str (.int .i64) d)else ae s.b k⟩ a' E) :
  Holds F (St.abs ⟨s.t.filter fun x=>!L.wr.contains x.1,jF s.b j (.map .str (.int .i64) d)⟩) a' E/\(d.map (·.1)).Nodup/\(∀k,cd d k=if(cd m k).isSome=true then some L.n else cd md k):=by
 refine⟨?_,?_,fun k=>?_⟩
 ·have e1:(fun k=>if L.wr.contains k then AV.undef else aE s.t k)=aE (s.t.filter fun x=>!L.wr.contains x.1):=by funext k;rw[eo s.t (fun i=>!L.wr.contains i) k];cases L.wr.contains k<;>simp
  have e2:(fun k=>if j=k then some (SObj.map .str (.int .i64) d)else ae s.b k)=ae (jF s.b j (.map .str (.int .i64) d)):=by funext k;rw[dN]
  have h2:=h';rw[e1,e2]at h2;exact h2
 ·obtain⟨_,_,_,_,_,_,hm⟩:=h'.slots j (.map .str (.int .i64) d) (by simp);exact hm.keys
 ·obtain⟨r',k1,_,es',clock',k3,k4⟩:=hK.hh.slots i (.map .str I m) (by simp only[w5 (yU hK.ne)];exact hm);rw[hK.ei]at k1;cases k1;rw[hK.map]at k3;cases k3
  have all:∀e∈es.toList,seen.contains e.born=true:=by
   intro e he;rcases Bool.eq_false_or_eq_true (seen.contains e.born)with h|h
   ·exact h
   ·have:e∈(leftOf es seen).toList:=by unfold leftOf;simp only[y9,wI];exact⟨he,by rw[h];rfl⟩
    rw[<-xr]at h0;rw[List.length_eq_zero_iff.1 h0]at this;cases this
  have key:(cd m k).isSome=true↔∃e∈es.toList,e.key=.string ⟨k.toArray⟩/\seen.contains e.born=true:=by
   rw[js];constructor
   ·rintro⟨x,hx,rfl⟩;obtain⟨q,hq⟩:=xo hx
    have hl:q<es.size:=by
     rw[k4.size];rcases w4 q m.length with h|h
     ·exact h
     ·rw[vX h]at hq;cases hq
    have hv:=(k4.ent q es[q] x (xc hl) hq).1;have hmem:es[q]∈es.toList:=by simp
    exact⟨es[q],hmem,V.str_inv hv|>.1,all _ hmem⟩
   ·rintro⟨e,he,hk,_⟩;obtain⟨q,hq⟩:=xo he;rw[wg]at hq
    have hl:q<m.length:=by
     rw[<-k4.size];rcases w4 q es.size with h|h
     ·exact h
     ·rw[wW h]at hq;cases hq
    have hv:=(k4.ent q e m[q] hq (vV hl)).1;refine⟨m[q],yn hl,?_⟩;have:=(V.str_inv hv).1;rw[hk]at this;simp at this;exact this.symm
  by_cases h:(cd m k).isSome=true
  ·rw[wh h];exact hK.yes k (key.1 h)
  ·rw[w5 h];exact hK.not k (fun e=>h (key.2 e))
theorem pC(hT:aG P C.tbl){x y:Code}{L:KL}(hL:kh x y=some L){s:St}{Q:SX->St->Prop}{a:Act}{E:Om}(h:sk C L s Q)(hds:aR F.n (.seq x y)=true)(hh:Holds F s.abs a E) :
  (Code.seq x y).wp P (fun e a' w'=>e=.normal/\∃s' E',E'.w=w'/\Holds F s'.abs a' E'/\Q .normal s') a E.w:=by
 obtain⟨⟨i1,i2,i3,i4,bx,by_,ty1,ps1,af1,ty2,ps2,af2,ty3,ps3,af3,ty4,ps4,af4,ty5,ps5,af5,ty6,ps6,af6,ty7,ps7,af7,ty8,ps8,af8,ty9,ps9,af9,ty10,ps10,af10,rfl,rfl⟩,hrng,hdis⟩:=rz hL;have hnd:¬L.wr.contains L.dst=true:=by intro hc;simp only[KL.wr,wB,wC,xJ,or_false,wb]at hc;clear hL hh h hds;rcases hc with e|e|e|e|e|e|e|e|e<;>rw[e]at hdis<;>simp[aF]at hdis
 have hne:L.nx≠L.it/\L.c≠L.it/\L.en≠L.it/\L.k1≠L.it/\L.kv≠L.it/\L.d1≠L.it/\L.k2≠L.it/\L.d1≠L.kv/\L.d1≠L.k2:=by clear hL hh h hds;simp[aF]at hdis;refine⟨?_,?_,?_,?_,?_,?_,?_,?_,?_⟩<;>(intro e;simp_all)
 simp[aR]at hds;obtain⟨⟨d1,d2⟩,⟨d3,d4⟩,⟨d5,d6,d7⟩,d8,d9⟩:=hds;unfold sk at h;split at h
 ·rename_i i j hsrc hdst;split at h
  ·rename_i I m d0 kt0 e0 _ _ _ _ kt e1 _ _ _ _ hbi hbj ht1 ht2;split at h
   ·rename_i rk hrk;split at h
    ·rename_i hc;simp only[vW,wc,xt,ne_eq]at hc;obtain⟨hko,hij⟩:=hc;have hv:=aK hh L.src;rw[show opd s.abs.T L.src=.map i from hsrc]at hv;generalize hsv:a.eval L.src=sv at hv
     cases hv with
     |map _ bm hei=>
      obtain⟨r',g1,g2,es,clock,g3,g4⟩:=hh.slots i _ hbi;rw[hei]at g1;cases g1;obtain⟨dd,u1,u2⟩:=an hT ht1 rfl;cases dd<;>simp[ar]at u2;obtain⟨rfl,rfl⟩:=u2;refine yQ (yp ?_);show wpOps P _ _ [0,1] a E.w;refine bd (o:=⟨some L.m1,.move L.src,ty1,ps1,af1,none⟩) rfl rfl (ai (v:=.map (some bm)) (w':=E.w) (by simp[execOp,hsv]) ?_);have hsz:=hh.size;have hm1:(a.put (some L.m1) (.map (some bm))).eval (.tmp L.m1)=.map (some bm):=by show(a.put (some L.m1) (.map (some bm))).tmps.getD L.m1 undef=_;rw[b8 hsz d1,wh rfl]
      refine bd (o:=⟨some L.it,.range L.t (.tmp L.m1),ty2,ps2,af2,none⟩) rfl rfl (ai (v:=.pointer (some ⟨E.w.heap.size,0,none⟩)) (w':=E.w.alloc (.mapIter (some bm) clock #[] clock)) (by simp[execOp,hm1,run_range_map E.w _ _ _ bm es clock u1 g3]) ?_);show(Code.block bx _).wp P _ _ _;refine wp_block ?_
      have hT0:∀k,(if L.wr.contains k=true then AV.undef else aE s.t k)=.undef∨(if L.wr.contains k=true then AV.undef else aE s.t k)=aZ (aZ s.abs.T (some L.m1) .undef) (some L.it) .undef k:=by
       intro k;by_cases hk:L.wr.contains k=true
       ·left;rw[wh hk]
       ·right;simp only[KL.wr,wB,wC,xJ,or_false,wb,yP]at hk;rw[w5 (by simp[KL.wr];exact hk)];simp only[aZ];rw[w5 (yU hk.2.1),w5 (yU hk.1)];rfl
      have hB0:(fun k=>if j=k then some (SObj.map .str (.int .i64) d0)else ae s.b k)=s.abs.B:=by
       funext k;by_cases hjk:j=k
       ·subst hjk;rw[wh rfl];exact hbj.symm
       ·rw[w5 hjk];rfl
      have hK0:KInv F L s i j bm E.w.heap.size es clock d0 #[] ((a.put (some L.m1) (.map (some bm))).put (some L.it) (.pointer (some ⟨E.w.heap.size,0,none⟩))) ⟨E.e,E.w.alloc (.mapIter (some bm) clock #[] clock),E.pub⟩ d0:=by
       have hp1:=hh.pure (dst:=some L.m1) (val:=.undef) (v:=.map (some bm)) (.undef _) (fun d e=>by cases e;exact d1);have hp2:=hp1.pure (dst:=some L.it) (val:=.undef) (v:=.pointer (some ⟨E.w.heap.size,0,none⟩)) (.undef _) (fun d e=>by cases e;exact d2);have nopub:∀o,¬E.pub E.w.heap.size o:=fun o hp=>by obtain⟨v,hv⟩:=hh.pubok _ o hp;have:=ay hv;omega
       have noocc:∀id c o,E.e id=some c->¬occ c E.w.heap.size o:=fun id c o hc ho=>by have:=hh.blk hc ho;omega
       have hbm:=bf g3;refine⟨?_,?_,⟨clock,wj _,heap_alloc_new _ _⟩,by rw[<-g3];exact heap_alloc_old _ _ hbm,hh.frame.size,nopub,noocc,hei,hij,fun k ⟨e,_,_,he⟩=>by simp at he,fun k _=>rfl⟩
       ·rw[hB0];exact(hp2.weak (s':=⟨fun k=>if L.wr.contains k then .undef else aE s.t k,s.abs.B⟩) hT0 rfl).aside (r:=E.w.heap.size) rfl rfl rfl (by show _<=(E.w.heap.push _).size;simp) (fun b hb _=>heap_alloc_old _ _ hb) hh.frame.size nopub noocc
       ·rw[b8 (by simp[Act.put,hsz]) d2,wh rfl]
      generalize E.w.heap.size=r at hK0⊢;refine wp_loop_ghost (fun n a w=>∃seen d E,E.w=w/\KInv F L s i j bm r es clock d0 seen a E d/\(leftOf es seen).size=n) _ ⟨_,_,_,rfl,hK0,rfl⟩ ?_;intro n a1 w1 hI;obtain⟨seen,d,E1,rfl,hK,rfl⟩:=hI;obtain⟨c0,hc0,hit⟩:=hK.iter;have hz1:=hK.hh.size;obtain⟨rb,k1,_,es',clock',k3,k4⟩:=hK.hh.slots i (.map .str I m) (by simp only[w5 (yU hij)];exact hbi);rw[hK.ei]at k1;cases k1;rw[hK.map]at k3;cases k3;have hold:∀e∈es.toList,e.born<clock:=fun e he=>by obtain⟨q,hq⟩:=xo he;exact k4.born q e (by rw[<-wg];exact hq)
      have weakT:∀{a':Act} {E':Om} {T:Nat->AV} {dst:Option Nat},(∀d,dst=some d->L.wr.contains d=true)->Holds F ⟨aZ (fun k=>if L.wr.contains k then .undef else aE s.t k) dst .undef,fun k=>if j=k then some (.map .str (.int .i64) d)else ae s.b k⟩ a' E'->
        Holds F ⟨fun k=>if L.wr.contains k then .undef else aE s.t k,fun k=>if j=k then some (.map .str (.int .i64) d)else ae s.b k⟩ a' E':=by
       intro a' E' T dst hd hh';refine hh'.weak (fun k=>?_) rfl
       cases dst with
       |none=>exact .inr rfl
       |some d'=>
        by_cases hk:d'=k
        ·subst hk;left;show(if _ then _ else _)=_;rw[wh (hd d' rfl)]
        ·right;simp only[aZ,w5 hk]
      have w_nx:L.wr.contains L.nx=true:=by simp[KL.wr]
      have w_c:L.wr.contains L.c=true:=by simp[KL.wr]
      have w_en:L.wr.contains L.en=true:=by simp[KL.wr]
      have w_k1:L.wr.contains L.k1=true:=by simp[KL.wr]
      have w_kv:L.wr.contains L.kv=true:=by simp[KL.wr]
      have putU:∀{a':Act} {E':Om} {t:Nat} (v:Value),L.wr.contains t=true->t<F.n->Holds F ⟨fun k=>if L.wr.contains k then .undef else aE s.t k,fun k=>if j=k then some (.map .str (.int .i64) d)else ae s.b k⟩ a' E'->
        Holds F ⟨fun k=>if L.wr.contains k then .undef else aE s.t k,fun k=>if j=k then some (.map .str (.int .i64) d)else ae s.b k⟩ (a'.put (some t) v) E':=
       fun v ht hl hh'=>weakT (T:=fun _=>.undef) (fun d e=>by cases e;exact ht) (hh'.pure (dst:=some _) (val:=.undef) (v:=v) (.undef _) (fun d e=>by cases e;exact hl))
      have hit':a1.eval (.tmp L.it)=.pointer (some ⟨r,0,none⟩):=hK.it;rcases run_next_at (P:=P) E1.w ty3 r bm clock c0 seen es clock hit hK.map hold hc0 with⟨h0,hrun⟩|⟨e,he,w2,hw2,hrun⟩
      ·refine yQ (yp ?_);show wpOps P _ _ [0,1] a1 E1.w;refine bd (o:=⟨some L.nx,.next (.tmp L.it) false,ty3,ps3,af3,none⟩) rfl rfl (ai (v:=.tuple #[.bool false]) (w':=E1.w) (by simp[execOp,hit',hrun]) ?_);have hnx:(a1.put (some L.nx) (.tuple #[.bool false])).eval (.tmp L.nx)=.tuple #[.bool false]:=by show(a1.put (some L.nx) _).tmps.getD L.nx undef=_;rw[b8 hz1 d3,wh rfl]
       refine bd (o:=⟨some L.c,.extract (.tmp L.nx) 0,ty4,ps4,af4,none⟩) rfl rfl (ai (v:=.bool false) (w':=E1.w) (by simp[execOp,hnx,Instr.extract]) ?_);have h1:=putU (.tuple #[.bool false]) w_nx d3 hK.hh;have h2:=putU (.bool false) w_c d4 h1;refine yQ (wp_cond (t:=false) (by show(Act.put _ (some L.c) _).tmps.getD L.c undef=_;rw[b8 h1.size d4,wh rfl]) (wp_exit ?_));simp only[Exit.then,Exit.inBlock,wR];obtain⟨q1,q2,q3⟩:=hK.done hbi h0 h2;exact⟨trivial,_,E1,rfl,q1,h d q2 q3⟩
      ·refine yQ (yp ?_);show wpOps P _ _ [0,1] a1 E1.w;refine bd (o:=⟨some L.nx,.next (.tmp L.it) false,ty3,ps3,af3,none⟩) rfl rfl (ai (v:=.tuple #[.bool true,e.key,e.val]) (w':=setBlock w2 r (.mapIter (some bm) clock (seen.push e.born) clock)) (by simp[execOp,hit',hrun]) ?_);have hnx:(a1.put (some L.nx) (.tuple #[.bool true,e.key,e.val])).eval (.tmp L.nx)=.tuple #[.bool true,e.key,e.val]:=by show(a1.put (some L.nx) _).tmps.getD L.nx undef=_;rw[b8 hz1 d3,wh rfl]
       refine bd (o:=⟨some L.c,.extract (.tmp L.nx) 0,ty4,ps4,af4,none⟩) rfl rfl (ai (v:=.bool true) (w':=setBlock w2 r (.mapIter (some bm) clock (seen.push e.born) clock)) (by simp[execOp,hnx,Instr.extract]) ?_);have hlt1:r<E1.w.heap.size:=bf hit;have hwh:w2.heap=E1.w.heap:=by rcases hw2 with rfl|rfl<;>rfl
       have hoth:∀b,b≠r->(setBlock w2 r (.mapIter (some bm) clock (seen.push e.born) clock)).heap[b]?=E1.w.heap[b]?:=by intro b hb;show(w2.heap.setIfInBounds r _)[b]?=_;rw[hwh,Array.getElem?_setIfInBounds_ne (yU hb)]
       have hrr:(setBlock w2 r (.mapIter (some bm) clock (seen.push e.born) clock)).heap[r]?=some (.mapIter (some bm) clock (seen.push e.born) clock):=by show(w2.heap.setIfInBounds r _)[r]?=_;rw[hwh];simp[hlt1]
       have hA:=hK.hh.aside (r:=r) (w':=setBlock w2 r (.mapIter (some bm) clock (seen.push e.born) clock)) (by rcases hw2 with rfl|rfl<;>rfl) (by rcases hw2 with rfl|rfl<;>rfl) (by rcases hw2 with rfl|rfl<;>rfl)
        (by show _<=(w2.heap.setIfInBounds r _).size;rw[hwh];simp) (fun b _ hb=>hoth b hb) hK.own hK.np hK.no
       have h1:=putU (.tuple #[.bool true,e.key,e.val]) w_nx d3 hA;have h2:=putU (.bool true) w_c d4 h1;refine yQ (wp_cond (t:=true) (by show(Act.put _ (some L.c) _).tmps.getD L.c undef=_;rw[b8 h1.size d4,wh rfl]) (wp_skip ?_));refine wp_block (yQ (yp ?_));have hes:e∈es.toList:=by unfold leftOf at he;simp only[y9,wI]at he;exact he.1
       obtain⟨q,hq⟩:=xo hes;rw[wg]at hq;have hql:q<m.length:=by rw[<-k4.size];exact(xu.1 hq).1
       have hkv:V E1 (.str m[q].1) e.key:=(k4.ent q e m[q] hq (vV hql)).1;have hks:=(V.str_inv hkv).1;have hbn:(es.toList.map (·.born)).Nodup:=by rw[xV,List.pairwise_map,xx];intro u v hu hv huv;have:=k4.rise u v es.toList[u] es.toList[v] (by rw[<-wg];exact vV hu) (by rw[<-wg];exact vV hv) huv;omega
       have hbm3:=hoth bm (fun e=>by subst e;exact hK.no i _ 0 hK.ei rfl);have hen:=run_entry_at (P:=P) _ r bm clock seen es clock e hrr (hbm3.trans hK.map) hes hbn;show wpOps P _ _ [0,1,2] _ _;have hit2:((a1.put (some L.nx) (.tuple #[.bool true,e.key,e.val])).put (some L.c) (.bool true)).eval (.tmp L.it)=.pointer (some ⟨r,0,none⟩):=by show(Act.put _ (some L.c) _).tmps.getD L.it undef=_;rw[b8 h1.size d4,w5 hne.2.1,b8 hz1 d3,w5 hne.1];exact hK.it
       refine bd (o:=⟨some L.en,.entry (.tmp L.it),ty5,ps5,af5,none⟩) rfl rfl (ai (v:=.tuple #[e.key,e.val]) (w':=setBlock w2 r (.mapIter (some bm) clock (seen.push e.born) clock)) (by simp[execOp,hit2,hen]) ?_);have h3:=putU (.tuple #[e.key,e.val]) w_en d5 h2;refine bd (o:=⟨some L.k1,.extract (.tmp L.en) 0,ty6,ps6,af6,none⟩) rfl rfl (ai (v:=e.key) (w':=setBlock w2 r (.mapIter (some bm) clock (seen.push e.born) clock)) ?_ ?_)
       ·have:(Act.put ((a1.put (some L.nx) (.tuple #[.bool true,e.key,e.val])).put (some L.c) (.bool true)) (some L.en) (.tuple #[e.key,e.val])).eval (.tmp L.en)=.tuple #[e.key,e.val]:=by show(Act.put _ (some L.en) _).tmps.getD L.en undef=_;rw[b8 h2.size d5,wh rfl]
        simp[execOp,this,Instr.extract]
       have h4:=putU e.key w_k1 d6 h3;refine bd (o:=⟨some L.kv,.assign (.tmp L.k1),ty7,ps7,af7,none⟩) rfl rfl (ai (v:=e.key) (w':=setBlock w2 r (.mapIter (some bm) clock (seen.push e.born) clock)) ?_ ?_)
       ·have:(Act.put (Act.put ((a1.put (some L.nx) (.tuple #[.bool true,e.key,e.val])).put (some L.c) (.bool true)) (some L.en) (.tuple #[e.key,e.val])) (some L.k1) e.key).eval (.tmp L.k1)=e.key:=by show(Act.put _ (some L.k1) _).tmps.getD L.k1 undef=_;rw[b8 h3.size d6,wh rfl]
        simp[execOp,this]
       have h5:=putU e.key w_kv d7 h4;generalize ha5:Act.put (Act.put (Act.put ((a1.put (some L.nx) (.tuple #[.bool true,e.key,e.val])).put (some L.c) (.bool true)) (some L.en) (.tuple #[e.key,e.val])) (some L.k1) e.key) (some L.kv) e.key=a5 at h5;have hkv5:a5.tmps.getD L.kv undef=e.key:=by rw[<-ha5,b8 h4.size d7,wh rfl]
       have hit5:a5.tmps.getD L.it undef=.pointer (some ⟨r,0,none⟩):=by rw[<-ha5,b8 h4.size d7,w5 hne.2.2.2.2.1,b8 h3.size d6,w5 hne.2.2.2.1,b8 h2.size d5,w5 hne.2.2.1];exact hit2
       have hdst5:=h5.tmps L.dst;simp only[w5 hnd,hdst]at hdst5;show Code.wp P (.region i4 _ false) _ a5 _;refine yp ?_;show wpOps P _ _ [0,1,2] a5 _;generalize hdv:a5.tmps.getD L.dst undef=dv at hdst5;have hdv':a5.eval (.tmp L.dst)=dv:=hdv;refine bd (o:=⟨some L.d1,.move (.tmp L.dst),ty8,ps8,af8,none⟩) rfl rfl (ai (v:=dv) (w':=setBlock w2 r (.mapIter (some bm) clock (seen.push e.born) clock)) (by simp[execOp,hdv']) ?_);have hk2:(a5.put (some L.d1) dv).eval (.tmp L.kv)=e.key:=by show(a5.put (some L.d1) dv).tmps.getD L.kv undef=_;rw[b8 h5.size d8,w5 hne.2.2.2.2.2.2.2.1];exact hkv5
       refine bd (o:=⟨some L.k2,.move (.tmp L.kv),ty9,ps9,af9,none⟩) rfl rfl (ai (v:=e.key) (w':=setBlock w2 r (.mapIter (some bm) clock (seen.push e.born) clock)) (by simp[execOp,hk2]) ?_);have hkv3:V ⟨E1.e,setBlock w2 r (.mapIter (some bm) clock (seen.push e.born) clock),E1.pub⟩ (.str m[q].1) e.key:=by rw[hks];exact .str _ (V.str_inv hkv).2
       have h6a:=h5.pure (dst:=some L.d1) (val:=.map j) (v:=dv) hdst5 (fun d e=>by cases e;exact d8);have h6:=h6a.pure (dst:=some L.k2) (val:=.str m[q].1) (v:=e.key) hkv3 (fun d e=>by cases e;exact d9);have hTd1:aZ (aZ (fun k=>if L.wr.contains k then AV.undef else aE s.t k) (some L.d1) (.map j)) (some L.k2) (.str m[q].1) L.d1=.map j:=by simp only[aZ];rw[w5 (yU hne.2.2.2.2.2.2.2.2),wh trivial]
       refine bd (o:=⟨none,.mapUpdate L.t2 (.tmp L.d1) (.tmp L.k2) (.const (.int .i64 L.n)),ty10,ps10,af10,none⟩) rfl rfl ?_;refine kB hT (.inl rfl) h6 (fun d e=>by cases e) (eff:=⟨none,.undef,[(j,.map .str (.int .i64) (fS d m[q].1 L.n))]⟩) ?_ (fun a' E' hh' ha' hheap he' hpub'=>?_)
       ·simp only[ah,fh,opd,hTd1,ht2,hrk,wR];have:aZ (aZ (fun k=>if L.wr.contains k then AV.undef else aE s.t k) (some L.d1) (.map j)) (some L.k2) (.str m[q].1) L.k2=.str m[q].1:=by simp only[aZ,wR]
        rw[this];simp[iq,aW,hrng,arg,lu,asInt,ew,hko]
       ·cases hdst5 with
        |map _ rj hej=>
         have hej1:E1.e j=some (.obj rj):=hej;have hhp:=hheap j hTd1 rj hej;have hrj:r≠rj:=fun e=>hK.no j _ 0 hej1 e;have hbj':bm≠rj:=fun e=>hij (hK.hh.inj i j _ _ bm 0 hK.ei hej1 rfl e)
         refine⟨_,rA he,seen.push e.born,fS d m[q].1 L.n,E',rfl,⟨?_,?_,⟨clock,wj _,(hhp r hrj).trans hrr⟩,(hhp bm hbj').trans (hbm3.trans hK.map),hK.own,fun o hp=>hK.np o ((hpub' r o).1 hp),
          fun id c o hc=>hK.no id c o (by rw[<-he' id];exact hc),by rw[he' i];exact hK.ei,hij,fun k' hex=>?_,fun k' hex=>?_⟩,rfl⟩
         ·refine hh'.weak (fun k'=>?_) ?_
          ·by_cases hk:L.wr.contains k'=true
           ·left;exact wh hk
           ·right;have n1:L.d1≠k':=fun e=>hk (by rw[<-e];simp[KL.wr]);have n2:L.k2≠k':=fun e=>hk (by rw[<-e];simp[KL.wr]);show _=aZ (aZ (fun k=>if L.wr.contains k then AV.undef else aE s.t k) (some L.d1) (.map j)) (some L.k2) (.str m[q].1) k';simp only[aZ,w5 n1,w5 n2]
          ·funext k';show(if j=k' then _ else _)=(if j=k' then _ else(if j=k' then _ else _));by_cases hk:j=k'
           ·rw[wh hk,wh hk]
           ·rw[w5 hk,w5 hk,w5 hk]
         ·rw[ha'];show(Act.put _ (some L.k2) _).tmps.getD L.it undef=_;rw[b8 h6a.size d9,w5 hne.2.2.2.2.2.2.1,b8 h5.size d8,w5 hne.2.2.2.2.2.1];exact hit5
         ·rw[j0];by_cases hkk:k'=m[q].1
          ·rw[wh hkk]
          ·rw[w5 hkk];obtain⟨f,hf1,hf2,hf3⟩:=hex;rw[yD,xa]at hf3;have nb:f.born≠e.born:=by intro hb;have q1:=find_born f es.toList hbn hf1;have q2:=find_born e es.toList hbn hes;rw[hb,q2]at q1;cases q1;rw[hks]at hf2;simp at hf2;exact hkk hf2.symm
           refine hK.yes k' ⟨f,hf1,hf2,?_⟩;rcases hf3 with h|h
           ·first|exact h|exact absurd (by simpa using h) nb
           ·first|exact h|exact absurd (by simpa using h) nb
         ·rw[j0];have hkk:k'≠m[q].1:=by intro hkk;exact hex ⟨e,hes,by rw[hkk];exact hks,by simp⟩
          rw[w5 hkk];refine hK.not k' (fun⟨f,hf1,hf2,hf3⟩=>hex ⟨f,hf1,hf2,?_⟩);rw[yD,xa]
          first|exact .inl hf3|exact .inr hf3
    ·exact h.elim
   ·exact h.elim
  ·exact h.elim
 ·exact h.elim
end
end Go.AL
end
noncomputable section
namespace Go.AL
variable [Tabs]
section
variable {k:Nat} {I:Ty} {x:den I}
theorem j6:∀(l:List AV)(j:Nat),(finVs k I x l)[j]?=(l[j]?).map (finV k I x)
 |[],j=>by simp[finVs]
 |a::r,0=>by simp[finVs]
 |a::r,j+1=>by simp only[finVs,yf];exact j6 r j
theorem fD:∀l:List AV,(finVs k I x l).length=l.length
 |[]=>rfl
 |a::r=>by simp[finVs,fD r]
theorem kO(M:Ty)(y:den M):∀d∈cells M y,finV k I x d=d:=by
 cases M with
 |st n=>cases n<;>simp[cells,bC,dE,cr,cK,cM,cN,bn,cO,eC,dF,dG,dH,eD,eE,dQ,dI,gx,cP,eF,dA,eG,eH,dJ,finV]
 |_=>simp[cells,finV]
theorem jt(M:Ty)(y:den M):∀d∈cells M y,lensV k d=[]:=by
 cases M with
 |st n=>cases n<;>simp[cells,bC,dE,cr,cK,cM,cN,bn,cO,eC,dF,dG,dH,eD,eE,dQ,dI,gx,cP,eF,dA,eG,eH,dJ,lensV]
 |_=>simp[cells,lensV]
theorem rB(M:Ty)(ys:List (den M)):∀d∈aH M ys,finV k I x d=d:=by intro d hd;simp only[aH,xj]at hd;obtain⟨y,_,hy⟩:=hd;exact kO M y d hy
theorem pD(M:Ty)(ys:List (den M)):∀d∈aH M ys,lensV k d=[]:=by intro d hd;simp only[aH,xj]at hd;obtain⟨y,_,hy⟩:=hd;exact jt M y d hy
theorem kP(d:AV):(a7 (finV k I x d)).length=(a7 d).length/\∀(j:Nat)(a:AV),(a7 d)[j]?=some a->(a7 (finV k I x d))[j]?=some (finV k I x a):=by
 have one:∀{d:AV},a7 d=[d]->a7 (finV k I x d)=[finV k I x d]->(a7 (finV k I x d)).length=(a7 d).length/\
   ∀(j:Nat)(a:AV),(a7 d)[j]?=some a->(a7 (finV k I x d))[j]?=some (finV k I x a):=by
  intro d h1 h2;rw[h1,h2];refine⟨rfl,fun j a ha=>?_⟩
  cases j with|zero=>simp at ha;subst ha;rfl|succ j=>simp at ha
 cases d with
 |agg cs=>exact⟨fD cs,fun j a ha=>by show(finVs k I x cs)[j]?=_;rw[j6];have:cs[j]?=some a:=ha;rw[this];rfl⟩
 |st n y=>exact⟨rfl,fun j a ha=>by show(cells (.st n) y)[j]?=_;rw[kO (.st n) y a (wq ha)];exact ha⟩
 |row M ys=>exact⟨rfl,fun j a ha=>by show(aH M ys)[j]?=_;rw[rB M ys a (wq ha)];exact ha⟩
 |lstp M xs j=>
  refine one rfl ?_;simp only[finV];split
  ·split<;>rfl
  ·rfl
 |tptr M n j=>refine one rfl ?_;simp only[finV];split<;>rfl
 |_=>exact one rfl rfl
theorem hZ:∀{l:List AV} {j:Nat} {c:AV},l[j]?=some c->∀m∈lensV k c,m∈lensVs k l
 |a::r,0,c,h,m,hm=>by simp at h;subst h;simp[lensVs,hm]
 |a::r,j+1,c,h,m,hm=>by simp only[lensVs,x9];exact Or.inr (hZ (by simpa using h) m hm)
theorem kQ{d c:AV}{j:Nat}(h:(a7 d)[j]?=some c):∀m∈lensV k c,m∈lensV k d:=by
 intro m hm
 cases d with
 |agg cs=>exact hZ h m hm
 |st n y=>rw[jt (.st n) y c (wq h)]at hm;cases hm
 |row M ys=>rw[pD M ys c (wq h)]at hm;cases hm
 |_=>
  cases j with|zero=>simp only[a7,xp,Xs]at h;subst h;exact hm|succ j=>simp[a7]at h
structure Told(E:Om)(k:Nat)(I:Ty)(n:Nat)(x:den I)(b cap:Nat)(vals:Nat->Value):Prop where
 e:E.e k=some (.tail (n+1) (some b) cap)
 c1:n+1<=cap
 c2:cap<=aS
 at_:∀(j:Nat)(c:AV),(cells I x)[j]?=some c->E.pub b (n *a8 I+j)/\E.w.cell? ⟨b,n *a8 I+j,none⟩=some (vals j)/\V E c (vals j)
theorem V.finV{E:Om}{n b cap:Nat}{vals:Nat->Value}(ht:Told E k I n x b cap vals){a:AV}{v:Value}(h:V E a v):(∀m∈lensV k a,m=n)->V E (AL.finV k I x a) v:=by
 have many:∀{cs:List AV} {vs:List Value},cs.length=vs.length->(∀m∈lensVs k cs,m=n)->(∀(j:Nat)(d:AV)(v:Value),cs[j]?=some d->vs[j]?=some v->(∀m∈lensV k d,m=n)->V E (AL.finV k I x d) v)->
   (finVs k I x cs).length=vs.length/\∀(j:Nat)(d:AV)(v:Value),(finVs k I x cs)[j]?=some d->vs[j]?=some v->V E d v:=by
  intro cs vs hl hm ih;refine⟨by rw[fD,hl],fun j d v hd hv=>?_⟩;rw[j6]at hd;simp only[we]at hd;obtain⟨d0,hd0,rfl⟩:=hd;exact ih j d0 v hd0 hv (fun m hmm=>hm m (hZ hd0 m hmm))
 induction h with
 |lstp M xs j b' off cap' vals' h1 h2 h3 h4 h5 _=>
  intro hm;simp only[AL.finV];split
  ·rename_i hjk;have hjk:=wm hjk;subst hjk;split
   ·rename_i l hl;obtain⟨e,hl⟩:=eL hl;subst e;simp only at hl;subst hl;have hlen:xs.length=n:=hm xs.length (by simp[lensV]);obtain⟨m,base,cap2,r1,r2,r3⟩:=h3 _ rfl;rw[ht.e]at r1;simp only[Xs,CObj.tail.injEq]at r1;obtain⟨rfl,rfl,rfl⟩:=r1;have r3:=r3 (by omega);simp only[bX,wS,Xs,xE,xz,xh]at r3;obtain⟨⟨rfl,rfl⟩,rfl⟩:=r3;have hlx:(xs++[x]).length=xs.length+1:=by simp
    have hcase:∀(i:Nat)(y:den I),(xs++[x])[i]?=some y->(i<xs.length/\xs[i]?=some y)∨(i=xs.length/\y=x):=by
     intro i y hy;by_cases hi:i<xs.length
     ·rw[w6 hi]at hy;exact Or.inl ⟨hi,hy⟩
     ·rw[w8 (by omega)]at hy
      have:i-xs.length=0:=by
       rcases yI (i-xs.length)with q|q
       ·exact q
       ·rw[vX (by simp;omega)]at hy;cases hy
      rw[this]at hy;simp at hy;exact Or.inr ⟨by omega,hy.symm⟩
    have:=V.lst (E:=E) I (xs++[x]) (some j) b' 0 cap' (fun i q=>if i<xs.length then vals' i q else vals q) (by rw[hlx];exact h1) h2 (by
      rw[hlx];intro id hid;cases hid;exact⟨n+1,some b',cap',ht.e,by omega,fun e=>by simp[bX]⟩)
     (fun i y hy q c hc=>by
      rcases hcase i y hy with⟨hi,hy'⟩|⟨rfl,rfl⟩
      ·simp only[wh hi];exact h4 i y hy' q c hc
      ·simp only[Nat.lt_irrefl,wA,xf];have:=ht.at_ q c hc;rw[<-hlen]at this;exact⟨this.1,this.2.1⟩)
     (fun i y hy q c hc=>by
      rcases hcase i y hy with⟨hi,hy'⟩|⟨rfl,rfl⟩
      ·simp only[wh hi];exact h5 i y hy' q c hc
      ·simp only[Nat.lt_irrefl,wA];exact(ht.at_ q c hc).2.2)
    rw[hlx]at this;exact this
   ·exact .undef _
  ·exact .lstp M xs j b' off cap' vals' h1 h2 h3 h4 h5
 |tptr M m j p hp=>
  intro _;simp only[AL.finV];split
  ·exact .undef _
  ·exact .tptr M m j p hp
 |cptr d b' o vs h1 h2 ih=>
  intro hm;obtain⟨p1,p2⟩:=kP (k:=k) (I:=I) (x:=x) d
  have back:∀(j:Nat)(d':AV),(a7 (AL.finV k I x d))[j]?=some d'->∃d0,(a7 d)[j]?=some d0/\d'=AL.finV k I x d0:=by
   intro j d' hd'
   have hj:j<(a7 d).length:=by
    rw[<-p1];rcases w4 j (a7 (AL.finV k I x d)).length with q|q
    ·exact q
    ·rw[vX q]at hd';cases hd'
   have:=p2 j _ (vV hj);rw[hd']at this;exact⟨_,vV hj,wH this⟩
  refine .cptr _ b' o vs (fun j d' hd'=>?_) (fun j d' hd'=>?_)
  ·obtain⟨d0,q1,_⟩:=back j d' hd';exact h1 j d0 q1
  ·obtain⟨d0,q1,rfl⟩:=back j d' hd';exact ih j d0 q1 (fun m hmm=>hm m (by simp only[lensV];exact kQ q1 m hmm))
 |agg cs vs hl _ ih=>intro hm;obtain⟨q1,q2⟩:=many hl (by simpa[lensV]using hm) ih;exact .agg _ vs q1 q2
 |tup cs vs hl _ ih=>intro hm;obtain⟨q1,q2⟩:=many hl (by simpa[lensV]using hm) ih;exact .tup _ vs q1 q2
 |fn f cs vs hl _ ih=>intro hm;obtain⟨q1,q2⟩:=many hl (by simpa[lensV]using hm) ih;exact .fn f _ vs q1 q2
 |iface t a v _ ih=>intro hm;exact .iface t _ v (ih (by simpa[lensV]using hm))
 |undef v=>exact fun _=>.undef v
 |int k n h1 h2=>exact fun _=>.int k n h1 h2
 |bool b=>exact fun _=>.bool b
 |str s h=>exact fun _=>.str s h
 |lstNil I o ht=>exact fun _=>.lstNil I o ht
 |lstVoid I a=>exact fun _=>.lstVoid I a
 |lst I xs o b' off' cap vals' h1 h2 h3 h4 h5 _=>exact fun _=>.lst I xs o b' off' cap vals' h1 h2 h3 h4 h5
 |nils=>exact fun _=>.nils
 |nilp=>exact fun _=>.nilp
 |ptr i o b' p len he=>exact fun _=>.ptr i o b' p len he
 |ptNone n=>exact fun _=>.ptNone n
 |ptSome n x v hv _=>exact fun _=>.ptSome n x v hv
 |arr i n w b' len cap a he h1 h2 h3 h4=>exact fun _=>.arr i n w b' len cap a he h1 h2 h3 h4
 |aptr i n w o b' p len he=>exact fun _=>.aptr i n w o b' p len he
 |map i r he=>exact fun _=>.map i r he
 |bptr i b g he=>exact fun _=>.bptr i b g he
 |nilif=>exact fun _=>.nilif
 |nilm=>exact fun _=>.nilm
 |st n x v hv _=>exact fun _=>.st n x v hv
end
theorem gn{n:Nat}:∀{l:List Nat} {q:Prop},mD n l q->(∀m∈l,m=n)/\q
 |[],q,h=>⟨fun _ hm=>absurd hm xJ,h⟩
 |m::r,q,h=>by obtain⟨h1,h2⟩:=h;obtain⟨h3,h4⟩:=gn h2;exact⟨fun i hi=>(wC.1 hi).elim (fun e=>e ▸ h1) (h3 i),h4⟩
theorem pE{F:Fr}{s:St}{a:Act}{E:Om}{k:Nat}{Q:St->Prop}(h:Holds F s.abs a E)(hf:oW k s Q):∃s' E',E'.w=E.w/\Holds F s'.abs a E'/\Q s':=by
 unfold oW at hf;split at hf
 ·rename_i I n x hb;obtain⟨hlens,hq⟩:=gn hf;refine⟨⟨s.t.map fun y=>(y.1,finV k I x y.2),(jF s.b k (.tail I (n+1))).map fun y=>(y.1,qR k I x y.2)⟩,?_⟩;obtain⟨b,cap,e1,e2,e3,e4,⟨vs,ty,fz,e5,e6,e7⟩,e8,e9⟩:=h.slots k _ hb
  let E1:Om:=⟨E.e,E.w,fun b' o=>E.pub b' o∨(b'=b/\n *a8 I<=o/\o<n *a8 I+a8 I)⟩
  have hx1:Ext E E1:=⟨fun i c hc=>⟨c,hc,CLe.refl c⟩,fun _ _ p=>Or.inl p,fun _ _ _=>rfl⟩
  have htold:Told E1 k I n x b cap (fun j=>(E.w.cell? ⟨b,n *a8 I+j,none⟩).getD undef):=by
   refine⟨e1,e2,e3,fun j c hc=>?_⟩;obtain⟨v,k1,k2⟩:=e9 j c hc
   have hj:j<a8 I:=by
    rw[<-aA I x];rcases w4 j (cells I x).length with q|q
    ·exact q
    ·rw[vX q]at hc;cases hc
   refine⟨Or.inr ⟨rfl,by omega,by omega⟩,?_,?_⟩
   ·show E.w.cell? _=_;rw[k1];rfl
   ·simp only[k1,wN];exact k2.ext hx1
  have hcell:∀o,n *a8 I<=o->o<n *a8 I+a8 I->∃v,E.w.cell? ⟨b,o,none⟩=some v:=by
   intro o h1 h2;have hj:o-n *a8 I<(cells I x).length:=by rw[aA];omega
   obtain⟨v,k1,_⟩:=e9 (o-n *a8 I) _ (vV hj);exact⟨v,by rw[show n *a8 I+(o-n *a8 I)=o by omega]at k1;exact k1⟩
  refine⟨E1,rfl,⟨fun i=>?_,h.size,h.defers,fun id o ho=>?_,fun id hid=>?_,h.inj,fun b' o hp=>?_,h.keep,?_⟩,hq⟩
  ·simp only[St.abs];rw[iE (finV k I x) rfl s.t i];refine V.finV htold ((h.tmps i).ext hx1) (fun m hm=>?_);rcases iC s.t i with hu|hm'
   ·rw[hu]at hm;cases hm
   ·exact hlens m (List.mem_append_left _ (xj.2 ⟨_,hm',hm⟩))
  ·simp only[St.abs]at ho;rw[gm (qR k I x) _ id,dN]at ho;by_cases hid:k=id
   ·subst hid;rw[wh rfl]at ho;simp only[wV,Xs,qR]at ho;subst ho;refine⟨some b,cap,e1,e2,e3,by simp,fun b2 hb2=>?_⟩;simp only[Xs]at hb2;subst hb2;refine⟨e4,vs,ty,fz,e5,e6,e7,fun o ho hp=>?_⟩;rw[wD,yb]at ho;rcases hp with hp|⟨_,hp1,hp2⟩
    ·exact e8 o (by omega) hp
    ·omega
   ·rw[w5 hid]at ho;simp only[we]at ho;obtain⟨o0,ho0,rfl⟩:=ho;have hs:=h.slots id o0 ho0;have apart:∀c0,E.e id=some c0->∀b' o,occ c0 b' o->b'≠b:=by intro c0 hc0 b' o hoc hk;subst hk;exact hid (h.inj k id _ c0 b' o e1 hc0 rfl hoc)
    cases o0 with
    |box d=>
     obtain⟨b2,off2,g1,g2⟩:=hs;obtain⟨p1,p2⟩:=kP (k:=k) (I:=I) (x:=x) d;refine⟨b2,off2,by show E.e id=_;rw[g1,p1],fun j d' hd'=>?_⟩
     have hj:j<(a7 d).length:=by
      rw[<-p1];rcases w4 j (a7 (finV k I x d)).length with q|q
      ·exact q
      ·rw[vX q]at hd';cases hd'
     have hd2:=p2 j _ (vV hj);rw[hd']at hd2;obtain⟨m1,m2,m3,v,m4,m5⟩:=g2 j _ (vV hj);refine⟨m1,fun hp=>?_,m3,v,m4,?_⟩
     ·rcases hp with hp|hp
      ·exact m2 hp
      ·exact apart _ g1 b2 (off2+j) ⟨rfl,by omega,by omega⟩ hp.1
     ·rw[wH hd2];refine V.finV htold (m5.ext hx1) (fun m hm=>hlens m (List.mem_append_right _ (xj.2 ⟨(id,.box d),bc _ _ _ ho0,?_⟩)));exact kQ (vV hj) m hm
    |tail M m=>
     obtain⟨base,cap2,g1,g2,g3,g4,g5⟩:=hs;refine⟨base,cap2,g1,g2,g3,g4,fun b2 hb2=>?_⟩;obtain⟨m1,vs',ty',fz',m2,m3,m4,m5⟩:=g5 b2 hb2;refine⟨m1,vs',ty',fz',m2,m3,m4,fun o ho hp=>?_⟩;rcases hp with hp|hp
     ·exact m5 o ho hp
     ·exact apart _ g1 b2 o hb2 hp.1
    |map U M m=>obtain⟨r,g1,g2,es,clock,g3,g4⟩:=hs;exact⟨r,g1,g2,es,clock,g3,g4.ext hx1⟩
    |bld t u l=>
     obtain⟨b2,g,g1,g2,g3⟩:=hs;refine⟨b2,g,g1,fun b3 hb3 o=>⟨(g2 b3 hb3 o).1,fun hp=>?_⟩,g3⟩;rcases hp with hp|hp
     ·exact(g2 b3 hb3 o).2 hp
     ·exact apart _ g1 b3 o hb3 hp.1
    |tailp M m y=>
     obtain⟨b2,cap2,g1,g2,g3,g4,g5,g6,g7⟩:=hs;refine⟨b2,cap2,g1,g2,g3,g4,g5,fun o ho hp=>?_,fun j c hc=>?_⟩
     ·rcases hp with hp|hp
      ·exact g6 o ho hp
      ·exact apart _ g1 b2 o rfl hp.1
     ·obtain⟨v,k1,k2⟩:=g7 j c hc;exact⟨v,k1,k2.ext hx1⟩
  ·simp only[St.abs]at hid;rw[gm (qR k I x) _ id,dN]at hid;by_cases hk:k=id
   ·subst hk;simp at hid
   ·rw[w5 hk]at hid;exact h.dom id (by show ae s.b id=none;simpa using hid)
  ·rcases hp with hp|⟨rfl,hp1,hp2⟩
   ·exact h.pubok b' o hp
   ·exact hcell o hp1 hp2
  ·refine⟨h.frame.os,h.frame.tape,h.frame.output,h.frame.size,h.frame.block,h.frame.cell,h.frame.kind,fun b' o hp=>?_,fun b' o hp=>Or.inl (h.frame.old b' o hp),h.frame.pcell⟩;rcases hp with hp|⟨rfl,hp1,hp2⟩
   ·exact h.frame.pub b' o hp
   ·exact Or.inr (e4 o)
 ·exact⟨s,E,rfl,h,hf⟩
theorem kR{F:Fr}{a:Act}{Q:St->Prop}:∀(l:List Nat) {s:St} {E:Om},Holds F s.abs a E->oX l s Q->∃s' E',E'.w=E.w/\Holds F s'.abs a E'/\Q s'
 |[],s,E,h,hf=>⟨s,E,rfl,h,hf⟩
 |k::r,s,E,h,hf=>by obtain⟨s1,E1,g1,g2,g3⟩:=pE (Q:=fun s=>oX r s Q) h hf;obtain⟨s2,E2,k1,k2,k3⟩:=kR r g2 g3;exact⟨s2,E2,k1.trans g1,k2,k3⟩
theorem kS{F:Fr}{a:Act}{Q:St->Prop}{s:St}{E:Om}(h:Holds F s.abs a E)(hf:v8 s Q):∃s' E',E'.w=E.w/\Holds F s'.abs a E'/\Q s':=kR _ h hf
theorem rC{k:Nat}{s:St}{Q:St->Prop}(hf:oW k s Q):∃s',Q s':=by
 unfold oW at hf;split at hf
 ·exact⟨_,(gn hf).2⟩
 ·exact⟨s,hf⟩
theorem j7{Q:St->Prop}:∀(l:List Nat) {s:St},oX l s Q->∃s',Q s'
 |[],s,hf=>⟨s,hf⟩
 |k::r,s,hf=>by obtain⟨s1,h1⟩:=rC (Q:=fun s=>oX r s Q) hf;exact j7 r h1
end Go.AL
end
noncomputable section
namespace Go.AL
variable [Tabs]
def pF:SX->Exit
 |.normal=>.normal
 |.exit id=>.exit id
 |.ret=>.ret
 |.pan _=>.outgrown
def Ends(E:Om):SX->Exit->Prop
 |.pan pv,e=>∃v,e=.panic [{v,recovered:=false}]/\V E pv v
 |x,e=>pF x=e
def QL(F:Fr)(Q:SX->St->Prop):Exit->Act->World->Prop:=fun e a w=>∃x s E,Ends E x e/\E.w=w/\Holds F s.abs a E/\Q x s
mutual
theorem forceV_eq:∀(a:AV)(k:AV->Prop),forceV a k=k a
 |.undef,k=>rfl
 |.int U n,k=>rfl
 |.bool b,k=>rfl
 |.str s,k=>rfl
 |.lst I xs none,k=>rfl
 |.lst I xs (some i),k=>rfl
 |.nils,k=>rfl
 |.ptr i o,k=>rfl
 |.cptr c,k=>by simp only[forceV];rw[forceV_eq c]
 |.st n x,k=>rfl
 |.nilp,k=>rfl
 |.row I xs,k=>rfl
 |.arr i n w,k=>rfl
 |.aptr i n w o,k=>rfl
 |.map i,k=>rfl
 |.bptr i,k=>rfl
 |.lstp I xs i,k=>rfl
 |.tptr I n i,k=>rfl
 |.iface t a,k=>by simp only[forceV];rw[forceV_eq a]
 |.nilif,k=>rfl
 |.nilm,k=>rfl
 |.pt n x,k=>rfl
 |.agg cs,k=>by simp only[forceV];rw[forceL_eq cs]
 |.tup cs,k=>by simp only[forceV];rw[forceL_eq cs]
 |.fn f cs,k=>by simp only[forceV];rw[forceL_eq cs]
theorem forceL_eq:∀(l:List AV)(k:List AV->Prop),forceL l k=k l
 |[],k=>rfl
 |a::r,k=>by simp only[forceL];rw[forceV_eq a,forceL_eq r]
end
theorem ma:∀(l:List (Nat×AV))(k:List (Nat×AV)->Prop),mF l k=k l
 |[],k=>rfl
 |(i,a)::r,k=>by simp only[mF];rw[forceV_eq a,ma r]
theorem dP:∀(l:List (Nat×SObj))(k:List (Nat×SObj)->Prop),dr l k=k l
 |[],k=>rfl
 |(i,.box c)::r,k=>by simp only[dr];rw[forceV_eq c,dP r]
 |(i,.tail I n)::r,k=>by simp only[dr];rw[dP r]
 |(i,.map U I m)::r,k=>by simp only[dr];rw[dP r]
 |(i,.bld t u l)::r,k=>by simp only[dr];rw[dP r]
 |(i,.tailp I n x)::r,k=>by simp only[dr];rw[dP r]
theorem bG(s:St)(k:St->Prop):dh s k=k s:=by unfold dh;rw[ma,dP]
theorem dZ:∀(l:List Nat)(k:List Nat->Prop),ed l k=k l
 |[],k=>rfl
 |0::r,k=>by simp only[ed];rw[dZ r]
 |(n+1)::r,k=>by simp only[ed];rw[dZ r]
theorem Holds.trim{F:Fr}{s:St}{a:Act}{E:Om}(h:Holds F s.abs a E)(keep:List Nat):Holds F (trim keep s).abs a E:=by
 refine⟨fun i=>?_,h.size,h.defers,h.slots,h.dom,h.inj,h.pubok,h.keep,h.frame⟩;have:=eo s.t (fun i=>keep.contains i) i;simp only[AL.trim,St.abs];rw[this];split
 ·exact h.tmps i
 ·exact .undef _
section
variable {P:Program} {C:Cfg} {F:Fr}
theorem gT(hm:P.follows .mixedOrders=true)(hT:aG P C.tbl)(hS:aX P C.spec)(keep:List Nat){id:Nat}{ops:Array Oper}{draw:Bool}{s1:St}{Q:SX->St->Prop}{a:Act}{E1:Om}
 (hdst:∀(o:Oper),o∈ops.toList->∀d,o.dst=some d->d<F.n)(h:jQ C keep ops draw s1 Q)(hh1:Holds F s1.abs a E1):(Code.region id ops draw).wp P (QL F Q) a E1.w:=by
 unfold jQ at h
 have key:∀s' fs,(dh (trim keep s') fun s'=>if draw=true then(if bZ ops.toList fs=true then Q .normal s' else False)else Q .normal s')->
   (draw=true->bZ ops.toList fs=true)/\Q .normal (trim keep s'):=by
  intro s' fs hk;simp only[bG]at hk
  cases draw with
  |false=>exact⟨fun h=>by simp at h,by simpa using hk⟩
  |true=>
   simp only[wR]at hk;rcases xN (bZ ops.toList fs=true)with k|k
   ·rw[wh k]at hk;exact⟨fun _=>k,hk⟩
   ·rw[w5 k]at hk;exact hk.elim
 refine iB hm hT hS hdst h (fun hdr s' fs hk=>let ⟨s2,h2⟩:=j7 _ hk;(key s2 fs h2).1 hdr) hh1 (fun s' fs a' E' hk h'=>
   let ⟨s2,E2,g1,g2,g3⟩:=kS h' hk
   ⟨.normal,trim keep s2,E2,rfl,g1,g2.trim keep,(key s2 fs g3).2⟩)
  (fun pv s' a' E' v hk h' hv=>?_)
 simp only[bG,forceV_eq]at hk;exact⟨.pan pv,s',E',⟨v,rfl,hv⟩,rfl,h',hk⟩
theorem pG(hT:aG P C.tbl){keep:List Nat}{id:Nat}{ops:Array Oper}{draw:Bool}{s:St}{p:Prop}{f:Bool->St}{a:Act}{E:Om}(hn:vc C keep ops draw s=some (p,f))
 (hdst:∀(o:Oper),o∈ops.toList->∀d,o.dst=some d->d<F.n)(hh:Holds F s.abs a E):(Code.region id ops draw).wp P (QL F fun x t=>x=.normal/\∃b,(b=true->p)/\t=f b) a E.w:=by
 unfold vc at hn;split at hn
 ·rename_i m src ty1 ps1 af1 c t m' t2 ty2 ps2 af2 hops;split at hn
  ·rename_i e sz by' z ty I xs o hc ht hsrc
   cases hn;simp only[vW,wc]at hc;obtain⟨hm,hcm⟩:=hc;obtain rfl:=wm hm;have hne:¬m'=c:=fun e=>by rw[e,Nat.beq_refl]at hcm;cases hcm
   have d1:m'<F.n:=hdst _ (by rw[hops];exact wK ..) m' rfl;have d2:c<F.n:=hdst _ (by rw[hops];exact wa _ (wK ..)) c rfl;obtain⟨dd,u1,u2⟩:=an hT ht rfl;cases dd<;>simp[ar]at u2;have hv:=aK hh src;rw[show opd s.abs.T src=.lst I xs o from hsrc]at hv;have hv2:V E (.lst I xs none) (a.eval src):=hv.le (G:=[]) (fun k hk=>by cases hk) (aY (by simp[LeF,dc]))
   obtain⟨q,n,cp,hev,hq⟩:∃q n cp,a.eval src=.slice q n cp/\(q.isNone=true->xs=[]):=by
    generalize a.eval src=sv at hv2
    cases hv2 with|lstNil _ _ _=>exact⟨_,_,_,rfl,fun _=>rfl⟩|lstVoid _ _=>exact⟨_,_,_,rfl,fun _=>rfl⟩|lst _ _ _ b off cap vals h1 h2 tok hc hv=>exact⟨_,_,_,rfl,fun q=>by cases q⟩
   have hsz:=hh.size;have eqs:ops=#[⟨some m',.move src,ty1,ps1,af1,none⟩,⟨some c,.binOp .eql t (.tmp m') (.const (.slice none 0 0)) t2,ty2,ps2,af2,none⟩]:=by cases ops;simp at hops;rw[hops]
   subst eqs;rw[hev]at hv2;have hp1:=hh.pure (dst:=some m') (val:=.lst I xs none) (v:=.slice q n cp) hv2 (fun d e=>by cases e;exact d1);have hp2:=hp1.pure (dst:=some c) (val:=.bool q.isNone) (v:=.bool q.isNone) (.bool _) (fun d e=>by cases e;exact d2);refine yp ?_;show wpOps P _ _ [0,1] a E.w;refine bd (o:=⟨some m',.move src,ty1,ps1,af1,none⟩) rfl rfl (ai (v:=.slice q n cp) (w':=E.w) (by simp[execOp,hev]) ?_);have hm1:(a.put (some m') (.slice q n cp)).eval (.tmp m')=.slice q n cp:=by show(a.put (some m') (.slice q n cp)).tmps.getD m' undef=_;rw[b8 hsz d1,wh rfl]
   have hq2:(Op.equal t (.slice q n cp) (.slice none 0 0)).run P E.w=.ok q.isNone E.w:=by unfold Op.equal Op.maxDepth Op.equalIn;simp only[w7,aj u1,vY];cases q<;>rfl
   have hg:(eqGuard .eql t (.tmp m') (.const (.slice none 0 0)) (.slice q n cp) (.slice none 0 0)).run P E.w=.ok () E.w:=rfl
   refine bd (o:=⟨some c,.binOp .eql t (.tmp m') (.const (.slice none 0 0)) t2,ty2,ps2,af2,none⟩) rfl rfl (ai (v:=.bool q.isNone) (w':=E.w) (by
    have hk:(a.put (some m') (.slice q n cp)).eval (.const (.slice none 0 0))=.slice none 0 0:=rfl;simp[execOp,hm1,hev,hk,hg,binOp,hq2]) ?_)
   refine⟨.normal,_,E,rfl,rfl,?_,rfl,q.isNone,hq,rfl⟩;refine Holds.trim (s:=⟨fb (fb s.t m' (.lst I xs none)) c (.bool q.isNone),s.b⟩) ?_ keep;have eT:(St.abs ⟨fb (fb s.t m' (.lst I xs none)) c (.bool q.isNone),s.b⟩)=⟨aZ (aZ s.abs.T (some m') (.lst I xs none)) (some c) (.bool q.isNone),s.abs.B⟩:=by show AS.mk _ _=AS.mk _ _;congr 1;funext k;show aE (fb (fb s.t m' (.lst I xs none)) c (.bool q.isNone)) k=_;rw[cU,cU];rfl
   rw[eT];exact hp2
  ·cases hn
 ·cases hn
theorem gH(hm:P.follows .mixedOrders=true)(hT:aG P C.tbl)(hS:aX P C.spec)(keep:List Nat)(ann:An) :
  ∀(c:Code)(s:St)(Q:SX->St->Prop)(a:Act)(E:Om),swp C keep ann c s Q->aR F.n c=true->Holds F s.abs a E->c.wp P (QL F Q) a E.w:=by
 intro c
 induction c with
 |skip=>exact fun s Q a E h _ hh=>wp_skip ⟨.normal,s,E,rfl,rfl,hh,h⟩
 |region id ops draw=>
  intro s Q a E h hd hh;simp only[swp]at h;have hdst:∀(o:Oper),o∈ops.toList->∀d,o.dst=some d->d<F.n:=by intro o ho d hod;simp only[aR,wk]at hd;have:=hd o ho;rw[hod]at this;simpa using this
  split at h
  ·rename_i p f hn;refine xG (pG hT hn hdst hh) ?_;rintro e a' w' ⟨z,s',E',h1,h2,h3,h4,b,h5,h6⟩;subst h2 h4 h6;have:=h b h5;rw[bG]at this;exact⟨.normal,f b,E',h1,rfl,h3,this⟩
  split at h
  ·exact h.elim
  ·rename_i s0 hp0;obtain⟨E0,e0,hh0⟩:=fC _ hh hp0;split at h
   ·exact h.elim
   ·rename_i s1 he;obtain⟨E1,e1,hh1⟩:=gj hh0 he;rw[<-e0,<-e1];split at h
    ·exact gT hm hT hS keep hdst h hh1
    ·rename_i J hJ;obtain⟨h1,h2⟩:=h;rw[bG]at h2;refine xG (gT hm hT hS keep hdst h1 hh1) ?_;intro e a' w' hq;obtain⟨z,s',E',g1,g2,g3,g4⟩:=hq;subst g2
     cases z with
     |normal=>cases g1;obtain⟨E2,e2,hh2⟩:=bK g3 (dC g4);exact⟨.normal,_,E2,rfl,e2,hh2,h2⟩
     |exit id=>exact⟨.exit id,s',E',g1,rfl,g3,g4⟩
     |ret=>exact⟨.ret,s',E',g1,rfl,g3,g4⟩
     |pan pv=>exact⟨.pan pv,s',E',g1,rfl,g3,g4⟩
 |seq x y ihx ihy=>
  intro s Q a E h hd hh;have hd0:=hd;simp only[aR,vW]at hd;simp only[swp]at h;split at h
  ·rename_i L hL;refine xG (pC hT hL h hd0 hh) ?_;rintro e a' w' ⟨rfl,s',E',h2,h3,h4⟩;rw[bG]at h4;exact⟨.normal,s',E',rfl,h2,h3,h4⟩
  split at h;rotate_left
  ·rename_i J hJ;obtain⟨h1,h2⟩:=h;rw[bG]at h2;refine yQ (xG (ihx s _ a E h1 hd.1 hh) ?_);intro e a' w' hq;obtain⟨z,s',E',g1,g2,g3,g4⟩:=hq;subst g2
   cases z with
   |normal=>cases g1;obtain⟨E2,e2,hh2⟩:=bK g3 (dC g4);rw[<-e2];exact ihy _ Q a' E2 h2 hd.2 hh2
   |exit id=>cases g1;exact⟨.exit id,s',E',rfl,rfl,g3,g4⟩
   |ret=>cases g1;exact⟨.ret,s',E',rfl,rfl,g3,g4⟩
   |pan pv=>obtain⟨v,rfl,hv⟩:=g1;exact⟨.pan pv,s',E',⟨v,rfl,hv⟩,rfl,g3,g4⟩
  refine yQ (xG (ihx s _ a E h hd.1 hh) ?_);intro e a' w' hq;obtain⟨z,s',E',h1,h2,h3,h4⟩:=hq;subst h2
  cases z with
  |normal=>cases h1;exact ihy s' Q a' E' h4 hd.2 h3
  |exit id=>cases h1;exact⟨.exit id,s',E',rfl,rfl,h3,h4⟩
  |ret=>cases h1;exact⟨.ret,s',E',rfl,rfl,h3,h4⟩
  |pan pv=>obtain⟨v,rfl,hv⟩:=h1;exact⟨.pan pv,s',E',⟨v,rfl,hv⟩,rfl,h3,h4⟩
 |cond c x y ihx ihy=>
  intro s Q a E h hd hh;simp only[aR,vW]at hd;simp only[swp]at h;split at h
  ·rename_i b hb;have hv:=aK hh c;have hb':opd s.abs.T c=.bool b:=hb;rw[hb']at hv;have hv:=hv.bool_inv;refine wp_cond hv ?_;unfold sp at h
   have hset:Holds F (tV c b s).abs a E:=by
    cases c with
    |tmp t=>
     refine⟨fun i=>?_,hh.size,hh.defers,hh.slots,hh.dom,hh.inj,hh.pubok,hh.keep,hh.frame⟩;have e:(tV (.tmp t) b s).abs.T i=if t=i then .bool b else aE s.t i:=cU s.t t (.bool b) i
     rw[e];by_cases ht:t=i
     ·subst ht;rw[wh rfl];have:=hh.tmps t;rw[show s.abs.T t=.bool b from hb']at this;exact this
     ·rw[w5 ht];exact hh.tmps i
    |_=>exact hh
   cases b with|true=>exact ihx _ Q a E (by simpa using h) hd.1 hset|false=>exact ihy _ Q a E (by simpa using h) hd.2 hset
  ·exact h.elim
 |block id c ih=>
  intro s Q a E h hd hh;simp only[aR]at hd;simp only[swp]at h;refine wp_block (xG (ih s _ a E h hd hh) ?_);intro e a' w' hq;obtain⟨z,s',E',h1,h2,h3,h4⟩:=hq;subst h2
  cases z with
  |normal=>cases h1;exact⟨.normal,s',E',rfl,rfl,h3,h4⟩
  |ret=>cases h1;exact⟨.ret,s',E',rfl,rfl,h3,h4⟩
  |pan pv=>obtain⟨v,rfl,hv⟩:=h1;exact⟨.pan pv,s',E',⟨v,rfl,hv⟩,rfl,h3,h4⟩
  |exit j=>
   cases h1;simp only[pF,Exit.inBlock];by_cases hj:j=id
   ·subst hj;simp only[wR];simp only[xZ,wR]at h4;exact⟨.normal,s',E',rfl,rfl,h3,h4⟩
   ·rw[w5 hj];simp only[wG,hj,wA]at h4;exact⟨.exit j,s',E',rfl,rfl,h3,h4⟩
 |loop c ih=>
  intro s Q a E h hd hh;simp only[aR]at hd;simp only[swp]at h;split at h
  ·exact h.elim
  ·rename_i A hA;simp only[bG]at h;obtain⟨⟨x0,hp0,hle0⟩,hround⟩:=h;obtain⟨E0,e0,hh0⟩:=bK hh (dC hle0);rw[<-e0];refine wp_loop_ghost (fun k a w=>∃x E,A.pre x/\A.m x=k/\E.w=w/\Holds F (fk (bq c) s (A.t x) (A.b x)).abs a E) (A.m x0) ⟨x0,E0,hp0,rfl,rfl,hh0⟩ ?_;intro k a1 w1 hI;obtain⟨x,E1,hp,hmx,hw1,hh1⟩:=hI;subst hw1;refine xG (ih (fk (bq c) s (A.t x) (A.b x)) _ a1 E1 (hround x hp) hd hh1) ?_;intro e a' w' hq;obtain⟨z,s',E',h1,h2,h3,h4⟩:=hq;subst h2
   cases z with
   |normal=>cases h1;obtain⟨y,hy1,hy2,hy3⟩:=h4;obtain⟨E2,e2,hh2⟩:=bK h3 (dC hy3);exact⟨A.m y,by omega,y,E2,hy1,rfl,e2,hh2⟩
   |exit id=>cases h1;exact⟨.exit id,s',E',rfl,rfl,h3,h4⟩
   |ret=>cases h1;exact⟨.ret,s',E',rfl,rfl,h3,h4⟩
   |pan pv=>obtain⟨v,rfl,hv⟩:=h1;exact⟨.pan pv,s',E',⟨v,rfl,hv⟩,rfl,h3,h4⟩
 |exit id=>exact fun s Q a E h _ hh=>wp_exit ⟨.exit id,s,E,rfl,rfl,hh,h⟩
 |ret=>exact fun s Q a E h _ hh=>wp_ret ⟨.ret,s,E,rfl,rfl,hh,h⟩
 |rangeFunc g ps x y _ _=>exact fun s Q a E h=>by simp[swp]at h
 |scope c ih=>
  intro s Q a E h hd hh;simp only[aR]at hd;simp only[swp]at h;refine wp_scope_straight (xG (ih s _ a E h hd hh) ?_);intro e a' w' hq;obtain⟨z,s',E',h1,h2,h3,h4⟩:=hq
  cases z with
  |normal=>cases h1;exact⟨.normal,s',E',rfl,h2,h3,h4⟩
  |exit id=>cases h1;exact⟨.exit id,s',E',rfl,h2,h3,h4⟩
  |ret=>cases h1;exact⟨.ret,s',E',rfl,h2,h3,h4⟩
  |pan pv=>obtain⟨v,rfl,hv⟩:=h1;exact⟨.pan pv,s',E',⟨v,rfl,hv⟩,h2,h3,h4⟩
 |label l=>exact fun s Q a E h _ hh=>wp_label ⟨.normal,s,E,rfl,rfl,hh,h⟩
 |goto l=>exact fun s Q a E h=>by simp[swp]at h
 |refuse why=>exact fun s Q a E h=>by simp[swp]at h
theorem cX:∀(l:List AV)(i j:Nat),aE (bk i l) j=if i<=j then l.getD (j-i) .undef else .undef
 |[],i,j=>by simp[bk,bD,bl]
 |v::r,i,j=>by
  simp only[bk,bD,bl,cX r (i+1) j];by_cases h:i=j
  ·subst h;simp
  ·simp only[wG,h,wA];by_cases h2:i<=j
   ·have e:j-i=(j-(i+1))+1:=by omega
    rw[wh h2,wh (by omega),e];simp
   ·rw[w5 h2,w5 (by omega)]
theorem eV{w:World}{pub:Nat->Nat->Prop}{e:Nat->Option CObj}{args:List AV}{vs:List Value}(k:Nat)(hv:VL ⟨e,w,pub⟩ args vs)(i:Nat) :
  V ⟨e,w,pub⟩ (aE (bk 0 args) i) ((vs.toArray++Array.replicate k undef).getD i undef):=by
 simp only[cX,wP,wR,xY];by_cases h:i<args.length
 ·have h':i<vs.length:=by rw[<-hv.1];exact h
  have e1:args.getD i .undef=args[i]:=by simp[vZ,h]
  have e2:(vs.toArray++Array.replicate k undef).getD i undef=vs[i]:=by simp[w9,Array.getElem?_append,h']
  rw[e1,e2];exact hv.2 i _ _ (vV h) (vV h')
 ·have e1:args.getD i .undef=.undef:=by simp[vZ,h]
  rw[e1];exact .undef _
theorem fE{w:World}{pub:Nat->Nat->Prop}{e:Nat->Option CObj}{args:List AV}{vs:List Value}{n:Nat}{S:List (Nat×SObj)}(hp:fL w pub)(ht:dU w pub e)(hv:VL ⟨e,w,pub⟩ args vs)(hn:args.length<=n)
 (hs:∀id o,ae S id=some o->aL ⟨e,w,pub⟩ (fun _ _=>True) id o)(hd:∀id,ae S id=none->e id=none)(hi:Inj e)(hl:∀id c,e id=some c->aP id=true) :
  Holds ⟨w,pub,n,e,hl,[],ht⟩ (St.abs ⟨bk 0 args,S⟩) {tmps:=vs.toArray++Array.replicate (n-vs.toArray.size) undef,defers:=[]} ⟨e,w,pub⟩:=
 ⟨fun i=>eV _ hv i,by simp;have:=hv.1;omega,rfl,fun id o ho=>(hs id o ho).own_of (fun c b oo hc hoc=>Or.inr ⟨id,c,hc,hoc⟩),fun id hid=>hd id hid,hi,hp,fun id c hc=>⟨c,hc,CLe.refl c⟩,
  ⟨rfl,rfl,rfl,wj _,fun _ _ _=>rfl,fun _ _ _ _=>rfl,fun _ _ _=>⟨rfl,fun _=>rfl⟩,fun _ _ h=>Or.inl h,fun _ _ h=>h,fun _ _ _=>rfl⟩⟩
def j8(tmps:Array Value):ResultVar->Sem Value
 |.tmp t=>pure (tmps.getD t undef)
 |.cell a t=>do loadVar t (<-asAddr (tmps.getD a undef))
theorem ib(fn:Func)(tmps:Array Value):results fn tmps=(do
  let vs <-fn.results.mapM (j8 tmps)
  pure (if h:vs.size=1 then vs[0]else .tuple vs)):=by
 unfold results;congr 1
theorem cz(hT:aG P C.tbl){s:St}{a:Act}{E:Om}(hh:Holds F s.abs a E):∀(rs:List ResultVar)(l:List AV),fK C.tbl s rs=some l->
  ∃vs,(rs.mapM (j8 a.tmps)).run P E.w=.ok vs E.w/\VL E l vs
 |[],l,h=>by simp[fK]at h;subst h;exact⟨[],rfl,VL.nil⟩
 |.tmp t::rs,l,h=>by
  simp only[fK]at h;split at h
  ·rename_i l' hl';simp at h;subst h;obtain⟨vs,k1,k2⟩:=cz hT hh rs l' hl';exact⟨_,by rw[List.mapM_cons];simp only[j8,w7,wy,vY,k1],VL.cons (hh.tmps t) k2⟩
  ·cases h
 |.cell b t::rs,l,h=>by
  simp only[fK]at h;split at h
  ·rename_i id off rt hb hrt;have hv:=hh.tmps b;have e:s.abs.T b=.ptr id off:=hb;rw[e]at hv;obtain⟨g,o',len,hv1,hv2⟩:=hv.ptr_inv;split at h
   ·rename_i c hcs;split at h
    ·rename_i x l' hx hl';simp at h;subst h;obtain⟨vs,k1,k2⟩:=cz hT hh rs l' hl';obtain⟨b',off',e1,e2⟩:=hh.slots id _ hcs;rw[hv2]at e1;simp only[Xs,CObj.box.injEq]at e1;obtain⟨rfl,rfl,rfl⟩:=e1;obtain⟨v,w1,w2⟩:=eh (P:=P) (C:=C) (w:=E.w) hT hrt hx (b:=g) (o':=o') (fun j c' hc=>(e2 j c' hc).2.2.2);exact⟨v::vs,by rw[List.mapM_cons];simp only[j8,w7,hv1,asAddr,wy,vY,w1,k1],VL.cons w2 k2⟩
    ·cases h
   ·cases h
  ·cases h
theorem Holds.retmp{s:AS}{a:Act}{E:Om}(h:Holds F s a E){l:List AV}{vs:List Value}(hv:VL E l vs) :
  Holds ⟨F.w0,F.pub0,vs.length,F.e0,F.dom0,[],F.tab0⟩ ⟨aE (bk 0 l),s.B⟩ {tmps:=vs.toArray++Array.replicate 0 undef,defers:=[]} E:=
 ⟨fun i=>eV 0 hv i,by simp,rfl,h.slots,h.dom,h.inj,h.pubok,h.keep,
  ⟨h.frame.os,h.frame.tape,h.frame.output,h.frame.size,h.frame.block,h.frame.cell,h.frame.kind,h.frame.pub,h.frame.old,h.frame.pcell⟩⟩
theorem ea{w:World}{pub:Nat->Nat->Prop}{e:Nat->Option CObj}{n:Nat}{hl:∀id c,e id=some c->aP id=true}{ht:dU w pub e}{T:Nat->AV}{B:List (Nat×SObj)}{a:Act}{E:Om}
 (h:Holds ⟨w,pub,n,e,hl,[],ht⟩ ⟨T,ae B⟩ a E):After w pub e (ae B) E.w E.pub E.e:=by
 refine⟨h.frame.os,h.frame.tape,h.frame.output,h.frame.size,h.frame.block,h.frame.cell,h.frame.kind,⟨h.keep,h.frame.old,h.frame.pcell⟩,fun b o hp=>?_,h.pubok,h.slots,h.dom,h.inj⟩;rcases h.frame.pub b o hp with q|q|q
 ·exact Or.inl q
 ·exact Or.inr (Or.inl q)
 ·exact Or.inr (Or.inr q)
theorem eX{Y:Type}{l:List Y}(h:l.length=1):∃x,l=[x]:=by
 match l,h with
 |[x],_=>exact⟨x,rfl⟩
theorem rD(hm:P.follows .mixedOrders=true)(hT:aG P C.tbl)(hS:aX P C.spec){ann:An}{f:Nat}{fn:Func}(hf:P.funcs[f]?=some fn)
 {args:List AV}{S:List (Nat×SObj)}{A:Ans}(h:fwp C ann fn args S A):aO P f args S A:=by
 intro w pub e vs hp ht hv hs hdom hinj;unfold fwp at h;split at h
 ·exact h.elim
 ·rename_i c hb;split at h
  ·exact h.elim
  ·rename_i hck;simp only[vW,wk]at hck;obtain⟨⟨hck1,hck2⟩,hck3⟩:=hck;have hlen:=bR _ _ hck2;rw[dZ,bG]at h
   have hlent:∀id c,e id=some c->aP id=true:=by
    intro id c hc
    cases hg:ae S id with
    |none=>rw[hdom id hg]at hc;cases hc
    |some o=>exact hck3 id (wz.2 ⟨(id,o),bc _ _ _ hg,rfl⟩)
   refine calls_of_wp hf hb ?_;have hh:=fE (n:=fn.ntmps) hp ht hv hlen hs hdom hinj hlent;refine xG (gH (F:=⟨w,pub,fn.ntmps,e,hlent,[],ht⟩) hm hT hS _ ann c _ _ _ _ h hck1 hh) ?_;intro en a' w' hq;obtain⟨z,s',E',h1,h2,h3,h4⟩:=hq;subst h2
   have hmap:∀us,(fn.results.toList.mapM (j8 a'.tmps)).run P E'.w=.ok us E'.w->
     (results fn a'.tmps).run P E'.w=.ok (if h:us.toArray.size=1 then us.toArray[0]else .tuple us.toArray) E'.w:=by
    intro us hus;rw[ib,<-xi (xs:=fn.results),yh];simp only[w7,Sem.run_map,hus,vY,wy]
   have key:((match A.pan with|some (b,_,_)=>b=false|none=>True)/\lQ (fK C.tbl s' fn.results.toList) s' A.val (b5 S A.upd))->
     a'.defers=[]/\∃v,(results fn a'.tmps).run P E'.w=.ok v E'.w/\∃pub' e',(∀b pv u,A.pan=some (b,pv,u)->b=false)/\V ⟨e',E'.w,pub'⟩ A.val v/\After w pub e (ae (b5 S A.upd)) E'.w pub' e':=by
    rintro⟨hpan,hend⟩;refine⟨h3.defers,?_⟩;have hpan':∀b pv u,A.pan=some (b,pv,u)->b=false:=by intro b pv u hpa;rw[hpa]at hpan;exact hpan
    unfold lQ at hend;split at hend
    ·rename_i x hres;obtain⟨us,k1,k2⟩:=cz hT h3 _ _ hres;obtain⟨u,rfl⟩:=eX (by rw[<-k2.1];rfl);obtain⟨E2,e2,hh2⟩:=bK (s:=⟨[(0,x)],s'.b⟩) (h3.retmp k2) (dC hend);refine⟨u,by simpa using hmap [u] k1,E2.pub,E2.e,hpan',?_,?_⟩
     ·have:=hh2.tmps 0;rw[<-e2];exact this
     ·rw[<-e2];exact ea hh2
    ·rename_i l hne hres;split at hend
     ·rename_i rs hval;split at hend
      ·rename_i hln;have hl2:=aV _ _ hln;obtain⟨us,k1,k2⟩:=cz hT h3 _ _ hres;obtain⟨E2,e2,hh2⟩:=bK (s:=⟨bk 0 l,s'.b⟩) (h3.retmp k2) (dC hend);have hsz:¬us.toArray.size=1:=by intro h1;obtain⟨x,hx⟩:=eX (l:=l) (by rw[k2.1];simpa using h1);exact hne x hx
       refine⟨.tuple us.toArray,?_,E2.pub,E2.e,hpan',?_,?_⟩
       ·rw[hmap us k1,dif_neg hsz]
       ·rw[hval];refine .tup rs us (by rw[<-k2.1,<-hl2]) (fun j c v hc hv=>?_);have:=hh2.tmps j;simp only[St.abs,cX,wP,wR,xY,vZ,hc,wN]at this;have e3:(us.toArray++Array.replicate 0 undef).getD j undef=v:=by simp[w9,hv]
        rw[e3,]at this;rw[<-e2];exact this
       ·rw[<-e2];exact ea hh2
      ·exact hend.elim
     ·exact hend.elim
    ·exact hend.elim
   cases z with
   |normal=>cases h1;exact key h4
   |exit id=>exact h4.elim
   |ret=>cases h1;exact key h4
   |pan pv=>
    obtain⟨v,rfl,hv⟩:=h1;simp only at h4;split at h4
    ·rename_i b pv' pu hpa;obtain⟨hbt,hend⟩:=h4;subst hbt;obtain⟨E2,e2,hh2⟩:=bK (s:=⟨[(0,pv)],s'.b⟩) (h3.retmp (VL.cons hv .nil)) (dC hend);refine⟨h3.defers,E2.pub,E2.e,pv',pu,v,hpa,rfl,?_,?_⟩
     ·have:=hh2.tmps 0;rw[<-e2];exact this
     ·rw[<-e2];exact ea hh2
    ·exact h4.elim
end
end Go.AL
end
noncomputable section
namespace Go.AL
variable [Tabs]
theorem TRok.mk'{P:Program}{t:Nat}{r:TR}
 (h1:(P.info? t).map (fun i=>(i.size,i.bytes,i.zero.map fun z=>z.cells.toList.map aW))=some (r.size,r.bytes,some r.zero))
 (h2:(P.underlying t).map (ar P r.ti)=some true)
 (h3:(cA r.zero r.size&&(Nat.beq r.size 0||Nat.blt 0 r.bytes)&&(match r.ty with | some I=>Nat.beq (a8 I) r.size&&(tP I ==r.isAgg) | none=>true))=true)
 (h8:(P.info? t).map (fun i=>i.zero.map fun z=>oZ z ==r.isAgg)=some (some true))
 (h9:(match r.ti with|.strct true _=>!P.stoodInHeld t&&!P.eqGuardType P.depth t|_=>true)=true):TRok P t r:=by
 simp only[vW,xa,Nat.beq_eq,yo]at h3;obtain⟨⟨h5,h6⟩,h7⟩:=h3;refine⟨?_,aV _ _ h5,fun hz=>?_,?_,fun I hτ=>?_,fun i z hi hz=>?_,fun fs hfs=>?_⟩
 ·cases hi:P.info? t with
  |none=>rw[hi]at h1;simp at h1
  |some i=>rw[hi]at h1;simp only[wV,Xs,yq,we]at h1;obtain⟨e1,e2,z,e3,e4⟩:=h1;exact⟨i,z,rfl,e1,e2,e3,e4⟩
 ·rcases h6 with h6|h6
  ·omega
  ·exact h6
 ·cases hd:P.underlying t with|none=>rw[hd]at h2;simp at h2|some d=>rw[hd]at h2;exact⟨d,rfl,by simpa using h2⟩
 ·rw[hτ]at h7;simpa using h7
 ·rw[hi]at h8;simp[hz]at h8;exact h8
 ·rw[hfs]at h9;simpa using h9
theorem aG.nil{P:Program}:aG P []:=fun t r h=>by simp[lN,ka]at h
theorem aG.cons{P:Program}{t:Nat}{r:TR}{l:List (Nat×TR)}(h:TRok P t r)(hl:aG P l):aG P ((t,r)::l):=by
 intro t' r' h';simp only[lN,ka]at h';by_cases e:t=t'
 ·subst e;simp at h';subst h';exact h
 ·simp only[wG,e,wA]at h';exact hl t' r' h'
theorem aM.mk'{P:Program}{f:Nat}{fn:Func}(h:P.funcs[f]?=some fn)(h2:(fn.body.isNone || (fn.name == "runtime.NumGoroutine"))=false):aM P f:=by simp only [yx] at h2;exact ⟨fn,h,h2.1,h2.2⟩
end Go.AL
end
noncomputable section
namespace Go.AL
def Wf(I:Ty)(x:den I):Prop:=∃E v,V E (inj I x) v
def WfL(args:List AV):Prop:=∃E vs,VL E args vs
theorem Wf.str{s:Str}(h:Wf .str s):s.length<=9223372036854775807:=letI:=oY;let ⟨_,_,h⟩:=h;h.str_inv.2
theorem Wf.len{I:Ty}{xs:List (den I)}(h:Wf (.lst I) xs):xs.length<=9223372036854775807:=by
 letI:=oY
 obtain⟨E,v,h⟩:=h;rcases h.lst_inv with⟨h1,_,_⟩|⟨h1,_,_⟩|⟨b,off,cap,vals,hv,h1,h2,_⟩
 ·rw[h1];simp
 ·rw[h1];simp
 ·unfold aS at h2;omega
theorem VL.inj{E:Om}{I:Ty}{x:den I}{vs:List Value}(h:VL E (cells I x) vs):∃v,V E (inj I x) v:=by
 cases I with
 |st n=>exact⟨_,.st n x _ (V.of_agg h)⟩
 |int k=>match vs,h with|[v],h=>exact⟨v,h.head⟩
 |bool=>match vs,h with|[v],h=>exact⟨v,h.head⟩
 |str=>match vs,h with|[v],h=>exact⟨v,h.head⟩
 |lst t=>match vs,h with|[v],h=>exact⟨v,h.head⟩
 |pt n=>match vs,h with|[v],h=>exact⟨v,h.head⟩
theorem Wf.mem{I:Ty}{xs:List (den I)}(h:Wf (.lst I) xs){x:den I}(hx:x∈xs):Wf I x:=by
 letI:=oY
 obtain⟨E,v,h⟩:=h;rcases h.lst_inv with⟨h1,_,_⟩|⟨h1,_,_⟩|⟨b,off,cap,vals,hv,h1,h2,h3,h4,h5⟩
 ·rw[h1]at hx;simp at hx
 ·rw[h1]at hx;simp at hx
 ·obtain⟨i,hi⟩:=xo hx
  have:VL E (cells I x) ((List.range (cells I x).length).map (vals i)):=by
   refine⟨by simp,fun j c v hc hv=>?_⟩
   have hj:j<(cells I x).length:=by
    rcases w4 j (cells I x).length with k|k
    ·exact k
    ·rw[vX k]at hc;cases hc
   simp[hj]at hv;subst hv;exact h5 i x hi j c hc
  obtain⟨v',hv'⟩:=this.inj;exact⟨E,v',hv'⟩
theorem Wf.cell{n:SN}{x:SD n}(h:Wf (.st n) x)(j:Nat){I:Ty}{y:den I}(hc:(cells (.st n) x)[j]?=some (AL.inj I y)):Wf I y:=by
 obtain⟨E,v,h⟩:=h
 cases h with
 |st _ _ v hv=>
  obtain⟨vs,_,hl⟩:=hv.agg_inv
  have hj:j<vs.length:=by
   rw[<-hl.1];rcases w4 j (cells (.st n) x).length with k|k
   ·exact k
   ·rw[vX k]at hc;cases hc
  exact⟨E,_,hl.2 j _ _ hc (vV hj)⟩
theorem Wf.names{s:Shape}(h:Wf (.st .shape) s):Wf (.lst .str) s.names:=h.cell 3 (I:=.lst .str) (y:=s.names) rfl
theorem Wf.parts{s:Shape}(h:Wf (.st .shape) s):Wf (.lst (.st .shape)) s.parts:=h.cell 4 (I:=.lst (.st .shape)) (y:=s.parts) rfl
theorem WfL.cons{a:AV}{l:List AV}(h:WfL (a::l)):(∃E v,V E a v)/\WfL l:=by
 obtain⟨E,vs,h⟩:=h;rcases h.cases with⟨e,_⟩|⟨c,cs,v,vs',e,_,h1,h2⟩
 ·cases e
 ·cases e;exact⟨⟨E,v,h1⟩,E,vs',h2⟩
theorem WfL.one{I:Ty}{x:den I}{l:List AV}(h:WfL (inj I x::l)):Wf I x:=h.cons.1
theorem WfL.two{a:AV}{I:Ty}{x:den I}{l:List AV}(h:WfL (a::inj I x::l)):Wf I x:=h.cons.2.cons.1
section
variable [Tabs]
variable {P:Program}
theorem aO.wf{f:Nat}{args:List AV}{S:List (Nat×SObj)}{A:Ans}(h:WfL args->aO P f args S A):aO P f args S A:=
 fun w pub e vs hp ht hv hs hd hi=>h ⟨_,vs,hv⟩ w pub e vs hp ht hv hs hd hi
theorem aO.args{f:Nat}{args args':List AV}{S:List (Nat×SObj)}{A:Ans}(ha:RdL args args')(h:aO P f args' S A):aO P f args S A:=
 fun w pub e vs hp ht hv hs hd hi=>h w pub e vs hp ht (hv.rd ha) hs hd hi
abbrev Pat:=List AV->List (Nat×SObj)->Option Ans
def er:List (Nat×Pat)->Nat->Pat
 |[],_=>fun _ _=>none
 |(i,g)::l,f=>fun args S=>
  match Nat.beq i f with
  |true=>(match g args S with|some A=>some A|none=>er l f args S)
  |false=>er l f args S
def aD(P:Program)(f:Nat)(g:Pat):Prop:=
 ∀args S A,g args S=some A->(∀q,A.ob=some q->q)->(ao S).all aP=true->aM P f/\aO P f args S A
theorem mb:aX P (er []):=fun f args S A h=>by simp[er]at h
theorem kT{f:Nat}{g:Pat}{l:List (Nat×Pat)}(h:aD P f g)(hl:aX P (er l)):aX P (er ((f,g)::l)):=by
 intro f' args S A hA ho hk;simp only[er]at hA;split at hA
 ·rename_i hb;have e:f=f':=wm hb;subst e;split at hA
  ·rename_i A' hg;simp at hA;subst hA;exact h args S A' hg ho hk
  ·exact hl f args S A hA ho hk
 ·exact hl f' args S A hA ho hk
def p1(I:Ty)(F:den I->Ans):Pat
 |[a],[]=>(match arg I a with|some a=>some (F a)|none=>none)
 |_,_=>none
def p2(I M:Ty)(F:den I->den M->Ans):Pat
 |[a,b],[]=>(match arg I a,arg M b with|some a,some b=>some (F a b)|_,_=>none)
 |_,_=>none
theorem Rd.arg{I:Ty}{a:AV}{x:den I}(h:AL.arg I a=some x):Rd a (inj I x):=fun _ _ hv=>sA hv h
theorem kU{f:Nat}{I:Ty}{F:den I->Ans}(he:aM P f)(h:∀x,Wf I x->(∀q,(F x).ob=some q->q)->aO P f [inj I x] [] (F x)):aD P f (p1 I F):=by
 intro args S A hA ho _;unfold p1 at hA;split at hA
 ·split at hA
  ·rename_i x hx;simp at hA;subst hA;exact⟨he,aO.args (.cons (Rd.arg hx) .nil) (aO.wf fun hw=>h x hw.one ho)⟩
  ·cases hA
 ·cases hA
theorem gp{f:Nat}{I M:Ty}{F:den I->den M->Ans}(he:aM P f)
 (h:∀x y,Wf I x->Wf M y->(∀q,(F x y).ob=some q->q)->aO P f [inj I x,inj M y] [] (F x y)):aD P f (p2 I M F):=by
 intro args S A hA ho _;unfold p2 at hA;split at hA
 ·split at hA
  ·rename_i x y hx hy;simp at hA;subst hA;exact⟨he,aO.args (.cons (Rd.arg hx) (.cons (Rd.arg hy) .nil)) (aO.wf fun hw=>h x y hw.one hw.two ho)⟩
  ·cases hA
 ·cases hA
end
end Go.AL
end
noncomputable section
namespace Go.AL
theorem bV{Y:Type}(l:List Y)(k:Nat)(d:Y)(h:k<l.length):l.drop k=l.getD k d::l.drop (k+1):=by rw[y5 h];simp[vZ,h]
theorem gq{Y:Type}(l:List Y)(k:Nat)(d:Y)(h:k<l.length):l.getD k d∈l:=by simp[vZ,h]
theorem fF{n:Int}(h1:-9223372036854775808<=n)(h2:n<=9223372036854775807):inR .i64 n:=by constructor<;>simp[IntKind.min,IntKind.max,IntKind.signed,IntKind.bits]<;>omega
theorem gI{n m:Nat}(h1:n<m)(h2:m<=9223372036854775807):inR .i64 ((n:Int)+1):=fF (by omega) (by omega)
theorem aC{c p q:Prop}[Decidable c](h1:c->p)(h2:¬c->q):if c then p else q:=by
 by_cases h:c
 ·rw[wh h];exact h1 h
 ·rw[w5 h];exact h2 h
theorem sL[Tabs]{P:Program}{C:Cfg}(hm:P.follows .mixedOrders=true)(hT:aG P C.tbl)(hS:aX P C.spec){ann:An}{f:Nat}{fn:Func}(hf:P.funcs[f]?=some fn)
 {args:List AV}{S:List (Nat×SObj)}{A:Ans}{Q:Prop}(q:Q)(h:fwp C ann fn args S A=Q):aO P f args S A:=rD hm hT hS hf (h.mpr q)
end Go.AL
end
noncomputable section
namespace Go.AL
variable [Tabs]
open Go.ChangeShapes Go.WideShapes Go.RowKit
def qA(w:World)(b o:Nat):Prop:=∃v,w.cell? ⟨b,o,none⟩=some v
def Om0(w:World):Om:=⟨fun _=>none,w,qA w⟩
theorem rE{P:Program}{f:Nat}{args:List AV}(h:aO P f args [] (.ret (.bool true))){w:World}{vs:List Value}(htab:∀b o v,Tabs.tab b o v->w.cell? ⟨b,o,none⟩=some v)(hobj:∀b x,Tabs.obj b x->w.heap[b]?=some x)(hv:VL (Om0 w) args vs) :
  Calls P f vs.toArray w fun e w'=>e=.returned (.bool true)/\RowKit.Below w.heap.size w w':=by
 refine Calls.mono (h w (qA w) (fun _=>none) vs (fun _ _ h=>h) ⟨fun b o v ht=>⟨⟨v,htab b o v ht⟩,htab b o v ht⟩,fun b x hx=>⟨hobj b x hx,fun o ⟨_,_,hc,_⟩=>by cases hc⟩⟩ hv (fun id o ho=>by simp[aw,aq]at ho) (fun _ _=>rfl) (fun i j c d b o hc=>by cases hc)) ?_;intro e w' hq;obtain⟨pub',e',hq⟩:=hq
 cases e with
 |returned v=>obtain⟨_,hv,ha⟩:=hq;have:=hv.bool_inv;subst this;exact⟨rfl,ha.os,ha.tape,ha.output,ha.size,fun b hb=>ha.block b hb fun o ⟨id,c,hc,_⟩=>by cases hc⟩
 |panicked ch=>obtain⟨pv,u,v,hp,_⟩:=hq;cases hp
 |outgrown=>exact hq.elim
section
variable {H:Type} {enc:TypeId×Value->H} {P:Program}
theorem gU(hl:laidOutB P=true){W W':World}(hb:Below W.heap.size W W'){sp:Nat->Bool}:∀{ts:List TypeId} {vs:List Value} {ds:List (DataW H)} {p:List MemPlace},
  (∀t∈ts,P.readableRec t=true/\t<P.types.size)->DataW.TrodAll enc P W 0 (fun _=>true) true ts vs ds p->(∀x∈p,x.block<W.heap.size)->(∀x∈p,sp x.block=true)->DataW.TrodAll enc P W' 0 sp true ts vs ds p
 |[],_,_,_,_,h,_,_=>by obtain⟨rfl,rfl,rfl⟩:=trodAll_nil h;exact h
 |t::ts,_,_,_,hr,h,hlt,hsp=>by
  obtain⟨v,vs,d,ds,p,q,rfl,rfl,rfl,h1,h2⟩:=trodAll_cons h;obtain⟨r1,r2⟩:=hr t (by simp)
  exact⟨p,q,WideElems.Trod_stays hl r1 r2 h1 (fun x hx=>hb.same (hlt x (by simp[hx]))) (fun x hx=>hsp x (by simp[hx])),
   gU hl hb (fun t ht=>hr t (by simp[ht])) h2 (fun x hx=>hlt x (by simp[hx])) (fun x hx=>hsp x (by simp[hx])),rfl⟩
theorem sM(hl:laidOutB P=true){f:Func}{s:ChangeSpec}{apart fresh handsOn again:Bool}{W W':World}{args:Array Value}{ds gs:List (DataW H)}{before:List MemPlace}{tb:TypeId}
 (hr:∀t∈f.params.toList,P.readableRec t=true/\t<P.types.size)(hvars:s.vars=[])(hfn:∀ds:List (DataW H),ds.length=f.params.size->s.fn H ds={results:=[.lit (.bool true)],args:=ds})(hrt:f.resultTypes=#[tb])(htb:P.underlying tb=some .bool)
 (hW:DataW.Whole enc P f.params.toList s.vars apart W args.toList ds gs before)(hb:Below W.heap.size W W'):s.post enc P f apart fresh handsOn again W args (.bool true) W':=by
 have hlt:∀p∈before,p.block<W.heap.size:=fun p hp=>hW.lt p hp;have hW0:=hW;obtain⟨p,q,hA,hV,e,hz,hn⟩:=hW;rw[hvars]at hV;obtain⟨rfl,rfl⟩:=trodVars_none hV;rw[xO]at e;subst e
 have hlen:ds.length=f.params.size:=by
  have:∀{ts:List TypeId} {vs:List Value} {ds:List (DataW H)} {p:List MemPlace},DataW.TrodAll enc P W 0 (fun _=>true) true ts vs ds p->ds.length=ts.length:=by
   intro ts
   induction ts with
   |nil=>intro vs ds p h;obtain⟨rfl,rfl,rfl⟩:=trodAll_nil h;rfl
   |cons t ts ih=>intro vs ds p h;obtain⟨v,vs,d,ds,p,q,rfl,rfl,rfl,h1,h2⟩:=trodAll_cons h;simp[ih h2]
  simpa using this hA
 have hf:=hfn ds hlen;have hs:∀sp:Nat->Bool,(∀x∈before,sp x.block=true)->DataW.TrodAll enc P W' 0 sp true f.params.toList args.toList ds before:=fun sp hsp=>gU hl hb hr hA hlt hsp;have hres:∀(b:Nat)(sp:Nat->Bool)(hd:Bool),DataW.TrodAll enc P W' b sp hd f.resultTypes.toList ((Value.bool true).resultList f.resultTypes.size) [.lit (.bool true)] []:=by intro b sp hd;rw[hrt];exact trodAll_cons_mk (shut_bool htb true) trodAll_mk0
 have hvs:DataW.TrodVars enc P W' (fun b=>decide (b<W.heap.size)) s.vars [] []:=by rw[hvars];rfl
 refine⟨ds,[],before,[],before,[],hW0,?_,?_,?_,World.keptBut_mono (fun x hx=>⟨hx,.inr (.inl hx)⟩) (hb.frame (·∈before)),fun _=>⟨?_,?_⟩⟩
 ·rw[xO,hf];exact hres _ _ _
 ·rw[xO,hf];exact hs _ fun x hx=>by simpa using hlt x hx
 ·rw[xO,hf];exact hvs
 ·intro j t r h1 h2;rw[hrt]at h1 h2
  cases j with
  |zero=>
   simp at h1;subst h1;have:r=.bool true:=by simp[Value.resultList]at h2;exact h2.symm
   subst this;simp[Value.okWide,htb,Cell.okWide,Cell.ok]
  |succ j=>simp at h1
 ·refine⟨[.lit (.bool true)]++ds,[],[]++before,⟨[]++before,[],trodAll_append (hs _ fun _ _=>rfl) (hres _ _ _),by rw[hvars];rfl,by simp,fun b off hp=>?_,fun ha=>by simpa using hn ha⟩,fun x hx _=>by simpa using hx⟩;have hin:MemPlace.cell b off∈before:=by simpa using hp
  rw[hb.frozen (p:=⟨b,off,none⟩) (hlt _ hin)];exact hz b off hin
variable {w:World} {base:Nat} {sp:Nat->Bool} {held:Bool}
theorem vK{t:TypeId}{k:IntKind}{fuel:Nat}{cs:List Value}{x:DataW H×List MemPlace}(ht:P.underlying t=some (.int k))(h:DataW.trod enc P w base sp held fuel t cs=some x) :
  ∃n:Int,cs=[.int k n]/\V (Om0 w) (.int k n) (.int k n):=by
 obtain⟨n,rfl,_,hw⟩:=DataW.trod_int ht h;simp only[Lit.wf,vW,wb]at hw;exact⟨n,rfl,.int k n hw.1 hw.2⟩
theorem mc{t:TypeId}{fuel:Nat}{cs:List Value}{x:DataW H×List MemPlace}(ht:P.underlying t=some .string)(h:DataW.trod enc P w base sp held fuel t cs=some x) :
  ∃(s:Str)(v:Value),cs=[v]/\V (Om0 w) (.str s) v:=by
 obtain⟨s,rfl,_,hw⟩:=DataW.trod_string ht h;refine⟨s.data.toList,_,rfl,?_⟩;have e:s=⟨s.data.toList.toArray⟩:=by cases s;simp
 have hl:s.data.toList.length<=aS:=by have:s.data.size=s.size:=rfl;unfold maxLen at hw;unfold aS;simp only[xr,this];omega
 have:=V.str (E:=Om0 w) s.data.toList hl;rw[<-e]at this;exact this
theorem uN{t e:TypeId}{I:Ty}{fuel:Nat}{cs:List Value}{x:DataW H×List MemPlace}(ht:P.underlying t=some (.slice e))(hc:P.cellsOf e=a8 I)(h:DataW.trod enc P w base sp held fuel t cs=some x)
 (hel:∀(n:Nat)(ds:List Value)(y:DataW H×List MemPlace),fuel=n+1->DataW.trod enc P w base sp held n e ds=some y->∃z:den I,VL (Om0 w) (cells I z) ds)
 (hsp:∀a len cap,cs=[.slice (some a) len cap]->a.spot=none):∃(l:List (den I))(v:Value),cs=[v]/\V (Om0 w) (.lst I l none) v:=by
 rcases DataW.trod_slice ht h with⟨rfl,_⟩|⟨a,len,cap,elems,rest,n,hfu,rfl,_,_,hlc,hcm,hlen,hels,_,_⟩
 ·exact⟨[],_,rfl,.lstNil I none (fun id hid=>by cases hid)⟩
 ·have hs:=hsp a len cap rfl;obtain⟨b,off,spot⟩:=a;simp only at hs;subst hs
  have each:∀i,i<len->∃z:den I,∃ds:List Value,ds.length=a8 I/\(∀j,j<a8 I->w.cell? ⟨b,off+(i *a8 I+j),none⟩=ds[j]?)/\VL (Om0 w) (cells I z) ds:=by
   intro i hi;have h1:=hels i hi;obtain⟨y,hy⟩:∃y,elems[i]?=some y:=⟨_,vV (by omega)⟩;rw[hy,hc,Option.bind_eq_some_iff]at h1;obtain⟨ds,hd,hy'⟩:=h1;obtain⟨_,hdl,hdc⟩:=World.cells?_some hd;obtain⟨z,hz⟩:=hel n ds y hfu hy';refine⟨z,ds,hdl,fun j hj=>?_,hz⟩;have:=hdc j hj
   have ha:∀(o n:Nat),(⟨b,o,none⟩:Addr).add n=⟨b,o+n,none⟩:=by
    intro o n;unfold Addr.add;by_cases h0:n=0
    ·subst h0;rfl
    ·rw[w5 h0]
   rw[ha,ha,xn]at this;exact this
  have hz:∃l:List (den I),l.length=len/\∀i z,l[i]?=some z->∃ds:List Value,ds.length=a8 I/\(∀j,j<a8 I->w.cell? ⟨b,off+(i *a8 I+j),none⟩=ds[j]?)/\VL (Om0 w) (cells I z) ds:=by
   refine⟨(List.range len).attach.map fun i=>(each i.1 (xw.1 i.2)).choose,by simp,fun i z hi=>?_⟩;have hil:i<len:=by have:=(wL.1 hi).1;simpa using this
   simp only[wx,we]at hi;obtain⟨⟨k,hk⟩,h1,h2⟩:=hi;have hki:k=i:=by have:=wL.1 h1;obtain⟨_,e⟩:=this;have:=xq Subtype.val e;simpa using this.symm
   subst hki;rw[<-h2];exact(each k (xw.1 hk)).choose_spec
  obtain⟨l,hll,hle⟩:=hz;refine⟨l,_,rfl,?_⟩;have key:=V.lst (E:=Om0 w) I l none b off cap (fun i j=>(w.cell? ⟨b,off+(i *a8 I+j),none⟩).getD undef) (by omega) (by unfold maxLen at hcm;unfold aS;omega) (fun id hid=>by cases hid) (fun i z hz j c hj=>?_) (fun i z hz j c hj=>?_)
  ·rw[hll]at key;exact key
  ·obtain⟨ds,d1,d2,d3⟩:=hle i z hz;have hjw:j<a8 I:=by rw[<-aA I z];exact(wL.1 hj).1
   have hv:w.cell? ⟨b,off+(i *a8 I+j),none⟩=some ds[j]:=by rw[d2 j hjw];exact vV (by omega)
   refine⟨⟨_,hv⟩,?_⟩;show w.cell? _=_;rw[hv];rfl
  ·obtain⟨ds,d1,d2,d3⟩:=hle i z hz;have hjw:j<a8 I:=by rw[<-aA I z];exact(wL.1 hj).1
   have hd:ds[j]?=some ds[j]:=vV (by omega);rw[d2 j hjw,hd];exact d3.2 j c ds[j] hj hd
theorem sO{r:Reach}{b0:Nat}{t e:TypeId}{v:Value}(ht:P.underlying t=some (.slice e))(hv:Value.okWide P w r b0 t v):∀a len cap,v.cells.toList=[.slice (some a) len cap]->a.spot=none:=by
 intro a len cap hc;have:Cell.okWide P w r b0 t v:=by unfold Value.okWide at hv;rw[ht]at hv;exact hv
 unfold Cell.okWide at this;rw[ht]at this;have hok:Cell.ok P w r b0 t v:=by cases v<;>exact this
 unfold Cell.ok at hok;rw[ht]at hok
 cases v with
 |slice o l c=>simp[Value.cells]at hc;obtain⟨rfl,rfl,rfl⟩:=hc;simp only at hok;exact hok.2.2.2.1
 |_=>first|exact hok.elim|(simp[Value.cells]at hc)
theorem ug{r:Reach}{b0:Nat}{t e:TypeId}{v:Value}(ht:P.underlying t=some (.slice e))(hv:Value.okWide P w r b0 t v):v.cells.toList=[v]:=by
 have:Cell.okWide P w r b0 t v:=by unfold Value.okWide at hv;rw[ht]at hv;exact hv
 unfold Cell.okWide at this;rw[ht]at this;have hok:Cell.ok P w r b0 t v:=by cases v<;>exact this
 unfold Cell.ok at hok;rw[ht]at hok
 cases v with|slice o l c=>rfl|_=>exact hok.elim
end
end Go.AL
end
noncomputable section
namespace Go.AL
variable [Tabs]
open Go.ChangeShapes Go.WideShapes Go.RowKit
variable {H:Type} {enc:TypeId×Value->H} {P:Program} {w:World} {base:Nat} {held:Bool}
theorem mY{sp:Nat->Bool}{t:TypeId}{fs:Array Field}{fuel:Nat}{cs:List Value}{x:DataW H×List MemPlace}(ht:P.underlying t=some (.struct fs))(h:DataW.trod enc P w base sp held fuel t cs=some x) :
  ∃n,fuel=n+1/\cs.length=P.cellsOf t/\∀(i:Nat)(f:Field),fs[i]?=some f->∃y,DataW.trod enc P w base sp held n f.type ((cs.drop f.offset).take (P.cellsOf f.type))=some y:=by
 obtain⟨xs,n,hn,_,hl,hx,hf⟩:=DataW.trod_struct ht h;refine⟨n,hn,hl,fun i f hif=>?_⟩
 have hi:i<xs.length:=by
  rw[hx];rcases w4 i fs.size with k|k
  ·exact k
  ·rw[wW k]at hif;cases hif
 exact⟨xs[i],by rw[hf i f hif];exact vV hi⟩
theorem kV{t e:TypeId}{I:Ty}{fuel:Nat}{cs:List Value}{x:DataW H×List MemPlace}(ht:P.underlying t=some (.slice e))(hc:P.cellsOf e=a8 I)(hw:0<a8 I)
 (h:DataW.trod enc P w base (fun _=>true) held fuel t cs=some x)
 (hel:∀(n:Nat)(ds:List Value)(y:DataW H×List MemPlace),fuel=n+1->DataW.trod enc P w base (fun _=>true) held n e ds=some y->∃z:den I,VL (Om0 w) (cells I z) ds) :
  ∃(l:List (den I))(v:Value),cs=[v]/\V (Om0 w) (.lst I l none) v:=by
 have h0:=h;rcases DataW.trod_slice ht h with⟨rfl,_⟩|⟨a,len,cap,elems,rest,n,hfu,rfl,_,_,hlc,hcm,hlen,hels,hrest,_⟩
 ·exact⟨[],_,rfl,.lstNil I none (fun id hid=>by cases hid)⟩
 ·by_cases hcap:cap=0
  ·have:len=0:=by omega
   subst hcap this;exact⟨[],_,rfl,.lstVoid I a⟩
  ·refine uN ht hc h0 hel fun a' len' cap' e'=>?_;simp only[wY,wS,Xs,xh]at e';obtain⟨rfl,rfl,rfl⟩:=e'
   have hr:∃(ad:Addr)(y:DataW H×List MemPlace),ad=a/\(w.cells? base ad (P.cellsOf e)).bind (DataW.trod enc P w base (fun _=>true) held n e)=some y:=by
    by_cases hl:len=0
    ·obtain⟨r1,r2⟩:=hrest rfl;have:=r2 0 (by omega);rw[hl]at this;refine⟨_,_,?_,this.trans (vV (by omega))⟩;simp[Addr.add]
    ·have:=hels 0 (by omega);refine⟨_,_,?_,this.trans (vV (by omega))⟩;simp[Addr.add]
   obtain⟨ad,y,rfl,hy⟩:=hr;rw[Option.bind_eq_some_iff]at hy;obtain⟨ds,hd,_⟩:=hy;obtain⟨_,hdl,hdc⟩:=World.cells?_some hd;have:=hdc 0 (by rw[hc];exact hw);have ha:ad.add 0=ad:=by simp[Addr.add]
   rw[ha,vV (by rw[hdl,hc];exact hw)]at this;unfold World.cell? at this;split at this
   ·split at this
    ·cases this
    ·rename_i hs;cases hsp:ad.spot
     ·rfl
     ·rw[hsp]at hs;exact absurd rfl hs
   ·cases this
structure ShapeAt(P:Program)(t:TypeId):Prop where
 ex:∃(f0 f1 f2 f3 f4:Field)(e:TypeId),P.underlying t=some (.struct #[f0,f1,f2,f3,f4])/\P.cellsOf t=5/\
  (f0.offset=0/\f1.offset=1/\f2.offset=2/\f3.offset=3/\f4.offset=4)/\
  (P.cellsOf f0.type=1/\P.cellsOf f1.type=1/\P.cellsOf f2.type=1/\P.cellsOf f3.type=1/\P.cellsOf f4.type=1)/\
  P.underlying f0.type=some (.int .i64)/\P.underlying f1.type=some .string/\P.underlying f2.type=some .string/\P.underlying f3.type=some (.slice e)/\P.underlying e=some .string/\P.cellsOf e=1/\P.underlying f4.type=some (.slice t)
theorem uh{t:TypeId}(hs:ShapeAt P t):∀(fuel:Nat)(cs:List Value)(x:DataW H×List MemPlace),DataW.trod enc P w base (fun _=>true) held fuel t cs=some x->∃s:Shape,VL (Om0 w) (cells (.st .shape) s) cs:=by
 obtain⟨f0,f1,f2,f3,f4,e,ht,hc,⟨o0,o1,o2,o3,o4⟩,⟨c0,c1,c2,c3,c4⟩,u0,u1,u2,u3,us,ce,u4⟩:=hs;intro fuel
 induction fuel using Nat.strongRecOn with
 |_ fuel ih=>
 intro cs x h;obtain⟨n,hn,hl,hf⟩:=mY ht h;rw[hc]at hl;obtain⟨y0,h0⟩:=hf 0 f0 rfl;obtain⟨y1,h1⟩:=hf 1 f1 rfl;obtain⟨y2,h2⟩:=hf 2 f2 rfl;obtain⟨y3,h3⟩:=hf 3 f3 rfl;obtain⟨y4,h4⟩:=hf 4 f4 rfl
 match cs,hl with
 |[a0,a1,a2,a3,a4],_=>
  rw[o0,c0]at h0;rw[o1,c1]at h1;rw[o2,c2]at h2;rw[o3,c3]at h3;rw[o4,c4]at h4;simp only[xI,xF,xm,yK]at h0 h1 h2 h3 h4;obtain⟨k,e0,v0⟩:=vK u0 h0;obtain⟨p,v,e1,v1⟩:=mc u1 h1;obtain⟨m,v',e2,v2⟩:=mc u2 h2;obtain⟨ns,v'',e3,v3⟩:=kV (I:=.str) u3 (by rw[ce];rfl) (by decide) h3 fun n' ds y _ hy=>by obtain⟨s,v,rfl,hv⟩:=mc us hy;exact⟨s,VL.cons hv .nil⟩
  obtain⟨ps,v''',e4,v4⟩:=kV (I:=.st .shape) u4 (by rw[hc];rfl) (by decide) h4 fun n' ds y hn' hy=>ih n' (by omega) ds y hy;simp only[wY,xh]at e0 e1 e2 e3 e4;subst e0 e1 e2 e3 e4;exact⟨⟨k,p,m,ns,ps⟩,VL.cons v0 (VL.cons v1 (VL.cons v2 (VL.cons v3 (VL.cons v4 .nil))))⟩
structure ItemAt(P:Program)(t:TypeId):Prop where
 ex:∃(f0 f1 f2:Field),P.underlying t=some (.struct #[f0,f1,f2])/\P.cellsOf t=7/\(f0.offset=0/\f1.offset=1/\f2.offset=2)/\
  (P.cellsOf f0.type=1/\P.cellsOf f1.type=1/\P.cellsOf f2.type=5)/\P.underlying f0.type=some (.int .i64)/\P.underlying f1.type=some .string/\ShapeAt P f2.type
end Go.AL
end
noncomputable section
namespace Go.AL
open Go.ChangeShapes Go.WideShapes Go.RowKit
abbrev kW(w:World):Tabs:=⟨fun b o v=>b<3/\w.cell? ⟨b,o,none⟩=some v,fun b x=>b=3/\w.heap[b]?=some x⟩
variable [Tabs]
variable {H:Type} {enc:TypeId×Value->H} {P:Program} {w:World} {base:Nat} {held:Bool}
structure TokAt(P:Program)(t:TypeId):Prop where
 ex:∃(f0 f1 f2:Field),P.underlying t=some (.struct #[f0,f1,f2])/\P.cellsOf t=3/\(f0.offset=0/\f1.offset=1/\f2.offset=2)/\
  (P.cellsOf f0.type=1/\P.cellsOf f1.type=1/\P.cellsOf f2.type=1)/\P.underlying f0.type=some (.int .i64)/\P.underlying f1.type=some .string/\P.underlying f2.type=some (.int .i64)
end Go.AL
end
noncomputable section
namespace Go.AL
open Go.ChangeShapes Go.WideShapes Go.RowKit
variable [Tabs]
variable {H:Type} {enc:TypeId×Value->H} {P:Program} {w:World} {base:Nat} {held:Bool}
structure BindAt(P:Program)(t:TypeId):Prop where
 ex:∃(f0 f1 f2:Field),P.underlying t=some (.struct #[f0,f1,f2])/\P.cellsOf t=7/\(f0.offset=0/\f1.offset=1/\f2.offset=2)/\
  (P.cellsOf f0.type=1/\P.cellsOf f1.type=1/\P.cellsOf f2.type=5)/\P.underlying f0.type=some .string/\P.underlying f1.type=some .string/\ShapeAt P f2.type
theorem mZ{t:TypeId}(hs:BindAt P t)(fuel:Nat)(cs:List Value)(x:DataW H×List MemPlace)(h:DataW.trod enc P w base (fun _=>true) held fuel t cs=some x):∃s:Bndg,VL (Om0 w) (cells (.st .bind) s) cs:=by
 obtain⟨f0,f1,f2,ht,hc,⟨o0,o1,o2⟩,⟨c0,c1,c2⟩,u0,u1,u2⟩:=hs;obtain⟨n,hn,hl,hf⟩:=mY ht h;rw[hc]at hl;obtain⟨y0,h0⟩:=hf 0 f0 rfl;obtain⟨y1,h1⟩:=hf 1 f1 rfl;obtain⟨y2,h2⟩:=hf 2 f2 rfl
 match cs,hl with
 |[a0,a1,a2,a3,a4,a5,a6],_=>rw[o0,c0]at h0;rw[o1,c1]at h1;rw[o2,c2]at h2;simp only[xI,xF,xm,yK]at h0 h1 h2;obtain⟨k,v',e0,v0⟩:=mc u0 h0;obtain⟨p,v,e1,v1⟩:=mc u1 h1;obtain⟨s,v2⟩:=uh u2 _ _ _ h2;simp only[wY,xh]at e0 e1;subst e0 e1;exact⟨⟨k,p,s⟩,VL.cons v0 (VL.cons v1 v2)⟩
theorem ui{t e:TypeId}(ht:P.underlying t=some (.slice e))(hi:BindAt P e){r:Reach}{b0 fuel:Nat}{v:Value}{x:DataW H×List MemPlace}(hv:Value.okWide P w r b0 t v)
 (h:DataW.trod enc P w base (fun _=>true) held fuel t v.cells.toList=some x):∃l:List Bndg,V (Om0 w) (.lst (.st .bind) l none) v:=by
 obtain⟨l,u,e',hl⟩:=uN (I:=.st .bind) ht (by obtain⟨_,_,_,_,hc,_⟩:=hi;rw[hc];rfl) h (fun n ds y _ hy=>mZ hi n ds y hy) (sO ht hv);rw[ug ht hv]at e';simp only[wY,xh]at e';subst e';exact⟨l,hl⟩
structure EnvAt(P:Program)(t:TypeId):Prop where
 ex:∃(f0 f1 f2 f3:Field)(e:TypeId),P.underlying t=some (.struct #[f0,f1,f2,f3])/\P.cellsOf t=4/\(f0.offset=0/\f1.offset=1/\f2.offset=2/\f3.offset=3)/\
  (P.cellsOf f0.type=1/\P.cellsOf f1.type=1/\P.cellsOf f2.type=1/\P.cellsOf f3.type=1)/\P.underlying f0.type=some .string/\
  (P.underlying f1.type=some (.slice e)/\P.underlying f2.type=some (.slice e)/\P.underlying f3.type=some (.slice e))/\BindAt P e
theorem vL{t:TypeId}(hs:EnvAt P t)(fuel:Nat)(cs:List Value)(x:DataW H×List MemPlace)(h:DataW.trod enc P w base (fun _=>true) held fuel t cs=some x):∃s:Envt,VL (Om0 w) (cells (.st .env) s) cs:=by
 obtain⟨f0,f1,f2,f3,e,ht,hc,⟨o0,o1,o2,o3⟩,⟨c0,c1,c2,c3⟩,u0,⟨u1,u2,u3⟩,hb⟩:=hs;obtain⟨n,hn,hl,hf⟩:=mY ht h;rw[hc]at hl;obtain⟨y0,h0⟩:=hf 0 f0 rfl;obtain⟨y1,h1⟩:=hf 1 f1 rfl;obtain⟨y2,h2⟩:=hf 2 f2 rfl;obtain⟨y3,h3⟩:=hf 3 f3 rfl;have hw:P.cellsOf e=a8 (.st .bind):=by obtain⟨_,_,_,_,hc,_⟩:=hb;rw[hc];rfl
 match cs,hl with
 |[a0,a1,a2,a3],_=>rw[o0,c0]at h0;rw[o1,c1]at h1;rw[o2,c2]at h2;rw[o3,c3]at h3;simp only[xI,xF,xm,yK]at h0 h1 h2 h3;obtain⟨k,v',e0,v0⟩:=mc u0 h0;obtain⟨l1,w1,e1,v1⟩:=kV (I:=.st .bind) u1 hw (by decide) h1 (fun n ds y _ hy=>mZ hb n ds y hy);obtain⟨l2,w2,e2,v2⟩:=kV (I:=.st .bind) u2 hw (by decide) h2 (fun n ds y _ hy=>mZ hb n ds y hy);obtain⟨l3,w3,e3,v3⟩:=kV (I:=.st .bind) u3 hw (by decide) h3 (fun n ds y _ hy=>mZ hb n ds y hy);simp only[wY,xh]at e0 e1 e2 e3;subst e0 e1 e2 e3;exact⟨⟨k,l1,l2,l3⟩,VL.cons v0 (VL.cons v1 (VL.cons v2 (VL.cons v3 .nil)))⟩
theorem sP{t:TypeId}(hs:EnvAt P t){r:Reach}{b0:Nat}{v:Value}{d:DataW H}{ps:List MemPlace}(hv:Value.okWide P w r b0 t v)(h:DataW.Trod enc P w base (fun _=>true) held t v d ps):∃s:Envt,V (Om0 w) (.st .env s) v:=by
 obtain⟨fu,h⟩:=h;obtain⟨s,hs'⟩:=vL hs _ _ _ h;refine⟨s,.st .env s v ?_⟩;have hl:=hs'.1;have hc:(cells (.st .env) s).length=4:=rfl;rw[hc]at hl
 cases v with|agg vs=>have:=V.of_agg hs';simpa[Value.cells]using this|_=>simp[Value.cells]at hl
end Go.AL
end
noncomputable section
namespace Go.AL
variable [Tabs]
theorem aL.blk{E:Om}{own:Nat->Nat->Prop}{id:Nat}{ob:SObj}(hs:aL E own id ob){c:CObj}(hc:E.e id=some c){b o:Nat}(hb:occ c b o):b<E.w.heap.size:=by
 cases ob with
 |box x=>
  obtain⟨b',off,he,hh⟩:=hs;rw[he]at hc;simp only[Xs]at hc;subst hc;obtain⟨rfl,h1,h2⟩:=hb;have hj:o-off<(a7 x).length:=by omega
  obtain⟨_,_,_,v,hv,_⟩:=hh (o-off) _ (vV hj);exact ay hv
 |tail I n=>obtain⟨base,cap,he,_,_,_,hb'⟩:=hs;rw[he]at hc;simp only[Xs]at hc;subst hc;obtain⟨_,vs,ty,fz,hh,_⟩:=hb' b hb;exact bf hh
 |map U I m=>obtain⟨r,he,_,es,clock,hh,_⟩:=hs;rw[he]at hc;simp only[Xs]at hc;subst hc;have:b=r:=hb;subst this;exact bf hh
 |bld t u l=>obtain⟨b0,g,he,_,hh⟩:=hs;rw[he]at hc;simp only[Xs]at hc;subst hc;exact hh.lt hb
 |tailp I n x=>
  obtain⟨b0,cap,he,_,_,_,⟨vs,ty,fz,hh,_⟩,_⟩:=hs;rw[he]at hc;simp only[Xs]at hc;subst hc;have:b0=b:=by simpa[occ]using hb
  subst this;exact bf hh
def n0(e:Nat->Option CObj)(k b o:Nat):Prop:=∃c,e k=some c/\occ c b o
theorem After.slot{w w':World}{pub:Nat->Nat->Prop}{e:Nat->Option CObj}{S:List (Nat×SObj)}
 (hp:fL w pub)(hs:∀id o,ae S id=some o->aL ⟨e,w,pub⟩ (fun _ _=>True) id o)(hd:∀id,ae S id=none->e id=none)(hi:Inj e)
 {k:Nat}{obj:SObj}{c:CObj}{Q:Nat->Nat->Prop}
 (os:w'.os=w.os)(tape:w'.tape=w.tape)(output:w'.output=w.output)(size:w.heap.size<=w'.heap.size)
 (block:∀b,b<w.heap.size->(∀o,¬n0 e k b o)->w'.heap[b]?=w.heap[b]?)
 (cell:∀b o,b<w.heap.size->¬n0 e k b o->w'.cell? ⟨b,o,none⟩=w.cell? ⟨b,o,none⟩)
 (kind:∀b,b<w.heap.size->¬(∀o,n0 e k b o)->w'.shape? b=w.shape? b/\∀o,w'.frozen? ⟨b,o,none⟩=w.frozen? ⟨b,o,none⟩)
 (hpub:∀b o,pub b o->w'.cell? ⟨b,o,none⟩=w.cell? ⟨b,o,none⟩)
 (hQ:∀b o,Q b o->w.heap.size<=b/\∃v,w'.cell? ⟨b,o,none⟩=some v)
 (hle:∀c0,e k=some c0->CLe c0 c)(hnew:∀b o,occ c b o->w.heap.size<=b∨n0 e k b o)
 (hobj:Ext ⟨e,w,pub⟩ ⟨fun i=>if k=i then some c else e i,w',fun b o=>pub b o∨Q b o⟩->
   aL ⟨fun i=>if k=i then some c else e i,w',fun b o=>pub b o∨Q b o⟩ (fun b o=>w.heap.size<=b∨gL e b o) k obj) :
  After w pub e (ae (b5 S [(k,obj)])) w' (fun b o=>pub b o∨Q b o) (fun i=>if k=i then some c else e i):=by
 have blk:∀{id c b o},e id=some c->occ c b o->b<w.heap.size:=by
  intro id c b o hc ho
  cases hg:ae S id with
  |none=>rw[hd id hg]at hc;cases hc
  |some ob=>exact(hs id ob hg).blk (E:=⟨e,w,pub⟩) hc ho
 have hx:Ext ⟨e,w,pub⟩ ⟨fun i=>if k=i then some c else e i,w',fun b o=>pub b o∨Q b o⟩:=by
  refine⟨fun id c' hc'=>?_,fun b o h=>Or.inl h,fun b o h=>hpub b o h⟩;by_cases hid:k=id
  ·subst hid;exact⟨c,by simp,hle c' hc'⟩
  ·exact⟨c',by simp only[w5 hid];exact hc',CLe.refl _⟩
 have toL:∀{b o},n0 e k b o->gL e b o:=fun⟨c,h1,h2⟩=>⟨k,c,h1,h2⟩;have stay:∀{id c' b o},k≠id->e id=some c'->occ c' b o->¬n0 e k b o:=by rintro id c' b o hid hc ho ⟨c0,h1,h2⟩;exact hid (hi k id c0 c' b o h1 hc h2 ho)
 refine⟨os,tape,output,size,fun b hb h=>block b hb fun o ho=>h o (toL ho),fun b o hb h=>cell b o hb fun ho=>h (toL ho),
  fun b hb h=>kind b hb fun ho=>h fun o=>toL (ho o),hx,fun b o h=>?_,fun b o h=>?_,fun id o h=>?_,fun id h=>?_,?_⟩
 ·rcases h with h|h
  ·exact Or.inl h
  ·exact Or.inr (Or.inl (hQ b o h).1)
 ·rcases h with h|h
  ·obtain⟨v,hv⟩:=hp b o h;exact⟨v,(hpub b o h).trans hv⟩
  ·exact(hQ b o h).2
 ·rw[eR,dV]at h;by_cases hid:k=id
  ·subst hid;simp only[wR]at h;cases h;exact hobj hx
  ·simp only[w5 hid]at h;have h0:=hs id o h;refine aL.own_of (aL.keep h0 hx (by simp only[w5 hid]) fun c' hc'=>?_) (fun c' b o hc ho=>?_)
   ·have hc':e id=some c':=hc'
    cases c' with
    |box b off len=>
     intro oo h1 h2;have ho:occ (.box b off len) b oo:=⟨rfl,h1,h2⟩;refine⟨cell b oo (blk hc' ho) (stay hid hc' ho),(kind b (blk hc' ho) fun hall=>stay hid hc' ho (hall oo)).2 oo,fun hp'=>?_⟩;rcases hp' with hp'|hp'
     ·exact hp'
     ·have:=(hQ _ _ hp').1;have:=blk hc' ho;omega
    |tail n base cap=>
     intro b hb;have ho:∀oo,occ (.tail n base cap) b oo:=fun _=>hb;refine⟨block b (blk hc' (ho 0)) fun oo=>stay hid hc' (ho oo),fun oo hp'=>?_⟩;rcases hp' with hp'|hp'
     ·exact hp'
     ·have:=(hQ _ _ hp').1;have:=blk hc' (ho 0);omega
    |obj r=>have ho:∀oo,occ (.obj r) r oo:=fun _=>rfl;exact block r (blk hc' (ho 0)) fun oo=>stay hid hc' (ho oo)
    |bld b g=>
     intro b' hb';have ho:∀oo,occ (.bld b g) b' oo:=fun _=>hb';refine⟨block b' (blk hc' (ho 0)) fun oo=>stay hid hc' (ho oo),fun oo hp'=>?_⟩;rcases hp' with hp'|hp'
     ·exact hp'
     ·have:=(hQ _ _ hp').1;have:=blk hc' (ho 0);omega
   ·simp only[w5 hid]at hc;exact Or.inr ⟨id,c',hc,ho⟩
 ·rw[eR,dV]at h;by_cases hid:k=id
  ·simp[hid]at h
  ·simp only[w5 hid]at h⊢;exact hd id h
 ·intro i j ci cj b o hci hcj hoi hoj;simp only at hci hcj;by_cases h1:k=i<;>by_cases h2:k=j
  ·omega
  ·simp only[wh h1,w5 h2,Xs]at hci hcj;subst hci;rcases hnew b o hoi with h|h
   ·have:=blk hcj hoj;omega
   ·exact absurd h (stay h2 hcj hoj)
  ·simp only[w5 h1,wh h2,Xs]at hci hcj;subst hcj;rcases hnew b o hoj with h|h
   ·have:=blk hci hoi;omega
   ·exact absurd h (stay h1 hci hoi)
  ·simp only[w5 h1,w5 h2]at hci hcj;exact hi i j ci cj b o hci hcj hoi hoj
theorem After.fresh1{w w':World}{pub:Nat->Nat->Prop}{e:Nat->Option CObj}{S:List (Nat×SObj)}
 (hp:fL w pub)(hs:∀id o,ae S id=some o->aL ⟨e,w,pub⟩ (fun _ _=>True) id o)(hd:∀id,ae S id=none->e id=none)(hi:Inj e)
 {k:Nat}{obj:SObj}{c:CObj}(hb:RowKit.Below w.heap.size w w')(hk:ae S k=none)(hnew:∀b o,occ c b o->w.heap.size<=b)
 (hobj:aL ⟨fun i=>if k=i then some c else e i,w',fun b o=>pub b o∨False⟩ (fun b o=>w.heap.size<=b∨gL e b o) k obj) :
  After w pub e (ae (b5 S [(k,obj)])) w' (fun b o=>pub b o∨False) (fun i=>if k=i then some c else e i):=
 After.slot hp hs hd hi (Q:=fun _ _=>False) hb.os hb.tape hb.output hb.size (fun b h _=>hb.block b h) (fun b o h _=>ab (hb.block b h) o)
  (fun b h _=>⟨aJ (hb.block b h),fun o=>az (hb.block b h) o⟩)
  (fun b o h=>by obtain⟨v,hv⟩:=hp b o h;exact ab (hb.block b (ay hv)) o)
  (fun _ _ h=>h.elim) (fun c0 h=>by rw[hd k hk]at h;cases h) (fun b o h=>Or.inl (hnew b o h)) (fun _=>hobj)
theorem VL.one_inv{E:Om}{a:AV}{vs:List Value}(h:VL E [a] vs):∃v,vs=[v]/\V E a v:=by
 obtain⟨hl,h⟩:=h
 match vs,hl,h with
 |[v],_,h=>exact⟨v,rfl,h 0 a v rfl rfl⟩
theorem VL.two_inv{E:Om}{a b:AV}{vs:List Value}(h:VL E [a,b] vs):∃v u,vs=[v,u]/\V E a v/\V E b u:=by
 obtain⟨hl,h⟩:=h
 match vs,hl,h with
 |[v,u],_,h=>exact⟨v,u,rfl,h 0 a v rfl rfl,h 1 b u rfl rfl⟩
end Go.AL
end
noncomputable section
namespace Go.AL
variable [Tabs]
open Go.Proofs Go.Shelf Go.RowKit
variable {P:Program} {X:Ren}
structure But(w w':World)(b:Nat)(g:Option Nat):Prop where
 os:w'.os=w.os
 tape:w'.tape=w.tape
 output:w'.output=w.output
 size:w.heap.size<=w'.heap.size
 block:∀k,k<w.heap.size->k≠b->g≠some k->w'.heap[k]?=w.heap[k]?
structure WL(P:Program)(X:Ren):Prop where
 mixed:P.follows .mixedOrders=true
 f166:P.funcs[X.f 166]?=some (Body.n166 X)
 t3:P.underlying (X.t 3)=some (TypeDesc.int IntKind.i64)
 a3:∀w,(isAgg (X.t 3)).run P w=.ok false w
 z3:∀w,(Go.sizeOf (X.t 3)).run P w=.ok 1 w
 v3:∀w,(zeroValue (X.t 3)).run P w=.ok (Value.int IntKind.i64 0) w
 t9:P.underlying (X.t 9)=some (TypeDesc.string)
 a9:∀w,(isAgg (X.t 9)).run P w=.ok false w
 z9:∀w,(Go.sizeOf (X.t 9)).run P w=.ok 1 w
 v9:∀w,(zeroValue (X.t 9)).run P w=.ok (Value.string {data:=#[]}) w
 t37:P.underlying (X.t 37)=some (TypeDesc.slice (X.t 5))
 a37:∀w,(isAgg (X.t 37)).run P w=.ok false w
 z37:∀w,(Go.sizeOf (X.t 37)).run P w=.ok 1 w
 v37:∀w,(zeroValue (X.t 37)).run P w=.ok (Value.slice none 0 0) w
 t70:P.underlying (X.t 70)=some (TypeDesc.pointer (X.t 72))
 a70:∀w,(isAgg (X.t 70)).run P w=.ok false w
 z70:∀w,(Go.sizeOf (X.t 70)).run P w=.ok 1 w
 v70:∀w,(zeroValue (X.t 70)).run P w=.ok (Value.pointer none) w
 t72:P.underlying (X.t 72)=some (TypeDesc.struct #[{name:= "addr",type:=X.t 70,offset:=0,embedded:=false,tag:= "",pkgPath:= "strings",byteOffset:=0},{name:= "buf",type:=X.t 37,offset:=1,embedded:=false,tag:= "",pkgPath:= "strings",byteOffset:=8}])
 a72:∀w,(isAgg (X.t 72)).run P w=.ok true w
 z72:∀w,(Go.sizeOf (X.t 72)).run P w=.ok 2 w
 v72:∀w,(zeroValue (X.t 72)).run P w=.ok (Value.agg #[Value.pointer none,Value.slice none 0 0]) w
end Go.AL
end
noncomputable section
namespace Go.AL
variable [Tabs]
open Go.Proofs Go.RowKit Go.Maps Go.Sort Go.Shelf
variable {P:Program} {X:Ren}
def bW{Y:Type}(F:Fence)(n:Nat)(P:Program)(g:Nat)(lb:Array Value)(enc:Y->Value)(S:List Y->Prop)(N:Nat)(w:World):Prop:=
 ∀(l:Nat)(J:List Y->World->Prop)(W:World),Below w.heap.size w W->AbidesFrom W.heap.size J->(∀pre W1,J pre W1->Below w.heap.size w W1)->
  (∀pre x W1,J pre W1->pre.length<N->YieldAt F (n-1) P l #[enc x] W1 fun e W'=>e=.returned (.bool true)/\J (pre++[x]) W'/\KeepsWalks W1 W')->
  J [] W->
  CallsIn F n P g (#[.func (.yield l) #[] #[]]++lb) W fun e W'=>(∃v,e=.returned v)/\∃xs,S xs/\J xs W'
theorem bW.bounded{Y:Type}{F:Fence}{n:Nat}{g:Nat}{lb:Array Value}{enc:Y->Value}{S:List Y->Prop}{N:Nat}{w:World}
 (h:bW F n P g lb enc S N w):bW F n P g lb enc (fun xs=>S xs/\xs.length<=N) N w:=fun l J W hW hJ hB hY h0=>by
 refine(h l (fun xs W'=>J xs W'/\xs.length<=N) W hW (fun s A B row hs hg hr=>⟨hJ s A B row hs.1 hg hr,hs.2⟩) (fun pre W1 h=>hB pre W1 h.1)
  (fun pre x W1 hj hl=>(hY pre x W1 hj.1 hl).mono (fun e w' hr=>⟨hr.1,⟨hr.2.1,by simp;omega⟩,hr.2.2⟩)) ⟨h0,wP _⟩).mono ?_
 rintro e W' ⟨hv,xs,hS,hJ',hlen⟩;exact⟨hv,xs,⟨hS,hlen⟩,hJ'⟩
set_option maxRecDepth 100000 in
set_option maxHeartbeats 2000000 in
theorem pH(L:SlLaysZ.n11 P X)(F:Fence)(n:Nat)(h11:F.fn (X.f 11))(hro:F.round=none)(hn:2<=n)(g:Nat)(lb:Array Value)(hFg:F.fn g)(eg:∀args w,(callFunc g args).run P w=.ok (.enter g args) w)
 (S:List (List UInt8)->Prop)(N:Nat)(hN:N<=maxLen)(hNb:N *16<=140737488355328)(w:World)(hseq:bW F (n-1) P g lb encStr S N w) :
  CallsIn F n P (X.f 11) #[.slice none 0 0,.func (.func g) #[] lb] w fun e w'=>∃(v:Value)(ss:List (List UInt8)),e=.returned v/\S ss/\w'.ownsRow w.heap.size (X.t 26) 1 v ss.length (ss.map encStr)/\(v=.slice none 0 0↔ss=[])/\Below w.heap.size w w':=by
 have h1:1<=n:=by omega
 have mixed:=L.mixed;have t0:=L.t0;have a0:=L.a0;have z0:=L.z0;have v0:=L.v0;have t24:=L.t24;have a24:=L.a24;have z24:=L.z24;have v24:=L.v24;have t26:=L.t26;have a26:=L.a26;have z26:=L.z26;have v26:=L.v26;have t28:=L.t28;have a28:=L.a28;have z28:=L.z28;have v28:=L.v28;have hne:X.t 24≠X.t 26:=fun e=>by have h:=L.t24;rw[e,L.t26]at h;cases h
 have u0:=wE L.t0;have u24:=wE L.t24;have u26:=wE L.t26;have u28:=wE L.t28;obtain⟨_,_,FG⟩:=L.f11;refine callsIn_of_wp_marks FG rfl h11 ?_ hro;simp only[SlBodyZ.n11_ntmps X,xA,wo,xg,Nat.reduceAdd,Nat.reduceSub,xC,xD,xS,xH,wZ,xb]
 gi_wp2
 refine wpIn_rangeFunc ?_;intro fn hfn;rw[hro];obtain⟨W0,hW0⟩:∃W0,w.alloc (.cells #[.slice none 0 0] (X.t 24))=W0:=⟨_,rfl⟩;have hs0:W0.heap.size=w.heap.size+1:=by rw[<-hW0];simp
 have hv0:W0.heap[w.heap.size]?=some (.cells #[.slice none 0 0] (X.t 24) (0,0)):=by rw[<-hW0];exact World.alloc_heap_new w _
 have hb0:Below w.heap.size w W0:=by rw[<-hW0];exact(Below.refl _ w).alloc (wj _) _
 rw[hW0];obtain⟨W1,hW1⟩:∃W1,(W0.alloc (.deferred (some []))).alloc (.loop (AnyZ.apRec X fn (.func (.func g) #[] lb) w.heap.size W0.heap.size .ready none))=W1:=⟨_,rfl⟩;have hold:∀k,k<W0.heap.size->W1.heap[k]?=W0.heap[k]?:=fun k hk=>by rw[<-hW1];exact(Below.heap_alloc _ _ k (by simp;omega)).trans (Below.heap_alloc _ _ k hk)
 have hb1:Below w.heap.size w W1:=by rw[<-hW1];exact(hb0.alloc hb0.size _).alloc (by have:=hb0.size;simp;omega) _
 have hs1:W1.heap.size=W0.heap.size+2:=by rw[<-hW1];simp
 have hM:AnyZ.ApAt X w fn (.func (.func g) #[] lb) w.heap.size (W0.heap.size+1) W0.heap.size [] W1:=
  ⟨⟨_,(hold w.heap.size (by omega)).trans hv0,⟨rfl,.inl ⟨rfl,rfl⟩⟩,by simp⟩,
   by rw[<-hW1];have:=World.alloc_heap_new (W0.alloc (.deferred (some []))) (.loop (AnyZ.apRec X fn (.func (.func g) #[] lb) w.heap.size W0.heap.size .ready none));rwa [World.size_alloc]at this,
   by rw[<-hW1];exact(Below.heap_alloc _ _ _ (by simp)).trans (World.alloc_heap_new W0 _),hb1⟩
 refine⟨W0.heap.size+1,[{target:=.collected W0.heap.size,args:=#[]}],W1,{target:=.fn (.func g) lb,args:=#[.func (.yield (W0.heap.size+1)) #[] #[]]},W1,g,
  #[.func (.yield (W0.heap.size+1)) #[] #[]]++lb,W1,?_,?_,?_,?_,fun _=>h1,?_⟩
 ·rw[<-hW1];exact run_enterLoop_outer _ _ _ _ _
 ·simp[resolve,go_sem]
 ·intro f' hf';simp[Target.leads]at hf';subst hf';exact hFg
 ·simp[invoke,go_sem,eg]
 ·refine(hseq (W0.heap.size+1) (AnyZ.ApAt X w fn (.func (.func g) #[] lb) w.heap.size (W0.heap.size+1) W0.heap.size) W1 hb1 (AnyZ.ap_abides X _ _ _ _ _ _ _ hb1.size) (fun _ _ h=>h.below)
   (fun pre x W hJ hl=>AnyZ.apYield {L with} F (n-1-1) w fn hfn _ w.heap.size (W0.heap.size+1) W0.heap.size (by omega) (by omega) (by omega) (wj _) (by omega) N hN hNb pre x W hJ hl) hM).mono ?_
  rintro e W2 ⟨⟨v0,rfl⟩,ss,hS,h2⟩;obtain⟨v,hv,hrow,hnil⟩:=h2.box;have hend:=run_endLoop (P:=P) h2.L (by simp[AnyZ.apRec]);obtain⟨W3,hW3⟩:∃W3,W2.putObj (W0.heap.size+1) (.loop {AnyZ.apRec X fn (.func (.func g) #[] lb) w.heap.size W0.heap.size .ready none with state:=.exhausted})=W3:=⟨_,rfl⟩;rw[hW3]at hend;have hg3:W2.grownBy W3 (some (W0.heap.size+1)):=by rw[<-hW3];exact grownBy_putObj_a _ _ _
  have hv3:W3.heap[w.heap.size]?=some (.cells #[v] (X.t 24) (0,0)):=by rw[<-hW3];exact(World.putObj_heap_other (by omega)).trans hv
  have hK3:W3.heap[W0.heap.size]?=some (.deferred (some [])):=by rw[<-hW3];exact(World.putObj_heap_other (by omega)).trans h2.K
  have hrow3:=hrow.kept hg3 (ownsRow_ne_a hrow h2.L (fun cur e=>by first|cases e|exact hne (Obj.cells.inj e).2.1));have hb3:Below w.heap.size w W3:=h2.below.grown hg3 h2.below.size (fun k e=>by cases e;omega);obtain⟨hc3,hf3⟩:=cell_of_box_a hv3;clear hW3;refine⟨none,W3,hend,?_⟩
  gi_wp2
  rw[<-hs0];refine⟨by simp,.inl ⟨_,_,rfl,run_takeDeferred hK3,?_⟩⟩;exact⟨_,results_tmp rfl _ _ _,v,ss,rfl,hS,hrow3.kept (grownBy_putObj_a _ _ _) (ownsRow_ne_a hrow3 hK3 (fun cur e=>by first|cases e|exact hne (Obj.cells.inj e).2.1)),hnil,hb3.grown (grownBy_putObj_a _ _ _) hb3.size (fun k e=>by cases e;omega)⟩
set_option maxRecDepth 100000 in
set_option maxHeartbeats 2000000 in
theorem sQ(L:SlLaysZ.n8 P X)(F:Fence)(n:Nat)(h8:F.fn (X.f 8))(h11:F.fn (X.f 11))(hro:F.round=none)(hn:3<=n)(g:Nat)(lb:Array Value)(hFg:F.fn g)(eg:∀args w,(callFunc g args).run P w=.ok (.enter g args) w)
 (S:List (List UInt8)->Prop)(N:Nat)(hN:N<=maxLen)(hNb:N *16<=140737488355328)(w:World)(hseq:bW F (n-1-1) P g lb encStr S N w) :
  CallsIn F n P (X.f 8) #[.func (.func g) #[] lb] w fun e w'=>∃(v:Value)(ss:List (List UInt8)),e=.returned v/\S ss/\w'.ownsRow w.heap.size (X.t 26) 1 v ss.length (ss.map encStr)/\(v=.slice none 0 0↔ss=[])/\Below w.heap.size w w':=by
 have h1:1<=n:=by omega
 have e11:∀args w,(callFunc (X.f 11) args).run P w=.ok (.enter (X.f 11) args) w:=L.f11.enters rfl;have mixed:=L.mixed;have t0:=L.t0;have a0:=L.a0;have z0:=L.z0;have v0:=L.v0;have t24:=L.t24;have a24:=L.a24;have z24:=L.z24;have v24:=L.v24;have t26:=L.t26;have a26:=L.a26;have z26:=L.z26;have v26:=L.v26;have t28:=L.t28;have a28:=L.a28;have z28:=L.z28;have v28:=L.v28;have u0:=wE L.t0;have u24:=wE L.t24;have u26:=wE L.t26;have u28:=wE L.t28;obtain⟨_,_,FG⟩:=L.f8;refine callsIn_of_wp FG rfl h8 ?_ hro;simp only[SlBodyZ.n8_ntmps X,xA,wo,xg,Nat.reduceAdd,Nat.reduceSub,xC,xD,xS,xH,wZ,xb]
 gi_wp2_with (gi_at_fn (X.f 11);refine(pH {L with} F (n-1) h11 hro (by omega) g lb hFg eg S N hN hNb _ hseq).mono ?_;rintro e w' ⟨v,ss,rfl,hS,hrow,hnil,hb⟩)
 go_ret
 exact⟨v,ss,rfl,hS,hrow,hnil,hb⟩
set_option maxRecDepth 100000 in
set_option maxHeartbeats 2000000 in
theorem uj(L:SlLaysZ.n6 P X)(F:Fence)(n:Nat)(h6:F.fn (X.f 6))(h8:F.fn (X.f 8))(h9:F.fn (X.f 9))(h11:F.fn (X.f 11))(hro:F.round=none)(hn:4<=n)(hsort:AnyZ.SortsIn P X F (n-1))(e9:∀args w,(callFunc (X.f 9) args).run P w=.ok (.enter (X.f 9) args) w)(g:Nat)(lb:Array Value)(hFg:F.fn g)(eg:∀args w,(callFunc g args).run P w=.ok (.enter g args) w)
 (S:List (List UInt8)->Prop)(N:Nat)(hN:N<=maxLen)(hNb:N *16<=140737488355328)(w:World)(hseq:bW F (n-1-1-1) P g lb encStr S N w) :
  CallsIn F n P (X.f 6) #[.func (.func g) #[] lb] w fun e w'=>∃(v:Value)(ss:List (List UInt8)),e=.returned v/\S ss/\
   w'.ownsRow w.heap.size (X.t 26) 1 v ss.length ((ss.mergeSort (fun x y=>decide (x<=y))).map encStr)/\(v=.slice none 0 0↔ss=[])/\Below w.heap.size w w':=by
 have h1:1<=n:=by omega
 have e8:∀args w,(callFunc (X.f 8) args).run P w=.ok (.enter (X.f 8) args) w:=L.f8.enters rfl;have mixed:=L.mixed;have t0:=L.t0;have a0:=L.a0;have z0:=L.z0;have v0:=L.v0;have t24:=L.t24;have a24:=L.a24;have z24:=L.z24;have v24:=L.v24;have t26:=L.t26;have a26:=L.a26;have z26:=L.z26;have v26:=L.v26;have t28:=L.t28;have a28:=L.a28;have z28:=L.z28;have v28:=L.v28;have u0:=wE L.t0;have u24:=wE L.t24;have u26:=wE L.t26;have u28:=wE L.t28;obtain⟨_,_,FG⟩:=L.f6;refine callsIn_of_wp FG rfl h6 ?_ hro;simp only[SlBodyZ.n6_ntmps X,xA,wo,xg,Nat.reduceAdd,Nat.reduceSub,xC,xD,xS,xH,wZ,xb]
 gi_wp2_with (gi_at_fn (X.f 8);refine(sQ {L with} F (n-1) h8 h11 hro (by omega) g lb hFg eg _ N hN hNb _ (bW.bounded hseq)).mono ?_;rintro e W ⟨v,ss,rfl,⟨hS,hlen⟩,hrow,hnil,hb⟩)
 rcases hrow.2 with⟨rfl,hz⟩|⟨gb,cap,cur,rfl,hbase,hgb,r1,r2,r3,r4⟩
 ·
  have hss:ss=[]:=wi hz;subst hss
  gi_wp2_with (gi_at_fn (X.f 9);refine(hsort.2 none 0 W).mono ?_;rintro e w' ⟨rfl,rfl⟩)
  go_ret
  exact⟨.slice none 0 0,[],rfl,hS,by simpa using hrow,by simp,hb⟩
 ·have hH:Go.Sort.Holds encStr W gb 0 ss.toArray:=holds_of_block hgb (by simpa using r4);have hgl:gb<W.heap.size:=(xu.1 hgb).1;have hsz:ss.length<4611686018427387904:=by omega
  have cS:=hsort.1 gb 0 cap ss W hH hgl hsz
  gi_wp2_with (gi_at_fn (X.f 9);refine cS.mono ?_;rintro e w' ⟨rfl,nn,os,rfl⟩)
  go_ret
  exact⟨_,ss,rfl,hS,ownsRow_sorted (by simp) hbase hgb r1 r2 r3,hnil,hb.grown (grownBy_sorted _) hb.size (fun j hj=>by cases hj;exact hbase)⟩
theorem rF{f:Nat}{args:List AV}{S:List (Nat×SObj)}{ob:Option Prop}{T:TypeId}{ss:List Str}(hk:ae S 0=none)
 (hC:∀w pub e vs,fL w pub->VL ⟨e,w,pub⟩ args vs->(∀id o,ae S id=some o->aL ⟨e,w,pub⟩ (fun _ _=>True) id o)->
   (∀s∈ss,s.length<=aS)/\Calls P f vs.toArray w fun en w'=>∃v,en=.returned v/\w'.ownsRow w.heap.size T 1 v ss.length (ss.map encStr)/\Below w.heap.size w w') :
  aO P f args S ⟨ob,none,.arr 0 ss.length 1,[(0,.box (.row .str ss))]⟩:=by
 intro w pub e vs hp ht hv hs hd hi;obtain⟨hlen,hC⟩:=hC w pub e vs hp hv hs;refine hC.mono ?_;rintro en w' ⟨v,rfl,⟨hl,hrow⟩,hb⟩;have hpl:(a7 (.row .str ss)).length=ss.length:=by have:=aQ .str ss;rw[show a8 .str=1 from rfl,yN]at this;exact this
 rcases hrow with⟨rfl,hz⟩|⟨g,cap,cur,rfl,hbase,hg,h1,h2,h3,h4⟩
 ·have hss:ss=[]:=wi hz;subst hss;refine⟨_,_,fun _ _ _ h=>(by cases h),?_,After.fresh1 (c:=.box w.heap.size 0 0) hp hs hd hi hb hk (fun b o ho=>by obtain⟨_,_,h⟩:=ho;omega) ⟨w.heap.size,0,by simp;rfl,fun j c' hc=>?_⟩⟩
  ·exact .arr 0 0 1 w.heap.size 0 0 none (by simp) (by omega) (by omega) (by unfold aS;omega) (.inr ⟨rfl,rfl,rfl⟩)
  ·simp[a7,aH]at hc
 ·refine⟨_,_,fun _ _ _ h=>(by cases h),?_,After.fresh1 (c:=.box g 0 (a7 (.row .str ss)).length) hp hs hd hi hb hk (fun b o ho=>by obtain⟨rfl,_,_⟩:=ho;exact hbase) ⟨g,0,by simp,fun j c' hc=>?_⟩⟩
  ·exact .arr 0 ss.length 1 g (a7 (.row .str ss)).length cap (some ⟨g,0,none⟩) (by simp) (by omega) h1 (by unfold maxLen at h2;unfold aS;omega) (.inl rfl)
  ·have hj:j<ss.length:=by
    rw[<-hpl];rcases w4 j (a7 (.row .str ss)).length with k|k
    ·exact k
    ·rw[vX k]at hc;cases hc
   have hcx:=dT .str ss j ss[j] 0 (.str ss[j]) (by simp[hj]) rfl;have hc0:(a7 (.row .str ss))[j]?=some (.str ss[j]):=by rw[show j *a8 .str+0=j by rw[show a8 .str=1 from rfl];omega]at hcx;exact hcx
   rw[hc0]at hc;cases hc
   have hcur:cur[j]?=some (encStr ss[j]):=by
    have:(cur.toList.take (ss.length *1))[j]?=some (encStr ss[j]):=by rw[h4];simp[hj]
    rw[wv]at this;split at this
    ·simpa using this
    ·cases this
   refine⟨.inl hbase,fun h=>?_,cb hg _,encStr ss[j],by rw[xf,al hg];exact hcur,.str _ (hlen _ (yn hj))⟩;rcases h with h|h
   ·obtain⟨v,hv⟩:=hp _ _ h;have:=ay hv;omega
   ·exact h
def ev(l:List Str):List Str:=l.mergeSort fun x y=>decide (x<=y)
theorem n5(l:List Str):(ev l).length=l.length:=List.length_mergeSort _
theorem rG{l:List Str}{s:Str}:s∈ev l↔s∈l:=List.mem_mergeSort
structure SortL(P:Program)(X:Ren):Prop where
 lay:SlLaysZ.n6 P X
 sorts:AnyZ.SortsIn P X Fence.wide 4
 e9:∀args w,(callFunc (X.f 9) args).run P w=.ok (.enter (X.f 9) args) w
theorem n9(L:SortL P X){g:Nat}{lb:Array Value}(eg:∀args w,(callFunc g args).run P w=.ok (.enter g args) w){ks:List Str}(hN:ks.length *16<=140737488355328){w:World}
 (hseq:bW Fence.wide 2 P g lb encStr (fun ss=>ss.Perm ks) ks.length w) :
  Calls P (X.f 6) #[.func (.func g) #[] lb] w fun en w'=>∃v,en=.returned v/\w'.ownsRow w.heap.size (X.t 26) 1 v (ev ks).length ((ev ks).map encStr)/\Below w.heap.size w w':=by
 refine callsIn_wide.1 ((uj L.lay Fence.wide 5 trivial trivial trivial trivial rfl (by omega) L.sorts L.e9 g lb trivial eg _ ks.length (by unfold maxLen;omega) hN w hseq).mono ?_);rintro en w' ⟨v,ss,rfl,hS,hrow,_,hb⟩;have e:ss.mergeSort (fun x y=>decide (x<=y))=ev ks:=mergeSort_of_perm hS;have hl:ss.length=(ev ks).length:=by rw[n5];exact hS.length_eq
 rw[e,hl]at hrow;exact⟨v,rfl,hrow,hb⟩
theorem V.fn_inv{E:Om}{f:Nat}{cs:List AV}{v:Value}(h:V E (.fn f cs) v):∃vs,v=.func (.func f) #[] vs.toArray/\VL E cs vs:=by
 cases h with|fn _ _ vs h1 h2=>exact⟨vs,rfl,h1,h2⟩
def Strs(n₀:Nat)(W:World)(sv:Value)(zs:List Str):Prop:=
 ((∃a cap,sv=.slice a 0 cap)/\zs=[])∨∃b off cap,sv=.slice (some ⟨b,off,none⟩) zs.length cap/\b<n₀/\∀j,j<zs.length->W.cell? ⟨b,off+j,none⟩=some (encStr (zs[j]?.getD []))
def lD{Y:Type}(f:Nat->Y)(k:Nat):List Y:=(List.range k).map f
theorem rH{Y:Type}(f:Nat->Y)(k:Nat):lD f (k+1)=lD f k++[f k]:=by simp[lD,List.range_succ]
theorem oa{Y:Type}(f:Nat->Y)(k:Nat):(lD f k).length=k:=by simp[lD]
theorem sR(zs:List Str):lD (fun j=>zs[j]?.getD []) zs.length=zs:=by
 apply List.ext_getElem
 ·simp[lD]
 ·intro i h1 h2;simp[lD,h2]
def na(P:Program)(g:Nat):Prop:=
 ∀(w:World)(b o:Nat)(sv:Value)(zs:List Str),zs.length<=maxLen->w.cell? ⟨b,o,none⟩=some sv->Strs w.heap.size w sv zs->
  bW Fence.wide 2 P g #[.pointer (some ⟨b,o,none⟩)] encStr (fun ss=>ss=zs) zs.length w
theorem V.dropTok{E:Om}{I:Ty}{xs:List (den I)}{o:Option Nat}{v:Value}(h:V E (.lst I xs o) v):V E (.lst I xs none) v:=by
 cases h with|lstNil=>exact .lstNil I none (fun _ h=>by cases h)|lstVoid _ a=>exact .lstVoid I a|lst _ _ _ b off cap vals h1 h2 h3 h4 h5=>exact .lst I xs none b off cap vals h1 h2 (fun _ h=>by cases h) h4 h5
theorem ic(L:SortL P X){g:Nat}(eg:∀args w,(callFunc g args).run P w=.ok (.enter g args) w)(K:na P g)(zs:List Str)(hN:zs.length *16<=140737488355328)(tok:Option Nat) :
  aO P (X.f 6) [.fn g [.ptr 900 0]] [(900,.box (.lst .str zs tok))] ⟨some (zs.length *16<=140737488355328),none,.arr 0 (ev zs).length 1,[(0,.box (.row .str (ev zs)))]⟩:=by
 refine rF (T:=X.t 26) rfl fun w pub e vs hp hv hs=>?_;obtain⟨v1,rfl,h1⟩:=VL.one_inv hv;obtain⟨us,rfl,hus⟩:=h1.fn_inv;obtain⟨u,rfl,hu⟩:=VL.one_inv hus;obtain⟨b,o,len,rfl,he⟩:=hu.ptr_inv;obtain⟨b',o',he',hbox⟩:=hs 900 _ rfl;rw[he]at he';cases he';obtain⟨_,_,_,v,hcell,hvm⟩:=hbox 0 (.lst .str zs tok) rfl
 have hst:Strs w.heap.size w v zs:=by
  cases hvm with
  |lstNil=>exact .inl ⟨⟨_,_,rfl⟩,rfl⟩
  |lstVoid=>exact .inl ⟨⟨_,_,rfl⟩,rfl⟩
  |lst _ _ _ g0 off cap vals h1 h2 h3 h4 h5=>
   rcases yI zs.length with hz|hz
   ·have:=wi hz;subst this;exact .inl ⟨⟨_,_,rfl⟩,rfl⟩
   ·have at_:∀j (hj:j<zs.length),w.cell? ⟨g0,off+j,none⟩=some (encStr zs[j]):=by intro j hj;have q:=h4 j zs[j] (by simp[hj]) 0 (.str zs[j]) rfl;have r:=h5 j zs[j] (by simp[hj]) 0 (.str zs[j]) rfl;obtain⟨r1,_⟩:=r.str_inv;have:=q.2;rw[r1]at this;simpa[a8]using this
    exact .inr ⟨g0,off,cap,rfl,ay (at_ 0 hz),fun j hj=>by rw[at_ j hj];simp[hj]⟩
 refine⟨fun s hs=>?_,?_⟩
 ·have hw:Wf (.lst .str) zs:=⟨_,_,V.dropTok hvm⟩;exact(hw.mem (rG.1 hs)).str
 have hsq:=K w b (o+0) v zs (by unfold maxLen;omega) hcell hst;refine n9 L eg hN (w:=w) ?_;intro l J W a1 a2 a3 a4 a5;refine(hsq l J W a1 a2 a3 a4 a5).mono ?_;rintro e W' ⟨h1,xs,rfl,h3⟩;exact⟨h1,xs,.refl _,h3⟩
end Go.AL
end
noncomputable section
namespace Go.AL
variable [Tabs]
open Go.Proofs Go.RowKit Go.Maps Go.Sort Go.Shelf
variable {P:Program} {X:Ren}
theorem After.row{w w':World}{pub:Nat->Nat->Prop}{e:Nat->Option CObj}{S:List (Nat×SObj)}
 (hp:fL w pub)(hs:∀id o,ae S id=some o->aL ⟨e,w,pub⟩ (fun _ _=>True) id o)(hd:∀id,ae S id=none->e id=none)(hi:Inj e)
 {k b:Nat}{c c':AV}(hk:ae S k=some (.box c))(he:e k=some (.box b 0 (a7 c).length))(hl:(a7 c').length=(a7 c).length)
 (os:w'.os=w.os)(tape:w'.tape=w.tape)(output:w'.output=w.output)(size:w.heap.size<=w'.heap.size)
 (hblock:∀b',b'<w.heap.size->b'≠b∨(a7 c).length=0->w'.heap[b']?=w.heap[b']?)
 (hcell:∀j,(a7 c).length<=j->w'.cell? ⟨b,j,none⟩=w.cell? ⟨b,j,none⟩)
 (hkind:w'.shape? b=w.shape? b/\∀o,w'.frozen? ⟨b,o,none⟩=w.frozen? ⟨b,o,none⟩)
 (hval:∀(j:Nat)(c0:AV),(a7 c')[j]?=some c0->∃v,w'.cell? ⟨b,j,none⟩=some v/\∀E',V E' c0 v) :
  After w pub e (ae (b5 S [(k,.box c')])) w' (fun b o=>pub b o∨False) (fun i=>if k=i then some (.box b 0 (a7 c).length)else e i):=by
 obtain⟨b0,off0,he0,hbox⟩:=hs k _ hk;have he0:e k=some (.box b0 off0 (a7 c).length):=he0;rw[he]at he0;simp only[Xs,CObj.box.injEq]at he0;obtain⟨rfl,rfl,_⟩:=he0;have inE:∀{o},o<(a7 c).length->n0 e k b o:=fun h=>⟨_,he,rfl,by omega,by omega⟩
 have outE:∀{b' o},¬n0 e k b' o->b'≠b∨(a7 c).length<=o:=by
  intro b' o h;rcases w4 o (a7 c).length with h'|h'
  ·exact .inl fun e=>h (e ▸ inE h')
  ·exact .inr h'
 have cell:∀b' o,b'<w.heap.size->¬n0 e k b' o->w'.cell? ⟨b',o,none⟩=w.cell? ⟨b',o,none⟩:=by
  intro b' o h1 h2;by_cases hb:b'=b
  ·subst hb;rcases outE h2 with h|h
   ·exact absurd rfl h
   ·exact hcell o h
  ·exact ab (hblock b' h1 (.inl hb)) o
 refine After.slot hp hs hd hi (Q:=fun _ _=>False) os tape output size (fun b' h1 h2=>?_) cell (fun b' h1 h2=>?_) (fun b' o h=>?_) (fun _ _ h=>h.elim) (fun c0 h=>?_) (fun b' o h=>?_) (fun _=>?_)
 ·refine hblock b' h1 ?_;rcases outE (h2 0)with h|h
  ·exact .inl h
  ·exact .inr (by omega)
 ·by_cases hb:b'=b
  ·subst hb;exact hkind
  ·have:=hblock b' h1 (.inl hb);exact⟨aJ this,fun o=>az this o⟩
 ·obtain⟨v,hv⟩:=hp b' o h;refine cell b' o (ay hv) ?_;rintro⟨c1,h1,h2⟩;rw[he]at h1;cases h1;obtain⟨rfl,_,h3⟩:=h2;have hj:o<(a7 c).length:=by omega
  have:=(hbox o _ (vV hj)).2.1;exact this (by simpa using h)
 ·rw[he]at h;cases h;exact⟨rfl,rfl,rfl⟩
 ·exact .inr ⟨_,he,h⟩
 ·refine⟨b,0,by simp[hl],fun j c0 hc=>?_⟩
  have hj:j<(a7 c).length:=by
   rw[<-hl];rcases w4 j (a7 c').length with q|q
   ·exact q
   ·rw[vX q]at hc;cases hc
  obtain⟨_,q2,q3,_⟩:=hbox j _ (vV hj);obtain⟨v,hv,hV⟩:=hval j c0 hc;rw[xf]at q2 q3⊢;refine⟨.inr ⟨k,_,he,rfl,by omega,by omega⟩,fun h=>?_,?_,v,hv,hV _⟩
  ·rcases h with h|h
   ·exact q2 h
   ·exact h
  ·exact(hkind.2 j).trans q3
theorem ju{Y:Type}[Inhabited Y](enc:Y->Value)(w:World)(b:Nat)(d:Array Y)(k:Nat)(h:k≠b∨d.size=0):(putRow enc w b 0 d).heap[k]?=w.heap[k]?:=by
 unfold putRow mapBlock;simp only[xe];by_cases hk:b=k
 ·subst hk;rcases h with h|h
  ·exact absurd rfl h
  ·simp only[wR]
   cases hw:w.heap[b]? with
   |none=>rfl
   |some o=>
    simp only[wV,Xs]
    cases o with
    |cells c e f=>
     simp only[onCells,Obj.cells.injEq,xh,xz];apply Array.ext
     ·simp[putCells]
     ·intro i h1 h2;simp[putCells,h]
    |_=>rfl
 ·rw[w5 hk]
theorem iF{Y:Type}[Inhabited Y](enc:Y->Value)(w:World)(b:Nat)(d:Array Y):(putRow enc w b 0 d).shape? b=w.shape? b:=by
 unfold putRow mapBlock World.shape?;simp only[xe,wR]
 cases w.heap[b]? with
 |none=>rfl
 |some o=>cases o<;>simp[onCells,putCells]
theorem ba{I:Ty}(hw:a8 I=1)(xs:List (den I)):(a7 (.row I xs)).length=xs.length:=by have:=aQ I xs;rw[hw,yN]at this;exact this
theorem cI{I:Ty}(hw:a8 I=1)(xs:List (den I))(j:Nat)(x:den I)(c:AV)(hx:xs[j]?=some x)(hc:(cells I x)[0]?=some c):(a7 (.row I xs))[j]?=some c:=by have:=dT I xs j x 0 c hx hc;rw[hw,yN,xy]at this;exact this
theorem strRow{E:Om}{own:Nat->Nat->Prop}{id b:Nat}{ss:List Str}(h:aL E own id (.box (.row .str ss))){len:Nat}(he:E.e id=some (.box b 0 len)) :
  len=ss.length/\Go.Sort.Holds encStr E.w b 0 ss.toArray/\∀s∈ss,s.length<=aS:=by
 obtain⟨b',off,h1,h2⟩:=h;rw[he]at h1;simp only[Xs,CObj.box.injEq]at h1;obtain⟨rfl,rfl,h1⟩:=h1;have at_:∀j (hj:j<ss.length),E.w.frozen? ⟨b,0+j,none⟩=false/\E.w.cell? ⟨b,0+j,none⟩=some (encStr ss[j])/\ss[j].length<=aS:=by intro j hj;obtain⟨_,_,q3,v,q4,q5⟩:=h2 j _ (cI (I:=.str) rfl ss j ss[j] (.str ss[j]) (by simp[hj]) rfl);obtain⟨rfl,q6⟩:=q5.str_inv;exact⟨q3,q4,q6⟩
 refine⟨by rw[h1];exact ba (I:=.str) rfl ss,fun j hj=>?_,fun s hs=>?_⟩
 ·have hj':j<ss.length:=by simpa using hj
  obtain⟨q1,q2,_⟩:=at_ j hj';exact⟨by rw[q2];simp[hj'],q1⟩
 ·obtain⟨j,hj,rfl⟩:=List.getElem_of_mem hs;exact(at_ j hj).2.2
theorem oc{ss:List Str}{s:Str}(h:s∈Lib.compact ss):s∈ss:=by unfold Lib.compact Lib.compactUpTo at h;obtain⟨j,hj,rfl⟩:=wz.1 h;have:=(wI.1 hj).1;rw[xw]at this;simp[this]
theorem After.strRow{w:World}{pub:Nat->Nat->Prop}{e:Nat->Option CObj}{S:List (Nat×SObj)}
 (hp:fL w pub)(hs:∀id o,ae S id=some o->aL ⟨e,w,pub⟩ (fun _ _=>True) id o)(hd:∀id,ae S id=none->e id=none)(hi:Inj e)
 {k b len q:Nat}{ss ts:List Str}{gs:Array Obj}(hk:ae S k=some (.box (.row .str ss)))(he:e k=some (.box b 0 len))(hl:ts.length=ss.length)(hb:b<w.heap.size)(ht:∀s∈ts,s.length<=aS) :
  After w pub e (ae (b5 S [(k,.box (.row .str ts))])) (grow (putRow encStr (Sort.ahead w q) b 0 ts.toArray) gs) (fun b o=>pub b o∨False) (fun i=>if k=i then some (.box b 0 (a7 (.row .str ss)).length)else e i):=by
 obtain⟨rfl,hH,_⟩:=AL.strRow (hs k _ hk) he;have hsz:(putRow encStr (Sort.ahead w q) b 0 ts.toArray).heap.size=w.heap.size:=by simp
 have old:∀j,j<w.heap.size->(grow (putRow encStr (Sort.ahead w q) b 0 ts.toArray) gs).heap[j]?=(putRow encStr (Sort.ahead w q) b 0 ts.toArray).heap[j]?:=by intro j hj;unfold grow;simp only;rw[xW (by rw[hsz];exact hj)]
 have hpl:=ba (I:=.str) rfl ss;refine After.row hp hs hd hi hk (by rw[he,hpl]) (by rw[ba rfl,ba rfl,hl]) rfl rfl rfl (by simp[grow]) (fun b' h1 h2=>?_) (fun j hj=>?_) ⟨?_,fun o=>?_⟩ (fun j c0 hc=>?_)
 ·rw[old b' h1,ju encStr (Sort.ahead w q) b ts.toArray b' (by rw[hpl]at h2;simpa[hl]using h2)];rfl
 ·rw[ab (old b hb) j,cell?_putRow_other encStr (Sort.ahead w q) b 0 ts.toArray ⟨b,j,none⟩ (.inr (.inr (by rw[hpl]at hj;simp;omega)))];rfl
 ·rw[aJ (old b hb),iF];rfl
 ·rw[az (old b hb) o,frozen?_putRow];rfl
 ·have hj:j<ts.length:=by
   rw[<-ba (I:=.str) rfl ts];rcases w4 j (a7 (.row .str ts)).length with q|q
   ·exact q
   ·rw[vX q]at hc;cases hc
  rw[cI (I:=.str) rfl ts j ts[j] (.str ts[j]) (by simp[hj]) rfl]at hc;cases hc;refine⟨encStr ts[j],?_,fun E'=>.str _ (ht _ (yn hj))⟩;rw[ab (old b hb) j];have:=cell?_putRow encStr (Sort.ahead w q) b 0 ss.toArray ts.toArray hH (by simp[hl]) j (by simpa using hj);rw[xf]at this;rw[this];simp[hj]
theorem lE(L:Lays.n194 P X)(n:Nat)(ss:List Str)(hn:n=ss.length) :
  aO P (X.f 194) [.arr 900 n 1] [(900,.box (.row .str ss))]
   ⟨some (n=ss.length),none,.arr 900 (Lib.compact ss).length 1,[(900,.box (.row .str (Lib.compact ss++List.replicate (ss.length-(Lib.compact ss).length) [])))]⟩:=by
 subst hn;intro w pub e vs hp ht hv hs hd hi;obtain⟨v,rfl,h1⟩:=VL.one_inv hv;have hcl:(Lib.compact ss).length<=ss.length:=by unfold Lib.compact Lib.compactUpTo;rw[xP];exact xB (List.length_filter_le _ _) (by simp)
 cases h1 with
 |arr _ _ _ b len cap a he h2 h3 h4 h5=>
  have he:e 900=some (.box b 0 len):=he;obtain⟨rfl,hH,hlen⟩:=strRow (hs 900 _ rfl) he;have hpl:=ba (I:=.str) rfl ss;rcases h5 with rfl|⟨rfl,hz,rfl⟩
  ·by_cases h0:ss=[]
   ·subst h0;refine(Any.slices_Compact_string_empty L (some ⟨b,0,none⟩) cap w).mono ?_;rintro en w' ⟨rfl,rfl⟩;refine⟨_,_,fun _ _ _ h=>(by cases h),?_,After.row (c':=.row .str []) hp hs hd hi rfl (show e 900=some (.box b 0 (a7 (.row .str [])).length)from he) rfl rfl rfl rfl (wj _) (fun _ _ _=>rfl) (fun _ _=>rfl) ⟨rfl,fun _=>rfl⟩ (fun j c0 hc=>by simp[a7,aH]at hc)⟩;exact .arr 900 0 1 b (a7 (.row .str [])).length cap _ (by simp) (by omega) (by omega) h4 (.inl rfl)
   ·have hpos:0<ss.length:=yE.2 h0;have hb:b<w.heap.size:=ay (hH 0 (by simpa using hpos)).1;refine(Any.slices_Compact_string L b 0 cap ss w hH (by unfold aS at h4;omega) h3).mono ?_;rintro en w' ⟨rfl,q,rfl⟩
    have hA:=After.strRow (q:=q) (gs:=#[]) (ts:=Lib.compact ss++List.replicate (ss.length-(Lib.compact ss).length) []) hp hs hd hi rfl he (by simp;omega) hb (fun s hs'=>by
     rcases x9.1 hs' with h|h
     ·exact hlen s (oc h)
     ·obtain⟨_,rfl⟩:=List.mem_replicate.1 h;exact wP _)
    rw[grow_empty]at hA;exact⟨_,_,fun _ _ _ h=>(by cases h),.arr 900 (Lib.compact ss).length 1 b (a7 (.row .str ss)).length cap _ (by simp) (by rw[hpl];omega) (by omega) h4 (.inl rfl),hA⟩
  ·have h0:ss=[]:=wi hz;subst h0;refine(Any.slices_Compact_string_empty L none 0 w).mono ?_;rintro en w' ⟨rfl,rfl⟩;refine⟨_,_,fun _ _ _ h=>(by cases h),?_,After.row (c':=.row .str []) hp hs hd hi rfl (show e 900=some (.box b 0 (a7 (.row .str [])).length)from he) rfl rfl rfl rfl (wj _) (fun _ _ _=>rfl) (fun _ _=>rfl) ⟨rfl,fun _=>rfl⟩ (fun j c0 hc=>by simp[a7,aH]at hc)⟩;exact .arr 900 0 1 b (a7 (.row .str [])).length 0 _ (by simp) (by omega) (by omega) h4 (.inr ⟨rfl,rfl,rfl⟩)
end Go.AL
end
noncomputable section
namespace Go.AL
variable [Tabs]
open Go.Proofs Go.RowKit Go.Maps Go.Sort Go.Shelf Go.Lib
variable {P:Program} {X:Ren}
theorem du:∀a b:List UInt8,decide (compareBytes a b<0)=decide (a<b)
 |[],[]=>by simp[compareBytes]
 |[],_::_=>by simp[compareBytes]
 |_::_,[]=>by simp[compareBytes]
 |a::r,b::s=>by
  simp only[compareBytes];by_cases h1:a<b
  ·simp[h1,ym]
  ·by_cases h2:b<a
   ·have:a≠b:=fun e=>by subst e;exact h1 h2
    simp[h1,h2,ym,this]
   ·have:a=b:=UInt8.le_antisymm (UInt8.not_lt.1 h2) (UInt8.not_lt.1 h1);subst this;simp only[h1,wA,du r s];simp[ym,UInt8.lt_irrefl]
def CmpC(P:Program)(g:Nat):Prop:=
 ∀(W:World)(b o g0 off cap len i j:Nat)(si sj:Str),W.cell? ⟨b,o+3,none⟩=some (.slice (some ⟨g0,off,none⟩) len cap)->i<len->j<len->
  W.cell? ⟨g0,off+i,none⟩=some (encStr si)->W.cell? ⟨g0,off+j,none⟩=some (encStr sj)->
  Calls P g #[.int .i64 i,.int .i64 j,.pointer (some ⟨b,o,none⟩)] W fun e w'=>e=.returned (.int .i64 (compareBytes si sj))/\∃q,w'=W.drewN q
def bN(names:List Str)(i:Int):Str:=names.getD i.toNat []
def fG(names:List Str)(xs:List Int):List Int:=xs.mergeSort fun i j=>decide (bN names i<=bN names j)
theorem uO{m:Nat}:∀(xs:List Int),(∀x∈xs,0<=x/\x<m)->∃ps:List (Fin m),xs=ps.map fun i=>(i.val:Int)
 |[],_=>⟨[],rfl⟩
 |x::r,h=>by obtain⟨ps,hp⟩:=uO r fun y hy=>h y (by simp[hy]);obtain⟨h1,h2⟩:=h x (by simp);exact⟨⟨x.toNat,by omega⟩::ps,by simp[<-hp];omega⟩
theorem pI{names:List Str}(hnd:names.Nodup){xs ys:List Int}(hx:∀x∈xs,0<=x/\x<names.length)(hp:ys.Perm xs)(hs:ys.Pairwise fun i j=>bN names i<=bN names j):ys=fG names xs:=by
 have tr:∀a b c:Int,decide (bN names a<=bN names b)=true->decide (bN names b<=bN names c)=true->decide (bN names a<=bN names c)=true:=fun a b c h1 h2=>by simp only[wb]at *;exact List.le_trans h1 h2
 have to:∀a b:Int,(decide (bN names a<=bN names b)||decide (bN names b<=bN names a))=true:=fun a b=>by simp only[xa,wb];exact List.le_total _ _
 refine List.Perm.eq_of_pairwise (le:=fun a b=>bN names a<=bN names b) (fun a b ha hb h1 h2=>?_) hs ?_ (hp.trans (List.mergeSort_perm xs _).symm)
 ·have e:=List.le_antisymm h1 h2;obtain⟨a1,a2⟩:=hx a (hp.mem_iff.1 ha)
  obtain⟨b1,b2⟩:=hx b (by
   have:b∈fG names xs:=hb;exact List.mem_mergeSort.1 this)
  have ha':a.toNat<names.length:=by omega
  have hb':b.toNat<names.length:=by omega
  unfold bN at e;rw[vZ,vZ,vV ha',vV hb']at e;simp only[wN]at e;rcases Nat.lt_trichotomy a.toNat b.toNat with q|q|q
  ·rw[xV,xx]at hnd;exact absurd e (hnd _ _ ha' hb' q)
  ·omega
  ·rw[xV,xx]at hnd;exact absurd e.symm (hnd _ _ hb' ha' q)
 ·have:=List.pairwise_mergeSort tr to xs;exact this.imp fun h=>by simpa using h
theorem After.rowG{Y:Type}[Inhabited Y](enc:Y->Value){w:World}{pub:Nat->Nat->Prop}{e:Nat->Option CObj}{S:List (Nat×SObj)}{I:Ty}(hw:a8 I=1)
 (hp:fL w pub)(hs:∀id o,ae S id=some o->aL ⟨e,w,pub⟩ (fun _ _=>True) id o)(hd:∀id,ae S id=none->e id=none)(hi:Inj e)
 {k b q:Nat}{xs ys:List (den I)}{d0 d:Array Y}{gs:Array Obj}(hk:ae S k=some (.box (.row I xs)))(he:e k=some (.box b 0 xs.length))(hl:ys.length=xs.length)(hb:b<w.heap.size)
 (hH:Go.Sort.Holds enc w b 0 d0)(h0:d0.size=xs.length)(h1:d.size=xs.length)(hv:∀(j:Nat)(y:den I)(c:AV),ys[j]?=some y->(cells I y)[0]?=some c->∀E,V E c (enc d[j]!))(hc1:∀y:den I,∃c,(cells I y)[0]?=some c) :
  After w pub e (ae (b5 S [(k,.box (.row I ys))])) (grow (putRow enc (Sort.ahead w q) b 0 d) gs) (fun b o=>pub b o∨False) (fun i=>if k=i then some (.box b 0 (a7 (.row I xs)).length)else e i):=by
 have hsz:(putRow enc (Sort.ahead w q) b 0 d).heap.size=w.heap.size:=by simp
 have old:∀j,j<w.heap.size->(grow (putRow enc (Sort.ahead w q) b 0 d) gs).heap[j]?=(putRow enc (Sort.ahead w q) b 0 d).heap[j]?:=by intro j hj;unfold grow;simp only;rw[xW (by rw[hsz];exact hj)]
 have hpl:=ba hw xs;refine After.row hp hs hd hi hk (by rw[he,hpl]) (by rw[ba hw,ba hw,hl]) rfl rfl rfl (by simp[grow]) (fun b' k1 k2=>?_) (fun j hj=>?_) ⟨?_,fun o=>?_⟩ (fun j c0 hc=>?_)
 ·rw[old b' k1,ju enc (Sort.ahead w q) b d b' (by rw[hpl]at k2;rcases k2 with k2|k2;exact .inl k2;exact .inr (by omega))];rfl
 ·rw[ab (old b hb) j,cell?_putRow_other enc (Sort.ahead w q) b 0 d ⟨b,j,none⟩ (.inr (.inr (by rw[hpl]at hj;show 0+d.size<=j;omega)))];rfl
 ·rw[aJ (old b hb),iF];rfl
 ·rw[az (old b hb) o,frozen?_putRow];rfl
 ·have hj:j<ys.length:=by
   rw[<-ba hw ys];rcases w4 j (a7 (.row I ys)).length with q|q
   ·exact q
   ·rw[vX q]at hc;cases hc
  obtain⟨c1,hc1⟩:=hc1 ys[j];rw[cI hw ys j ys[j] c1 (by simp[hj]) hc1]at hc;cases hc;refine⟨enc d[j]!,?_,hv j ys[j] _ (by simp[hj]) hc1⟩;rw[ab (old b hb) j];have:=cell?_putRow enc (Sort.ahead w q) b 0 d0 d hH (by omega) j (by omega);rw[xf]at this;exact this
theorem eb{Y:Type}[Inhabited Y](enc:Y->Value){w:World}{b m b2 o2:Nat}{d:Array Y}{os:Array Obj}{v:Value}(h:w.cell? ⟨b2,o2,none⟩=some v)(hn:b2≠b∨d.size<=o2) :
  (sortWorld enc w b 0 m d os).cell? ⟨b2,o2,none⟩=some v:=by
 have hb:=ay h;have old:(sortWorld enc w b 0 m d os).heap[b2]?=(putRow enc (Sort.ahead w m) b 0 d).heap[b2]?:=by unfold sortWorld grow;simp only;rw[xW (by simp;exact hb)]
 rw[ab old o2,cell?_putRow_other enc (Sort.ahead w m) b 0 d ⟨b2,o2,none⟩ (by
  rcases hn with hn|hn
  ·exact .inl hn
  ·exact .inr (.inr (by show 0+d.size<=o2;omega)))]
 exact h
set_option maxHeartbeats 1000000 in
theorem kX(L:SlLaysF.n6 P X){g:Nat}(eg:∀args w,(callFunc g args).run P w=.ok (.enter g args) w)(C:CmpC P g)(s:Shape)(n:Nat)(xs:List Int)(hn:n=xs.length)(h0:xs≠[])
 (hx:∀x∈xs,0<=x/\x<s.names.length)(hnd:s.names.Nodup)(hbig:xs.length<4611686018427387904)(ob:Option Prop) :
  aO P (X.f 6) [.arr 900 n 1,.fn g [.ptr 901 0]] [(900,.box (.row (.int .i64) xs)),(901,.box (.st .shape s))] ⟨ob,none,.tup [],[(900,.box (.row (.int .i64) (fG s.names xs)))]⟩:=by
 subst hn;intro w pub e vs hp ht hv hs hd hi;obtain⟨v1,v2,rfl,h1,h2⟩:=VL.two_inv hv;obtain⟨us,rfl,hus⟩:=h2.fn_inv;obtain⟨u,rfl,hu⟩:=VL.one_inv hus;obtain⟨b,o,len',rfl,he1⟩:=hu.ptr_inv;have he1:e 901=some (.box b o len'):=he1;have hpos:0<xs.length:=yE.2 h0;have hm:0<s.names.length:=by obtain⟨x,hx'⟩:=List.exists_mem_of_ne_nil xs h0;have:=hx x hx';omega
 cases h1 with
 |arr _ _ _ blk len cap a he q2 q3 q4 q5=>
  have he:e 900=some (.box blk 0 len):=he
  obtain rfl:a=some ⟨blk,0,none⟩:=by
   rcases q5 with h|⟨_,h,_⟩
   ·exact h
   ·omega
  obtain⟨blk',off',he',hrow⟩:=hs 900 _ rfl;have he':e 900=some (.box blk' off' (a7 (.row (.int .i64) xs)).length):=he';rw[he]at he';simp only[Xs,CObj.box.injEq]at he';obtain⟨rfl,rfl,hlen⟩:=he';rw[ba (I:=.int .i64) rfl xs]at hlen;subst hlen;obtain⟨b',o',he2,hbox⟩:=hs 901 _ rfl;have he2:e 901=some (.box b' o' (a7 (.st .shape s)).length):=he2;rw[he1]at he2;simp only[Xs,CObj.box.injEq]at he2;obtain⟨rfl,rfl,rfl⟩:=he2;obtain⟨_,_,_,vv,hcell,hvv⟩:=hbox 3 (.lst .str s.names none) rfl
  have q901:∀o2,o<=o2->o2<o+5->b≠blk∨xs.length<=o2:=by
   intro o2 k1 k2;rcases w4 o2 xs.length with h|h
   ·refine .inl fun e=>?_;subst e;have:=hi 900 901 _ _ b o2 he he1 ⟨rfl,by omega,by omega⟩ ⟨rfl,k1,k2⟩;omega
   ·exact .inr h
  have qpub:∀b2 o2,pub b2 o2->b2≠blk∨xs.length<=o2:=by
   intro b2 o2 hp2;rcases w4 o2 xs.length with h|h
   ·refine .inl fun e=>?_;subst e;have hj:o2<(a7 (.row (.int .i64) xs)).length:=by rw[ba (I:=.int .i64) rfl xs];exact h
    have:=(hrow o2 _ (vV hj)).2.1;rw[xf]at this;exact this hp2
   ·exact .inr h
  clear hbox;generalize s.names=nm at hx hnd hm hvv⊢;obtain⟨ps,hps⟩:=uO xs hx
  haveI:Inhabited (Fin nm.length):=⟨⟨0,hm⟩⟩
  have hpsl:ps.length=xs.length:=by rw[hps];simp
  cases hvv with
  |lstNil=>exact absurd hm (by simp)
  |lstVoid=>exact absurd hm (by simp)
  |lst _ _ _ g0 off cap0 vals r1 r2 r3 r4 r5=>
   have at_:∀j (hj:j<nm.length),pub g0 (off+j)/\w.cell? ⟨g0,off+j,none⟩=some (encStr nm[j]):=by intro j hj;have q:=r4 j nm[j] (by simp[hj]) 0 (.str nm[j]) rfl;have r:=r5 j nm[j] (by simp[hj]) 0 (.str nm[j]) rfl;obtain⟨r1,_⟩:=r.str_inv;rw[r1]at q;simpa[a8]using q
   have hH:Go.Sort.Holds (fun i:Fin nm.length=>Value.int .i64 (i.val:Int)) w blk 0 ps.toArray:=by
    intro j hj;have hj':j<ps.length:=by simpa using hj
    have hjx:j<xs.length:=by omega
    obtain⟨_,_,k3,v,k4,k5⟩:=hrow j _ (cI (I:=.int .i64) rfl xs j xs[j] (.int .i64 xs[j]) (by simp[hjx]) rfl);obtain⟨rfl,_⟩:=k5.int_inv;have k4:w.cell? ⟨blk,0+j,none⟩=some (.int .i64 xs[j]):=k4;refine⟨?_,k3⟩;rw[k4];simp[hps,hj']
   have hcmp:CmpLays1 P g #[.pointer (some ⟨b,o+0,none⟩)] (fun i:Fin nm.length=>Value.int .i64 (i.val:Int)) (fun i j=>compareBytes nm[i] nm[j]) blk 0 ps.toArray.size w:=by
    refine CmpReads.lays fun m os dk hsz x y=>?_;have hds:dk.size=xs.length:=by rw[hsz];simp[hpsl]
    have c0:=eb (fun i:Fin nm.length=>Value.int .i64 (i.val:Int)) (b:=blk) (m:=m) (d:=dk) (os:=os) hcell (by rw[hds];exact q901 (o+3) (by omega) (by omega));have cx:=eb (fun i:Fin nm.length=>Value.int .i64 (i.val:Int)) (b:=blk) (m:=m) (d:=dk) (os:=os) (at_ x.val x.isLt).2 (by rw[hds];exact qpub _ _ (at_ x.val x.isLt).1);have cy:=eb (fun i:Fin nm.length=>Value.int .i64 (i.val:Int)) (b:=blk) (m:=m) (d:=dk) (os:=os) (at_ y.val y.isLt).2 (by rw[hds];exact qpub _ _ (at_ y.val y.isLt).1);exact C _ b (o+0) g0 off cap0 nm.length x.val y.val nm[x] nm[y] c0 x.isLt y.isLt cx cy
   have hO:SWO (ltOf fun i j:Fin nm.length=>compareBytes nm[i] nm[j]):=by have e:∀i j:Fin nm.length,ltOf (fun i j:Fin nm.length=>compareBytes nm[i] nm[j]) i j=ltStr nm[i] nm[j]:=fun i j=>du _ _;exact⟨fun i=>by rw[e];exact swo_ltStr.irrefl _,fun i j k h1 h2=>by rw[e]at *;exact swo_ltStr.trans _ _ _ h1 h2,fun i j k h1 h2=>by rw[e]at *;exact swo_ltStr.ntrans _ _ _ h1 h2⟩
   have hblk:blk<w.heap.size:=ay (hH 0 (by simp;omega)).1;have hcall:=Any.slices_SortFunc L (fun i:Fin nm.length=>Value.int .i64 (i.val:Int)) (fun _=>rfl) (fun i j=>compareBytes nm[i] nm[j]) hO g _ blk 0 cap ps.toArray w eg hcmp hH hblk (by simp;omega);rw[show ps.toArray.size=xs.length by simp[hpsl]]at hcall;refine hcall.mono ?_;rintro en w' ⟨rfl,d',n,os,⟨hds,_,hperm⟩,hsort,rfl⟩;have hd':d'.size=xs.length:=by rw[hds];simp[hpsl]
   have hys:d'.toList.map (fun i=>(i.val:Int))=fG nm xs:=by
    refine pI hnd hx ?_ ?_
    ·rw[hps];refine List.Perm.map _ ?_;have e1:d'.extract 0 xs.length=d':=by rw[<-hd'];simp
     have e2:ps.toArray.extract 0 xs.length=ps.toArray:=by rw[<-hpsl];simp
     rw[e1,e2]at hperm;simpa using hperm
    ·rw[List.pairwise_map,xx];intro i j hi hj hij;have hi':i<d'.size:=by simpa using hi
     have hj':j<d'.size:=by simpa using hj
     have:=hsort i j (wP _) hij (by omega);have e:=du nm[d'[j]!] nm[d'[i]!];unfold ltOf at this;rw[e]at this;have h3:¬(nm[d'[j]!]<nm[d'[i]!]):=by simpa using this
     have:=List.not_lt.1 h3;simp only[getElem!_pos d' j hj',getElem!_pos d' i hi']at this;simpa[bN]using this
   have hA:=After.rowG (q:=n) (gs:=os) (I:=.int .i64) (xs:=xs) (ys:=fG nm xs) (fun i:Fin nm.length=>Value.int .i64 (i.val:Int)) (d0:=ps.toArray) (d:=d') rfl hp hs hd hi rfl he (by simp[fG]) hblk hH (by simp[hpsl]) hd' (fun j y c hy hc E=>?_) (fun y=>⟨_,rfl⟩)
   ·exact⟨_,_,fun _ _ _ h=>(by cases h),.tup [] [] rfl (fun j c v hc=>by simp at hc),hA⟩
   ·cases hc;rw[<-hys]at hy;have hj:j<d'.size:=by have:=(wL.1 hy).1;simpa using this
    have:y=(d'[j]!.val:Int):=by rw[wx]at hy;simp[hj]at hy;rw[getElem!_pos d' j hj];exact hy.symm
    subst this;obtain⟨b1,b2⟩:=ek (n:=d'[j]!.val) (by have:=d'[j]!.isLt;omega);exact .int .i64 _ b1 b2
end Go.AL
end
noncomputable section
namespace Go.AL
variable [Tabs]
open Go.Proofs Go.Shelf
variable {P:Program} {X:Ren}
def vI(gv gk:Nat):Pat:=fun args S=>
 match args,S with
 |[.fn g [.ptr 900 0]],[(900,.box (.lst .str zs _))]=>
  if g=gv then some ⟨some (zs.length *16<=140737488355328),none,.arr 0 (ev zs).length 1,[(0,.box (.row .str (ev zs)))]⟩else none
 |[.fn g [.ptr 900 0]],[(900,.box (.map 901)),(901,.map .str _ m)]=>
  if g=gk then some ⟨some (m.length *16<=140737488355328),none,.arr 0 (ev (m.map (·.1))).length 1,[(0,.box (.row .str (ev (m.map (·.1)))))]⟩else none
 |_,_=>none
def cm(gv:Nat):Pat:=fun args S=>
 match args,S with
 |[.fn g [.ptr 900 0]],[(900,.box (.lst .str zs _))]=>
  if g=gv then some ⟨some (zs.length *16<=140737488355328),none,.arr 0 (ev zs).length 1,[(0,.box (.row .str (ev zs)))]⟩else none
 |_,_=>none
theorem lF{f gv:Nat}(L:SortL P X)(hf:X.f 6=f)(eg:∀args w,(callFunc gv args).run P w=.ok (.enter gv args) w)(V:na P gv)(he:aM P f):aD P f (cm gv):=by
 subst hf;intro args S A h hob hkeys;unfold cm at h;split at h
 ·split at h
  ·rename_i e;subst e;cases h;exact⟨he,ic L eg V _ (hob _ rfl) _⟩
  ·cases h
 ·cases h
def cn:Pat:=fun args S=>
 match args,S with
 |[.arr 900 n 1],[(900,.box (.row .str ss))]=>
  some ⟨some (n=ss.length),none,.arr 900 (Lib.compact ss).length 1,[(900,.box (.row .str (Lib.compact ss++List.replicate (ss.length-(Lib.compact ss).length) [])))]⟩
 |_,_=>none
theorem lG{f:Nat}(L:Lays.n194 P X)(hf:X.f 194=f)(he:aM P f):aD P f cn:=by
 subst hf;intro args S A h hob hkeys;unfold cn at h;split at h
 ·cases h;exact⟨he,lE L _ _ (hob _ rfl)⟩
 ·cases h
def bU(gc:Nat):Pat:=fun args S=>
 match args,S with
 |[.arr 900 n 1,.fn g [.ptr 901 0]],[(900,.box (.row (.int .i64) xs)),(901,.box (.st .shape s))]=>
  if g=gc then some ⟨some (n=xs.length/\xs≠[]/\(∀x∈xs,0<=x/\x<s.names.length)/\s.names.Nodup/\xs.length<4611686018427387904),none,.tup [],[(900,.box (.row (.int .i64) (fG s.names xs)))]⟩else none
 |_,_=>none
theorem kY{f gc:Nat}(L:SlLaysF.n6 P X)(hf:X.f 6=f)(eg:∀args w,(callFunc gc args).run P w=.ok (.enter gc args) w)(C:CmpC P gc)(he:aM P f):aD P f (bU gc):=by
 subst hf;intro args S A h hob hkeys;unfold bU at h;split at h
 ·split at h
  ·rename_i e;subst e;cases h;obtain⟨h1,h2,h3,h4,h5⟩:=hob _ rfl;exact⟨he,kX L eg C _ _ _ h1 h2 h3 h4 h5 _⟩
  ·cases h
 ·cases h
end Go.AL
end
section
namespace Go.Pd
open Go.AL
def vi(c:Int):Bool:=decide (48<=c)&&decide (c<=57)
def bI(b:UInt8):Int:=(b.toNat:Int)
def str(s:String):Str:=s.toUTF8.data.toList
mutual
def sz:Shape->Nat
 |⟨_,_,_,_,ps⟩=>szL ps+1
def szL:List Shape->Nat
 |[]=>0
 |p::r=>sz p+szL r
end
mutual
def eqS:Shape->Shape->Bool
 |⟨k,p,n,ns,ps⟩,⟨k',p',n',ns',ps'⟩=>decide (k=k')&&decide (p=p')&&decide (n=n')&&decide (ns=ns')&&eqL ps ps'
def eqL:List Shape->List Shape->Bool
 |[],[]=>true
 |a::r,b::s=>eqS a b&&eqL r s
 |_,_=>false
end
mutual
def deepS:Shape->Int->Int
 |⟨_,_,_,_,ps⟩,l=>deepL ps (l+1) l
def deepL:List Shape->Int->Int->Int
 |[],_,d=>d
 |p::r,l,d=>deepL r l (max d (deepS p l))
end
theorem qB(a:Shape):sz a=szL a.parts+1:=by cases a;rfl
theorem nc:∀{l:List Shape} {a:Shape},a∈l->sz a<=szL l
 |b::r,a,h=>by
  simp only[szL];rcases wC.1 h with rfl|h
  ·omega
  ·have:=nc h;omega
theorem qC:∀{a b:List Shape},a.length≠b.length->eqL a b=false
 |[],[],h=>absurd rfl h
 |[],_::_,_=>rfl
 |_::_,[],_=>rfl
 |a::r,b::s,h=>by simp only[eqL];rw[qC (fun e=>h (by simp[e]))];simp
theorem nf(a:Shape):0<sz a:=by rw[qB];omega
end Go.Pd
end
section
namespace Go.Pd
open Go.AL
def uP(t:Nat)(c:Int):Ans:=⟨some (0<=c/\c<=400),some (decide (400<c+1),.iface t (.agg []),[(900,.box (.int .i64 (c+1)))]),.tup [],[(900,.box (.int .i64 (c+1)))]⟩
def ng(t:Nat):Pat:=fun args S=>
 match args,S with
 |[.ptr 900 0],[(900,.box (.int .i64 c))]=>some (uP t c)
 |_,_=>none
theorem pJ[Tabs]{P:Program}{f t:Nat}(he:aM P f)(h:∀c,0<=c/\c<=400->aO P f [.ptr 900 0] [(900,.box (.int .i64 c))] (uP t c)):aD P f (ng t):=by
 intro args S A hA ho _;unfold ng at hA;split at hA
 ·simp only[Xs]at hA;subst hA;exact⟨he,h _ (ho _ rfl)⟩
 ·cases hA
def sS(t:Nat)(s:Shape)(l c:Int)(q:Prop):Ans:=
 ⟨some (q/\0<=c/\c<=400/\1<=l/\l<=c+1),some (decide (400<c+(sz s:Int)),.iface t (.agg []),[(900,.box (.int .i64 401))]),.int .i64 (deepS s l),[(900,.box (.int .i64 (c+(sz s:Int))))]⟩
def jU(t g:Nat)(n:Nat):Pat:=fun args S=>
 match args,S with
 |[a,.int .i64 l,.fn g' [.ptr 900 0]],[(900,.box (.int .i64 c))]=>
  (match Nat.beq g' g,arg (.st .shape) a with
  |true,some s=>some (sS t s l c (sz s<=n))
  |_,_=>none)
 |_,_=>none
theorem kZ[Tabs]{P:Program}{f t g n:Nat}(he:aM P f)(h:∀s l c,Wf (.st .shape) s->sz s<=n->(0<=c/\c<=400/\1<=l/\l<=c+1)->aO P f [.st .shape s,.int .i64 l,.fn g [.ptr 900 0]] [(900,.box (.int .i64 c))] (sS t s l c (sz s<=n))) :
  aD P f (jU t g n):=by
 intro args S A hA ho _;unfold jU at hA;split at hA
 ·split at hA
  ·rename_i s hb hs;simp only[Xs]at hA;subst hA;have e:=wm hb;subst e;obtain⟨h1,h2⟩:=ho _ rfl;exact⟨he,aO.args (.cons (Rd.arg hs) (.cons (Rd.refl _) (.cons (Rd.refl _) .nil))) (aO.wf fun hw=>h _ _ _ hw.one h1 h2)⟩
  ·cases hA
 ·cases hA
theorem gV:∀(l:List Shape)(k:Nat)(d:Shape),k<l.length->szL (l.take (k+1))=szL (l.take k)+sz (l.getD k d)
 |a::r,0,d,_=>by simp[szL]
 |a::r,k+1,d,h=>by have:=gV r k d (by simpa using h);simp only[xm,szL,List.getD_cons_succ]at this⊢;omega
theorem od(l:List Shape)(k:Nat):szL (l.take k)<=szL l:=by
 induction l generalizing k with
 |nil=>simp[szL]
 |cons a r ih=>
  cases k with|zero=>simp[szL]|succ k=>have:=ih k;simp only[xm,szL];omega
end Go.Pd
end
section
namespace Go.Pd
open Go.AL
def gW(s:Str):Int:=s.foldl (fun n c=>10 *n+((c.toNat:Int)-48)) 0
end Go.Pd
end
section
namespace Go.Pd
open Go.AL
def me(t:Str):Prop:=t≠[]/\t.length<=15/\∀c∈t,48<=c.toNat/\c.toNat<=57
end Go.Pd
end
section
namespace Go.AL
open Go.Proofs Go.Shelf Go.RowKit Go.Pd
theorem jv:∀(l:Str)(acc:Nat),(∀c∈l,48<=c.toNat/\c.toNat<=57)->∃m:Nat,Lib.decFrom acc l=some m/\(m:Int)=l.foldl (fun n c=>10 *n+((c.toNat:Int)-48)) (acc:Int)/\m<(acc+1) *10 ^ l.length
 |[],acc,_=>⟨acc,rfl,rfl,by simp⟩
 |c::r,acc,h=>by
  obtain⟨h1,h2⟩:=h c (wK ..);obtain⟨m,e1,e2,e3⟩:=jv r (acc *10+(c.toNat-48)) (fun d hd=>h d (wa _ hd));refine⟨m,?_,?_,?_⟩
  ·simp only[Lib.decFrom,Lib.digitVal,h1,h2,yT,wR];exact e1
  ·rw[e2,yz];congr 1;omega
  ·refine yL e3 ?_;rw[wo,Nat.pow_succ,<-Nat.mul_assoc,Nat.mul_right_comm];exact wM _ (by omega)
theorem sT{t:Str}(h:me t):Lib.atoi t=some (gW t)/\0<=gW t/\gW t<1000000000000000:=by
 obtain⟨h1,h2,h3⟩:=h;obtain⟨m,e1,e2,e3⟩:=jv t 0 h3;have e4:(m:Int)=gW t:=e2;refine⟨?_,by omega,?_⟩
 ·cases t with
  |nil=>exact absurd rfl h1
  |cons c r=>
   have hc:=h3 c (wK ..);have n1:(c ==45)=false:=by rw[xt];rintro rfl;simp at hc
   have n2:(c ==43)=false:=by rw[xt];rintro rfl;simp at hc
   simp only[Lib.atoi,n1,n2,wX,wA,Lib.decNat,List.isEmpty_cons,e1,wV,e4]
 ·have:m<10 ^ t.length:=by simpa using e3
  have h10:10 ^ t.length<=10 ^ 15:=Nat.pow_le_pow_right (by decide) h2;have:m<1000000000000000:=yL this h10;omega
variable [Tabs] {P:Program} {X:Ren}
theorem After.below{w w':World}{pub:Nat->Nat->Prop}{e:Nat->Option CObj}(hp:fL w pub)(hd:∀id,e id=none)(hb:Below w.heap.size w w'):After w pub e (ae (b5 [] [])) w' pub e where
 os:=hb.os
 tape:=hb.tape
 output:=hb.output
 size:=hb.size
 block b h _:=hb.block b h
 cell b o h _:=ab (hb.block b h) o
 kind b h _:=⟨aJ (hb.block b h),fun o=>az (hb.block b h) o⟩
 ext:=⟨fun _ c h=>⟨c,h,CLe.refl c⟩,fun _ _ h=>h,fun b o h=>by obtain⟨v,hv⟩:=hp b o h;exact ab (hb.block b (ay hv)) o⟩
 fresh b o h:=.inl h
 ok b o h:=by obtain⟨v,hv⟩:=hp b o h;exact⟨v,(ab (hb.block b (ay hv)) o).trans hv⟩
 slots id o h:=by simp[b5,aw,aq]at h
 dom id _:=hd id
 inj i j c d b o h:=by rw[hd i]at h;cases h
theorem pK(L:Lays.n172 P X)(t:Str)(h:me t):aO P (X.f 172) [.str t] [] ⟨some (me t),none,.tup [.int .i64 (gW t),.nilif],[]⟩:=by intro w pub e vs hp ht hv hs hd hi;obtain⟨v,rfl,h1⟩:=VL.one_inv hv;obtain⟨rfl,hl⟩:=h1.str_inv;obtain⟨a1,a2,a3⟩:=sT h;refine(Any.strconv_Atoi L ⟨t.toArray⟩ (gW t) (by have:=h.2.1;show t.toArray.size<=18;simp;omega) (by simpa using a1) w).mono ?_;rintro en w' ⟨rfl,ty,rfl⟩;refine⟨pub,e,?_⟩;refine And.intro (fun b pv u h=>by cases h) (And.intro ?_ (After.below hp (fun id=>hd id rfl) (Lib.bytesWorld_below w _ _)));have b1:inR .i64 (gW t):=fF (by omega) (by omega);exact V.of_tup (VL.cons (.int _ _ b1.1 b1.2) (VL.cons .nilif .nil))
def uk:Pat:=p1 .str fun t=>⟨some (me t),none,.tup [.int .i64 (gW t),.nilif],[]⟩
theorem pL{f:Nat}(L:Lays.n172 P X)(hf:X.f 172=f)(he:aM P f):aD P f uk:=by subst hf;exact kU he fun t _ ho=>pK L t (ho _ rfl)
end Go.AL
end
section
namespace Go.Pd
open Go.AL
def um{Y:Type}(F:Y->Bool):List Y->Nat->Int
 |[],_=>-1
 |x::r,k=>if F x=true then um F r (k+1)else(k:Int)
end Go.Pd
end
section
namespace Go.Pd
open Go.AL
def cut(s:Str)(a b:Int):Str:=(s.take b.toNat).drop a.toNat
def jw(r:Str)(k:Nat):Bool:=decide (k<r.length)&&decide ((r.getD k 0).toNat/64=2)
def jH(r:Str)(k:Nat):Nat:=(r.getD k 0).toNat%64
def jV(c:Nat):Bool:=decide (c<1114112)&&!(decide (55296<=c)&&decide (c<57344))
def sU:Str->Nat
 |[]=>0
 |b::r=>
  if b.toNat<128 then 1
  else if b.toNat/32=6/\jw r 0=true then(if 128<=b.toNat%32 *64+jH r 0 then 2 else 0)
  else if b.toNat/16=14/\jw r 0=true/\jw r 1=true then
   (if 2048<=b.toNat%16 *4096+jH r 0 *64+jH r 1/\jV (b.toNat%16 *4096+jH r 0 *64+jH r 1)=true then 3 else 0)
  else if b.toNat/8=30/\jw r 0=true/\jw r 1=true/\jw r 2=true then
   (if 65536<=b.toNat%8 *262144+jH r 0 *4096+jH r 1 *64+jH r 2/\jV (b.toNat%8 *262144+jH r 0 *4096+jH r 1 *64+jH r 2)=true then 4 else 0)
  else 0
def splitB(c:UInt8):Str->List Str
 |[]=>[[]]
 |b::r=>if b=c then[]::splitB c r else match splitB c r with|[]=>[[b]]|p::ps=>(b::p)::ps
def ez(s:Str):Str:=s.takeWhile fun b=>!decide (b=45)
def ie(s:Str):Str:=s.drop ((ez s).length+1)
def j9(s:Str):Bool:=decide ((ez s).length<s.length)
end Go.Pd
end
section
namespace Go.Pd
open Go.AL
end Go.Pd
namespace Go.Pd
open Go.AL
def l0:Str:=[48,49,50,51,52,53,54,55,56,57]
def jx(b:UInt8):Bool:=vi (bI b)
def l6(s:Str):Str:=(s.reverse.dropWhile jx).reverse.dropWhile jx
def sV(s:Str)(c:Int):Int:=um (fun b=>!decide (bI b=c)) s 0
def fM(s:Str):Nat×Nat:=if s=[]then(65533,0)else Lib.decodeN s.length (s.getD 0 0).toNat (s.getD 1 0).toNat (s.getD 2 0).toNat (s.getD 3 0).toNat
theorem lH{p:UInt8->Bool}:∀{l:Str},l.dropWhile p=[]↔l.all p=true
 |[]=>by simp
 |b::r=>by
  rw[List.dropWhile_cons];split
  ·rename_i h;rw[lH,List.all_cons,h,Bool.true_and]
  ·rename_i h;simp[h]
theorem sW(s:Str):(l6 s).length<=s.length:=by unfold l6;have h1:=(List.dropWhile_sublist (p:=jx) (l:=(s.reverse.dropWhile jx).reverse)).length_le;have h2:=(List.dropWhile_sublist (p:=jx) (l:=s.reverse)).length_le;rw[List.length_reverse]at h1 h2;omega
def rI(n b0 b1 b2 b3:Nat):Nat:=
 if b0<128 then 1
 else if b0/32=6/\(1<n/\b1/64=2)then(if b0%32 *64+b1%64≥128 then 2 else 0)
 else if b0/16=14/\(1<n/\b1/64=2)/\(2<n/\b2/64=2)then
  (if b0%16 *4096+b1%64 *64+b2%64≥2048/\(b0%16 *4096+b1%64 *64+b2%64<55296∨(57344<=b0%16 *4096+b1%64 *64+b2%64/\b0%16 *4096+b1%64 *64+b2%64<=1114111))then 3 else 0)
 else if b0/8=30/\(1<n/\b1/64=2)/\(2<n/\b2/64=2)/\(3<n/\b3/64=2)then
  (if b0%8 *262144+b1%64 *4096+b2%64 *64+b3%64≥65536/\(b0%8 *262144+b1%64 *4096+b2%64 *64+b3%64<55296∨(57344<=b0%8 *262144+b1%64 *4096+b2%64 *64+b3%64/\b0%8 *262144+b1%64 *4096+b2%64 *64+b3%64<=1114111))then 4 else 0)
 else 0
theorem oe(n b0 b1 b2 b3:Nat)(h1:b1<256)(h2:b2<256)(h3:b3<256)(h0:b0<256)(hn:1<=n) :
  ((Lib.decodeN n b0 b1 b2 b3).1=65533/\(Lib.decodeN n b0 b1 b2 b3).2=1↔rI n b0 b1 b2 b3=0)/\(rI n b0 b1 b2 b3≠0->(Lib.decodeN n b0 b1 b2 b3).2=rI n b0 b1 b2 b3)/\
  (Lib.decodeN n b0 b1 b2 b3).1<=1114111/\1<=(Lib.decodeN n b0 b1 b2 b3).2/\(Lib.decodeN n b0 b1 b2 b3).2<=n:=by
 unfold Lib.decodeN rI;by_cases c1:b0<128
 ·simp only[wh c1];refine⟨⟨fun e=>?_,fun e=>?_⟩,fun e=>?_,?_,?_,?_⟩<;>first|omega|exact⟨rfl,rfl⟩|exact Xr|exact(e rfl).elim|exact e.elim|exact(e trivial).elim|simp only at *
 simp only[w5 c1];by_cases c2:b0/32=6/\(1<n/\b1/64=2)
 ·simp only[wh c2];by_cases d:b0%32 *64+b1%64≥128
  ·simp only[wh d];refine⟨⟨fun e=>?_,fun e=>?_⟩,fun e=>?_,?_,?_,?_⟩<;>first|omega|exact⟨rfl,rfl⟩|exact Xr|exact(e rfl).elim|exact e.elim|exact(e trivial).elim|simp only at *
  ·simp only[w5 d];refine⟨⟨fun e=>?_,fun e=>?_⟩,fun e=>?_,?_,?_,?_⟩<;>first|omega|exact⟨rfl,rfl⟩|exact Xr|exact(e rfl).elim|exact e.elim|exact(e trivial).elim|simp only at *
 simp only[w5 c2];by_cases c3:b0/16=14/\(1<n/\b1/64=2)/\(2<n/\b2/64=2)
 ·simp only[wh c3];by_cases d:b0%16 *4096+b1%64 *64+b2%64≥2048/\(b0%16 *4096+b1%64 *64+b2%64<55296∨(57344<=b0%16 *4096+b1%64 *64+b2%64/\b0%16 *4096+b1%64 *64+b2%64<=1114111))
  ·simp only[wh d];refine⟨⟨fun e=>?_,fun e=>?_⟩,fun e=>?_,?_,?_,?_⟩<;>first|omega|exact⟨rfl,rfl⟩|exact Xr|exact(e rfl).elim|exact e.elim|exact(e trivial).elim|simp only at *
  ·simp only[w5 d];refine⟨⟨fun e=>?_,fun e=>?_⟩,fun e=>?_,?_,?_,?_⟩<;>first|omega|exact⟨rfl,rfl⟩|exact Xr|exact(e rfl).elim|exact e.elim|exact(e trivial).elim|simp only at *
 simp only[w5 c3];by_cases c4:b0/8=30/\(1<n/\b1/64=2)/\(2<n/\b2/64=2)/\(3<n/\b3/64=2)
 ·simp only[wh c4];by_cases d:b0%8 *262144+b1%64 *4096+b2%64 *64+b3%64≥65536/\(b0%8 *262144+b1%64 *4096+b2%64 *64+b3%64<55296∨(57344<=b0%8 *262144+b1%64 *4096+b2%64 *64+b3%64/\b0%8 *262144+b1%64 *4096+b2%64 *64+b3%64<=1114111))
  ·simp only[wh d];refine⟨⟨fun e=>?_,fun e=>?_⟩,fun e=>?_,?_,?_,?_⟩<;>first|omega|exact⟨rfl,rfl⟩|exact Xr|exact(e rfl).elim|exact e.elim|exact(e trivial).elim|simp only at *
  ·simp only[w5 d];refine⟨⟨fun e=>?_,fun e=>?_⟩,fun e=>?_,?_,?_,?_⟩<;>first|omega|exact⟨rfl,rfl⟩|exact Xr|exact(e rfl).elim|exact e.elim|exact(e trivial).elim|simp only at *
 simp only[w5 c4];refine⟨⟨fun e=>?_,fun e=>?_⟩,fun e=>?_,?_,?_,?_⟩<;>first|omega|exact⟨rfl,rfl⟩|exact Xr|exact(e rfl).elim|exact e.elim|exact(e trivial).elim|simp only at *
theorem og(c:Nat):jV c=true↔(c<55296∨(57344<=c/\c<=1114111)):=by unfold jV;simp only[vW,wb,wc,Bool.and_eq_false_iff,wF];omega
theorem rJ(r:Str)(k:Nat):jw r k=true↔(k+1<r.length+1/\(r.getD k 0).toNat/64=2):=by unfold jw;simp only[vW,wb];omega
theorem vj(b:UInt8)(r:Str):sU (b::r)=rI (r.length+1) b.toNat (r.getD 0 0).toNat (r.getD 1 0).toNat (r.getD 2 0).toNat:=by unfold sU rI jH;simp only[rJ,og]
theorem sX{s:Str}(h:s≠[]):((fM s).1=65533/\(fM s).2=1↔sU s=0)/\(sU s≠0->(fM s).2=sU s)/\(fM s).1<=1114111/\1<=(fM s).2/\(fM s).2<=s.length:=by
 cases s with
 |nil=>exact absurd rfl h
 |cons b r=>
  have e:fM (b::r)=Lib.decodeN (r.length+1) b.toNat (r.getD 0 0).toNat (r.getD 1 0).toNat (r.getD 2 0).toNat:=by unfold fM;rw[w5 h];rfl
  rw[e,vj,wo];exact oe _ _ _ _ _ (r.getD 0 0).toNat_lt (r.getD 1 0).toNat_lt (r.getD 2 0).toNat_lt b.toNat_lt (by omega)
end Go.Pd
namespace Go.Pd
open Go.AL
end Go.Pd
namespace Go.Pd
open Go.AL
end Go.Pd
namespace Go.Pd
open Go.AL
theorem gX(c:UInt8):∀s:Str,(splitB c s).length<=s.length+1
 |[]=>by simp[splitB]
 |b::r=>by
  have ih:=gX c r;unfold splitB;split
  ·simp only[wo];omega
  ·split
   ·simp
   ·rename_i e;rw[e]at ih;simp only[wo]at ih⊢;omega
end Go.Pd
namespace Go.Pd
open Go.AL
theorem rK(s:Str):(ez s).length<=s.length:=(List.takeWhile_sublist _).length_le
end Go.Pd
namespace Go.Pd
open Go.AL
end Go.Pd
namespace Go.Pd
open Go.AL
end Go.Pd
end
