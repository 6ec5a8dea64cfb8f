/- The layer: Go code as conditions, and that they are sound. Plain facts. No condition. -/
import Derived.Test.YtgackciebknbeaaGreatDoorT02
import Derived.ChangeMaps
import Derived.Deep.LoopGhost
import Derived.JoinedCond
import Derived.KernelRfl
import Derived.Maps.RangeRun
import Derived.OpenShut
import Derived.ProofKit
import Derived.Scope
import Derived.Shelf.SlIter.Sorted
import Derived.Shelf.SlSortCmp.Whole1
import Derived.Shelf.Slices.CompactS
import Derived.Shelf.Slices.In.SortNone
import Derived.Shelf.Small.Strs
import Derived.Shelf.Sort.Plain
import Derived.Shelf.Strconv.Atoi
import Derived.Shelf.Strings.BuilderF
import Derived.Test.YtgackciebknbeaaGreatDoorProg
import Derived.WalkKit
import Derived.WideKeyArgs
set_option linter.all false
set_option maxRecDepth 100000
noncomputable section
namespace Go.AL
variable [Tabs]
def eP (acc:List (List Nat)) (o:Oper):List Nat:=(o.after.toList.filter (Region.binds .any)).flatMap fun e=>e.on ::acc.getD e.on []
def bF (ops:List Oper):List (List Nat):=ops.foldl (fun acc o=>acc++[eP acc o]) []
theorem ve (ops:List Oper):bF ops=ops.foldl (fun acc o=>acc++[eP acc o]) []:=rfl
theorem vf {l:List Edge} {acc:List Nat} {i:Nat}:∀{m:Nat},(l.foldl (fun m e=>m ||| 2 ^ e.on ||| acc.getD e.on 0) m).testBit i=true→
  m.testBit i=true∨∃e∈l,e.on=i∨(acc.getD e.on 0).testBit i=true:=by
 induction l with
 | nil=>intro m h;exact Or.inl h
 | cons e r ih=>
  intro m h
  rcases ih h with h | ⟨x,hx,h⟩
  ·simp only [Nat.testBit_or,Bool.or_eq_true,Nat.testBit_two_pow,decide_eq_true_eq] at h
   rcases h with (h | h) | h
   ·exact Or.inl h
   ·exact Or.inr ⟨e,by simp,Or.inl h⟩
   ·exact Or.inr ⟨e,by simp,Or.inr h⟩
  ·exact Or.inr ⟨x,List.mem_cons_of_mem _ hx,h⟩
theorem gm (ops:List Oper):(dw ops).length=(bF ops).length/\∀j i,((dw ops).getD j 0).testBit i=true→i∈(bF ops).getD j []:=by
 suffices h:∀(ops:List Oper) (a:List Nat) (b:List (List Nat)),a.length=b.length→(∀j i,(a.getD j 0).testBit i=true→i∈b.getD j [])→
   (ops.foldl (fun acc o=>acc++[ny acc o]) a).length=(ops.foldl (fun acc o=>acc++[eP acc o]) b).length/\
   ∀j i,((ops.foldl (fun acc o=>acc++[ny acc o]) a).getD j 0).testBit i=true→i∈(ops.foldl (fun acc o=>acc++[eP acc o]) b).getD j [] by
  exact h ops [] [] rfl (by simp)
 intro ops
 induction ops with
 | nil=>exact fun a b hl h=>⟨hl,h⟩
 | cons o r ih=>
  intro a b hl h
  refine ih (a++[ny a o]) (b++[eP b o]) (by simp [hl]) fun j i hb=>?_
  rcases Nat.lt_trichotomy j a.length with hj | hj | hj
  ·rw [List.getD_eq_getElem?_getD,List.getElem?_append_left hj,←List.getD_eq_getElem?_getD] at hb
   rw [List.getD_eq_getElem?_getD,List.getElem?_append_left (by omega),←List.getD_eq_getElem?_getD]
   exact h j i hb
  ·subst hj
   rw [List.getD_eq_getElem?_getD,List.getElem?_append_right (Nat.le_refl _),Nat.sub_self] at hb
   rw [hl,List.getD_eq_getElem?_getD,List.getElem?_append_right (Nat.le_refl _),Nat.sub_self]
   simp only [List.getElem?_cons_zero,Option.getD_some] at hb ⊢
   unfold ny at hb
   rcases vf hb with hz | ⟨e,he,hz⟩
   ·simp at hz
   ·unfold eP
    rw [List.mem_flatMap]
    refine ⟨e,he,?_⟩
    rcases hz with rfl | hz
    ·simp
    ·exact List.mem_cons_of_mem _ (h _ _ hz)
  ·rw [List.getD_eq_getElem?_getD,List.getElem?_eq_none (by simp;omega)] at hb
   simp at hb
theorem iw (l:List Oper) (o:Oper):bF (l++[o])=bF l++[eP (bF l) o]:=by
 simp only [ve,List.foldl_append,List.foldl_cons,List.foldl_nil]
theorem mq:∀(r l:List Oper),∃t,bF (l++r)=bF l++t
 | [],l=>⟨[],by simp⟩
 | o ::r,l=>by
  obtain ⟨t,ht⟩:=mq r (l++[o])
  refine ⟨eP (bF l) o ::t,?_⟩
  rw [show l++o ::r=(l++[o])++r from by simp,ht,iw]
  simp
theorem nX (l:List Oper):(bF l).length=l.length:=by
 induction h:l.length generalizing l with
 | zero=>rw [List.eq_nil_of_length_eq_zero h];rfl
 | succ n ih=>
  have hne:l≠[]:=fun e=>by rw [e] at h;simp at h
  have hs:=List.dropLast_concat_getLast hne
  rw [←hs,iw]
  simp only [List.length_append,List.length_singleton]
  rw [ih l.dropLast (by simp [h])]
theorem vg {l:List Oper} {i:Nat} {o:Oper} (h:l[i]?=some o) :
  (bF l).getD i []=eP (bF (l.take i)) o/\∀m,m < i→(bF l).getD m []=(bF (l.take i)).getD m []:=by
 have hi:i < l.length:=by
  rcases Nat.lt_or_ge i l.length with k | k
  ·exact k
  ·rw [List.getElem?_eq_none k] at h;cases h
 have ho:l[i]=o:=by rw [List.getElem?_eq_getElem hi] at h;simpa using h
 have e:l=(l.take i++[o])++l.drop (i+1):=by
  rw [←ho,List.append_assoc,List.singleton_append,←List.drop_eq_getElem_cons hi,List.take_append_drop]
 obtain ⟨t,ht⟩:=mq (l.drop (i+1)) (l.take i++[o])
 rw [←e,iw] at ht
 have hl:(bF (l.take i)).length=i:=by rw [nX];simp;omega
 refine ⟨?_,fun m hm=>?_⟩
 ·rw [ht,List.getD_eq_getElem?_getD,List.append_assoc,List.getElem?_append_right (by omega),hl]
  simp
 ·rw [ht,List.getD_eq_getElem?_getD,List.append_assoc,List.getElem?_append_left (by omega),List.getD_eq_getElem?_getD]
theorem ix {l:List Oper} (he:∀(i:Nat) (o:Oper),l[i]?=some o→∀e∈o.after.toList,Region.binds .any e=true→e.on < i) {L:Nat→Prop}
  (hd:∀(i:Nat) (o:Oper),l[i]?=some o→L i→∀e∈o.after.toList,Region.binds .any e=true→L e.on) :
  ∀(n i:Nat) (o:Oper),i < n→l[i]?=some o→(∀e∈o.after.toList,Region.binds .any e=true→L e.on)→∀k∈(bF l).getD i [],L k:=by
 intro n
 induction n with
 | zero=>intro i o hi;omega
 | succ n ih=>
  intro i o hi ho hp k hk
  obtain ⟨h1,h2⟩:=vg ho
  rw [h1] at hk
  simp only [eP,List.mem_flatMap,List.mem_filter,List.mem_cons] at hk
  obtain ⟨e,⟨he1,he2⟩,hk⟩:=hk
  have hlt:=he i o ho e he1 he2
  rcases hk with rfl | hk
  ·exact hp e he1 he2
  ·rw [←h2 e.on hlt] at hk
   have hlen:e.on < l.length:=by
    have:i < l.length:=by
     rcases Nat.lt_or_ge i l.length with k | k
     ·exact k
     ·rw [List.getElem?_eq_none k] at ho;cases ho
    omega
   have ho':l[e.on]?=some l[e.on]:=List.getElem?_eq_getElem hlen
   exact ih e.on _ (by omega) ho' (hd e.on _ ho' (hp e he1 he2)) k hk
theorem pq {l:List Oper} {fl:List bg} (h:dy l fl=true) :
  (∀(i:Nat) (o:Oper),l[i]?=some o→∀e∈o.after.toList,Region.binds .any e=true→e.on < i)/\
  ∀j i,i < j→j < l.length→i∈(bF l).getD j []∨wW l (fun k=>fl.getD k ([],[])) i j:=by
 simp only [dy,Bool.and_eq_true,List.all_eq_true] at h
 obtain ⟨h1,h2⟩:=h
 refine ⟨fun i o ho e he hb=>?_,fun j i hij hj=>?_⟩
 ·have hm:(o,i)∈l.zipIdx:=by
   rw [List.mem_zipIdx_iff_getElem?]
   exact ho
  have:=h2 (o,i) hm
  simp only [Array.all_eq_true,Bool.or_eq_true,Bool.not_eq_true',Nat.blt_eq] at this
  obtain ⟨k,hk,hke⟩:=Array.mem_iff_getElem.1 (Array.mem_toList_iff.1 he)
  have:=this k hk
  rw [hke] at this
  rcases this with h | h
  ·rw [hb] at h;cases h
  ·exact h
 ·have:=h1 j (List.mem_range.2 hj) i (List.mem_range.2 hij)
  simp only [Bool.or_eq_true] at this
  rcases this with h | h
  ·left;exact (gm l).2 j i h
  ·right
   intro x y hx hy
   simp only [gw,hx,hy] at h
   split at h
   ·rename_i x' y' f g e1 e2 e3 e4
    simp at e1 e2
    subst e1 e2
    simp only [Bool.and_eq_true] at h
    simp only [List.getD_eq_getElem?_getD,e3,e4,Option.getD_some]
    exact h
   ·simp at h
theorem nY {ops:Array Oper} {listed:Array Bool} {i:Nat}:i∈Region.ready .any ops listed↔
   i < ops.size/\listed.getD i true=false/\∃o,ops[i]?=some o/\∀e∈o.after.toList,Region.binds .any e=true→listed.getD e.on false=true:=by
 unfold Region.ready
 simp only [List.mem_filter,List.mem_range,Bool.and_eq_true,Bool.not_eq_true']
 constructor
 ·rintro ⟨h1,h2,h3⟩
  refine ⟨h1,h2,?_⟩
  cases ho:ops[i]? with
  | none=>rw [ho] at h3;simp at h3
  | some o=>
   rw [ho] at h3
   refine ⟨o,rfl,fun e hem hb=>?_⟩
   simp only [Option.map_some,Option.getD_some,Array.all_eq_true,Bool.or_eq_true,Bool.not_eq_true'] at h3
   obtain ⟨k,hk,hke⟩:=Array.mem_iff_getElem.1 (Array.mem_toList_iff.1 hem)
   have:=h3 k hk
   rw [hke] at this
   rcases this with h | h
   ·rw [hb] at h;cases h
   ·exact h
 ·rintro ⟨h1,h2,o,ho,h3⟩
  refine ⟨h1,h2,?_⟩
  rw [ho]
  simp only [Option.map_some,Option.getD_some,Array.all_eq_true,Bool.or_eq_true,Bool.not_eq_true']
  intro k hk
  cases hb:Region.binds .any o.after[k] with
  | false=>exact Or.inl rfl
  | true=>exact Or.inr (h3 _ (Array.mem_toList_iff.2 (Array.getElem_mem hk)) hb)
section
variable {P:Program} {C:Cfg} {ops:Array Oper} {Q:Exit→Act→World→Prop} {F:Fr}
theorem any_sound (hT:aK P C.tbl) (hS:bu P C.spec) (hdst:∀(o:Oper),o∈ops.toList→∀d,o.dst=some d→d < F.n)
  {fs:Nat→bg} {sN:AS} (he:∀(i:Nat) (o:Oper),ops.toList[i]?=some o→∀e∈o.after.toList,Region.binds .any e=true→e.on < i)
  (hi:∀j i,i < j→j < ops.size→i∈(bF ops.toList).getD j []∨wW ops.toList fs i j)
  (hQ:∀a' Ω',Holds F sN a' Ω'→Q .normal a' Ω'.w) :
  ∀(fuel:Nat) (R:List Nat) (listed:Array Bool) (s:AS) (a:Act) (Ω:Om),R.length=fuel→listed.size=ops.size→
   (∀i,i < ops.size→(listed.getD i true=false↔i∈R))→R.Pairwise (· < ·)→(∀i∈R,i < ops.size)→
   (∀(i:Nat) (o:Oper),ops.toList[i]?=some o→listed.getD i true=true→∀e∈o.after.toList,Region.binds .any e=true→listed.getD e.on true=true)→
   iv C ops.toList fs R s sN→Holds F s a Ω→wpAny P .any ops Q fuel listed a Ω.w:=by
 intro fuel
 have mem_ready:∀{listed:Array Bool} {i:Nat},i∈Region.ready .any ops listed↔
   i < ops.size/\listed.getD i true=false/\∃o,ops[i]?=some o/\∀e∈o.after.toList,Region.binds .any e=true→listed.getD e.on false=true:=nY
 have two:∀{listed:Array Bool} {i:Nat},listed.size=ops.size→i < ops.size→listed.getD i true=listed.getD i false:=by
  intro listed i hs hi'
  simp [Array.getD_eq_getD_getElem?,hs,hi']
 have least:∀(R:List Nat) (listed:Array Bool),listed.size=ops.size→(∀i,i < ops.size→(listed.getD i true=false↔i∈R))→R.Pairwise (· < ·)→(∀i∈R,i < ops.size)→
   Region.ready .any ops listed=[]→R=[]:=by
  intro R listed hs hl hp hlt hr
  cases R with
  | nil=>rfl
  | cons m R=>
   have hm:=hlt m (by simp)
   have:m∈Region.ready .any ops listed:=by
    refine mem_ready.2 ⟨hm,(hl m hm).2 (by simp),ops[m],Array.getElem?_eq_getElem hm,fun e hem hb0=>?_⟩
    have hon:=he m ops[m] (by rw [Array.getElem?_toList];exact Array.getElem?_eq_getElem hm) e hem hb0
    rw [←two hs (by omega)]
    cases hb:listed.getD e.on true with
    | true=>rfl
    | false=>
     have hin:=(hl e.on (by omega)).1 hb
     simp only [List.mem_cons] at hin
     rcases hin with hin | hin
     ·omega
     ·have:=(List.pairwise_cons.1 hp).1 e.on hin
      omega
   rw [hr] at this
   cases this
 induction fuel with
 | zero=>
  intro R listed s a Ω hlen hs hl hp hlt hdc hrun h
  have hR:=List.eq_nil_of_length_eq_zero hlen
  subst hR
  have hsn:s=sN:=hrun
  subst hsn
  refine ⟨?_,hQ a Ω h⟩
  cases hr:Region.ready .any ops listed with
  | nil=>rfl
  | cons i r=>
   have:i∈Region.ready .any ops listed:=by rw [hr];simp
   obtain ⟨h1,h2,_⟩:=mem_ready.1 this
   have:=(hl i h1).1 h2
   cases this
 | succ fuel ih=>
  intro R listed s a Ω hlen hs hl hp hlt hdc hrun h
  refine ⟨fun hr=>?_,fun i hir=>?_⟩
  ·have hR:=least R listed hs hl hp hlt hr
   subst hR
   have hsn:s=sN:=hrun
   subst hsn
   exact hQ a Ω h
  ·obtain ⟨h1,h2,o,ho,h3⟩:=mem_ready.1 hir
   have hiR:=(hl i h1).1 h2
   obtain ⟨r1,r2,hR⟩:=List.append_of_mem hiR
   subst hR
   have hpre:∀e∈o.after.toList,Region.binds .any e=true→listed.getD e.on true=true:=by
    intro e hem hb
    have hon:=he i o (by rw [Array.getElem?_toList];exact ho) e hem hb
    rw [two hs (by omega)]
    exact h3 e hem hb
   have hal:=ix (l:=ops.toList) he (L:=fun k=>listed.getD k true=true) hdc (i+1) i o (by omega) (by rw [Array.getElem?_toList];exact ho) hpre
   have hp':=List.pairwise_append.1 hp
   have hfront:=iv.front r1 i r2 s sN hrun (fun j hj=>by
    have hji:j < i:=hp'.2.2 j hj i (by simp)
    rcases hi i j hji h1 with hk | hk
    ·have:=hal j hk
     have hjf:=(hl j (by omega)).2 (by simp [hj])
     rw [this] at hjf
     cases hjf
    ·exact hk)
   obtain ⟨o',s1,ho',hstep,hrest⟩:=hfront
   have hoo:o'=o:=by
    rw [Array.getElem?_toList,ho] at ho'
    simpa using ho'.symm
   subst hoo
   refine nU hT hS ho (hdst o' (List.mem_of_getElem? ho')) h hstep (fun a' Ω' h'=>?_)
   have hnd:i∉r1/\i∉r2:=by
    refine ⟨fun hm=>?_,fun hm=>?_⟩
    ·have:=hp'.2.2 i hm i (by simp);omega
    ·have:=(List.pairwise_cons.1 hp'.2.1).1 i hm;omega
   refine ih (r1++r2) (listed.setIfInBounds i true) s1 a' Ω' (by simp at hlen ⊢;omega) (by simpa using hs) (fun k hk=>?_) ?_ (fun k hk=>hlt k (by simp at hk ⊢;rcases hk with hk | hk <;> simp [hk])) (fun k ok hok hkl e hem hb=>?_) hrest h'
   ·by_cases hik:i=k
    ·subst hik
     simp [Array.getD_eq_getD_getElem?,hs,h1,hnd.1,hnd.2]
    ·have:(listed.setIfInBounds i true).getD k true=listed.getD k true:=by simp [Array.getD_eq_getD_getElem?,hik]
     rw [this,hl k hk]
     simp
     have:¬k=i:=fun e=>hik e.symm
     simp [this]
   ·refine List.pairwise_append.2 ⟨hp'.1,(List.pairwise_cons.1 hp'.2.1).2,fun x hx y hy=>hp'.2.2 x hx y (by simp [hy])⟩
   ·have key:∀m,listed.getD m true=true→(listed.setIfInBounds i true).getD m true=true:=by
     intro m hm
     by_cases him:i=m
     ·subst him
      simp [Array.getD_eq_getD_getElem?,hs,h1]
     ·have:(listed.setIfInBounds i true).getD m true=listed.getD m true:=by simp [Array.getD_eq_getD_getElem?,him]
      rw [this,hm]
    by_cases hik:i=k
    ·subst hik
     rw [Array.getElem?_toList,ho] at hok
     simp at hok
     subst hok
     exact key _ (hpre e hem hb)
    ·have:(listed.setIfInBounds i true).getD k true=listed.getD k true:=by simp [Array.getD_eq_getD_getElem?,hik]
     rw [this] at hkl
     exact key _ (hdc k ok hok hkl e hem hb)
end
end Go.AL
end
noncomputable section
namespace Go.AL
variable [Tabs]
theorem dc:∀{cs:List AV} {j:Nat} {c:AV},cs[j]?=some c→∀i∈ids c,i∈ids.idsL cs
 | [],j,c,h,_,_=>by simp at h
 | a ::r,0,c,h,i,hi=>by
  simp at h
  subst h
  simp [ids.idsL,hi]
 | a ::r,j+1,c,h,i,hi=>by
  simp only [ids.idsL,List.mem_append]
  exact Or.inr (dc (by simpa using h) i hi)
theorem eH (τ:Ty) (x:den τ):ids.idsL (cells τ x)=[]:=by
 cases τ with
 | st n=>cases n <;> rfl
 | _=>rfl
theorem zT (τ:Ty) (xs:List (den τ)):∀c∈aX τ xs,ids c=[]:=by
 intro c hc
 simp only [aX,List.mem_flatMap] at hc
 obtain ⟨x,_,hx⟩:=hc
 obtain ⟨j,hj⟩:=List.getElem?_of_mem hx
 cases hi:ids c with
 | nil=>rfl
 | cons a r=>
  have:=dc hj a (by rw [hi];simp)
  rw [eH] at this
  cases this
theorem lG {c:AV} {j:Nat} {c':AV} (hc:(aa c)[j]?=some c') (k:Nat) (hk:k∈ids c'):k∈ids c:=by
 cases c with
 | agg cs=>exact dc (cs:=cs) hc k hk
 | st n x=>
  have:=dc (cs:=cells (.st n) x) hc k hk
  rw [eH] at this
  cases this
 | row τ xs=>
  rw [zT τ xs c' (List.mem_of_getElem? hc)] at hk
  cases hk
 | _=>
  cases j with
  | zero=>simp [aa] at hc;subst hc;exact hk
  | succ j=>simp [aa] at hc
theorem V.agree {Ω:Om} {e':Nat→Option CObj} {a:AV} {v:Value} (h:V Ω a v):(∀i∈ids a,e' i=Ω.e i)→V ⟨e',Ω.w,Ω.pub⟩ a v:=by
 have tok:∀{o:Option Nat} {n:Nat} {v:Value},(∀i,o=some i→e' i=Ω.e i)→eX Ω o n v→eX ⟨e',Ω.w,Ω.pub⟩ o n v:=by
  intro o n v hi ht id hid
  obtain ⟨m,base,cap,h1,h2,h3⟩:=ht id hid
  exact ⟨m,base,cap,by simp only;rw [hi id hid,h1],h2,h3⟩
 induction h with
 | undef v=>exact fun _=>.undef v
 | int k n h1 h2=>exact fun _=>.int k n h1 h2
 | bool b=>exact fun _=>.bool b
 | str s h=>exact fun _=>.str s h
 | lstNil τ o ht=>exact fun hi=>.lstNil τ o (tok (fun i e=>hi i (by subst e;simp [ids])) ht)
 | lstVoid τ a=>exact fun _=>.lstVoid τ a
 | lst τ xs o b off cap vals h1 h2 h3 h4 h5 ih=>
  intro hi
  refine .lst τ xs o b off cap vals h1 h2 (tok (fun i e=>hi i (by subst e;simp [ids])) h3) h4 (fun i x hx j c hc=>ih i x hx j c hc (fun k hk=>?_))
  have:=dc hc k hk
  rw [eH] at this
  cases this
 | nils=>exact fun _=>.nils
 | ptr id off b o len hb=>exact fun hi=>.ptr id off b o len (by simp only;rw [hi id (by simp [ids]),hb])
 | ptNone n=>exact fun _=>.ptNone n
 | ptSome n x v _ ih=>exact fun _=>.ptSome n x v (ih (fun k hk=>by simp [ids] at hk))
 | arr id n w b len cap a he h1 h2 h3 h4=>exact fun hi=>.arr id n w b len cap a (by simp only;rw [hi id (by simp [ids]),he]) h1 h2 h3 h4
 | aptr id i w off b o len he=>exact fun hi=>.aptr id i w off b o len (by simp only;rw [hi id (by simp [ids]),he])
 | map id r he=>exact fun hi=>.map id r (by simp only;rw [hi id (by simp [ids]),he])
 | bptr id b g he=>exact fun hi=>.bptr id b g (by simp only;rw [hi id (by simp [ids]),he])
 | iface t a v _ ih=>exact fun hi=>.iface t a v (ih (fun k hk=>hi k (by simp only [ids];exact hk)))
 | nilif=>exact fun _=>.nilif
 | nilm=>exact fun _=>.nilm
 | lstp τ xs k b off cap vals h1 h2 h3 h4 h5 ih=>
  intro hi
  refine .lstp τ xs k b off cap vals h1 h2 (tok (fun i e=>hi i (by cases e;simp [ids])) h3) h4 (fun i x hx j c hc=>ih i x hx j c hc (fun k hk=>?_))
  have:=dc hc k hk
  rw [eH] at this
  cases this
 | tptr τ n k p hp=>
  intro hi
  obtain ⟨m,base,cap,h1,h2⟩:=hp
  exact .tptr τ n k p ⟨m,base,cap,by simp only;rw [hi k (by simp [ids]),h1],h2⟩
 | st n x v _ ih=>exact fun hi=>.st n x v (ih (fun k hk=>by
   have e:ids (.agg (cells (.st n) x))=[]:=eH (.st n) x
   rw [e] at hk
   cases hk))
 | cptr c b off vals h1 h2 ih=>exact fun hi=>.cptr c b off vals h1 (fun j c' hc=>ih j c' hc (fun k hk=>hi k (lG hc k hk)))
 | nilp=>exact fun _=>.nilp
 | agg cs vs hl _ ih=>exact fun hi=>.agg cs vs hl (fun j c v hc hv=>ih j c v hc hv (fun k hk=>hi k (by simp only [ids];exact dc hc k hk)))
 | tup cs vs hl _ ih=>exact fun hi=>.tup cs vs hl (fun j c v hc hv=>ih j c v hc hv (fun k hk=>hi k (by simp only [ids];exact dc hc k hk)))
 | fn f cs vs hl _ ih=>exact fun hi=>.fn f cs vs hl (fun j c v hc hv=>ih j c v hc hv (fun k hk=>hi k (by simp only [ids];exact dc hc k hk)))
theorem kR:∀(l:List (Nat × AV)) (i:Nat),aL l i=.undef∨(i,aL l i)∈l
 | [],i=>Or.inl rfl
 | (j,v) ::r,i=>by
  simp only [cN,cu]
  by_cases h:j=i
  ·subst h;simp
  ·simp only [beq_iff_eq,h,if_false]
   rcases kR r i with k | k
   ·exact Or.inl k
   ·exact Or.inr (List.mem_cons_of_mem _ k)
theorem cd:∀(l:List (Nat × SObj)) (i:Nat) (o:SObj),aj l i=some o→(i,o)∈l
 | [],i,o,h=>by simp [aH,aF] at h
 | (j,v) ::r,i,o,h=>by
  simp only [aH,aF] at h
  by_cases hj:j=i
  ·subst hj;simp at h;simp [h]
  ·simp only [beq_iff_eq,hj,if_false] at h
   exact List.mem_cons_of_mem _ (cd r i o h)
theorem gO:∀(l:List (Nat × SObj)) (i:Nat),aj l i=none→i∉l.map (·.1)
 | [],i,_=>by simp
 | (j,v) ::r,i,h=>by
  simp only [aH,aF] at h
  by_cases hj:j=i
  ·subst hj;simp at h
  ·simp only [beq_iff_eq,hj,if_false] at h
   have:=gO r i h
   simp only [List.map_cons,List.mem_cons,not_or]
   exact ⟨fun e=>hj e.symm,this⟩
theorem gn (l:List (Nat × AV)) (p:Nat→Bool) (i:Nat):aL (l.filter fun x=>p x.1) i=if p i then aL l i else .undef:=by
 induction l with
 | nil=>simp [cN,cu]
 | cons x r ih=>
  obtain ⟨j,v⟩:=x
  by_cases hp:p j=true
  ·rw [List.filter_cons_of_pos (by simpa using hp)]
   simp only [cN,cu,ih]
   by_cases hj:j=i
   ·subst hj;simp [hp]
   ·simp [hj]
  ·rw [List.filter_cons_of_neg (by simpa using hp),ih]
   by_cases hj:j=i
   ·subst hj;simp [hp]
   ·simp [cN,cu,hj]
theorem fa (l:List (Nat × SObj)) (p:Nat→Bool) (i:Nat):aj (l.filter fun x=>p x.1) i=if p i then aj l i else none:=by
 induction l with
 | nil=>simp [aH,aF]
 | cons x r ih=>
  obtain ⟨j,v⟩:=x
  by_cases hp:p j=true
  ·rw [List.filter_cons_of_pos (by simpa using hp)]
   simp only [aH,aF,ih]
   by_cases hj:j=i
   ·subst hj;simp [hp]
   ·simp [hj]
  ·rw [List.filter_cons_of_neg (by simpa using hp),ih]
   by_cases hj:j=i
   ·subst hj;simp [hp]
   ·simp [aH,aF,hj]
theorem Holds.forget0 {F:Fr} {s:AS} {s':St} {a:Act} {Ω:Om} {A:List Nat} (h:Holds F s a Ω) (hT:∀i,s'.abs.T i=.undef∨s'.abs.T i=s.T i)
  (hB:∀i,i∈A→s'.abs.B i=none) (hB':∀i,i∉A→s'.abs.B i=s.B i) (hn:cv A s'=true) (hA:∀i∈A,bc i=false) :
  Holds F s'.abs a ⟨fun i=>if i∈A then none else Ω.e i,Ω.w,Ω.pub⟩:=by
 have hn':(∀x∈s'.t,∀i∈ids x.2,i∉A)/\(∀x∈s'.b,∀i∈uI x.2,i∉A):=by
  simp only [cv,Bool.and_eq_true,List.all_eq_true] at hn
  exact ⟨fun x hx=>di (hn.1 x hx),fun x hx=>di (hn.2 x hx)⟩
 have he:∀i,i∉A→(fun i=>if i∈A then none else Ω.e i) i=Ω.e i:=fun i hi=>by simp [hi]
 refine ⟨fun i=>?_,h.size,h.defers,fun id o ho=>?_,fun id hid=>?_,fun i j ci cj b o hi hj hbi hbj=>?_,h.pubok,fun id c hc=>?_,?_⟩
 ·rcases kR s'.t i with k | k
  ·have:s'.abs.T i=.undef:=k
   rw [this]
   exact .undef _
  ·rcases hT i with hu | hu
   ·rw [hu];exact .undef _
   ·refine V.agree (Ω:=Ω) ?_ (fun j hj=>he j (hn'.1 _ k j hj))
    have:=h.tmps i
    rw [←hu] at this
    exact this
 ·have hid:id∉A:=fun hm=>by rw [hB id hm] at ho;cases ho
  have hs:=h.slots id o (by rw [←hB' id hid];exact ho)
  have hm:=hn'.2 _ (cd _ _ _ ho)
  cases o with
  | box c=>
   obtain ⟨b,off,h1,h2⟩:=hs
   refine ⟨b,off,by simp only [if_neg hid,h1],fun j c' hc=>?_⟩
   obtain ⟨k1,k2,k3,v,k4,k5⟩:=h2 j c' hc
   exact ⟨k1,k2,k3,v,k4,k5.agree (fun j hj=>he j (hm j (lG hc j hj)))⟩
  | tail τ n=>
   obtain ⟨base,cap,h1,h2⟩:=hs
   exact ⟨base,cap,by simp only [if_neg hid,h1],h2⟩
  | map κ τ m=>
   obtain ⟨r,h1,h2,es,clock,h3,h4⟩:=hs
   exact ⟨r,by simp only [if_neg hid,h1],h2,es,clock,h3,h4.data⟩
  | bld t u l=>
   obtain ⟨b,g,h1,h2,h3⟩:=hs
   exact ⟨b,g,by simp only [if_neg hid,h1],h2,h3⟩
  | tailp τ n x=>
   obtain ⟨b,cap,h1,h2,h3,h4,h5,h6,h7⟩:=hs
   refine ⟨b,cap,by simp only [if_neg hid,h1],h2,h3,h4,h5,h6,fun j c hc=>?_⟩
   obtain ⟨v,g1,g2⟩:=h7 j c hc
   refine ⟨v,g1,g2.agree (fun i hi=>?_)⟩
   have:=dc hc i hi
   rw [eH] at this
   cases this
 ·by_cases hA:id∈A
  ·simp [hA]
  ·simp only [if_neg hA]
   exact h.dom id (by rw [←hB' id hA];exact hid)
 ·by_cases hi':i∈A
  ·simp [hi'] at hi
  ·by_cases hj':j∈A
   ·simp [hj'] at hj
   ·simp only [if_neg hi'] at hi
    simp only [if_neg hj'] at hj
    exact h.inj i j ci cj b o hi hj hbi hbj
 ·have hl:=F.dom0 id c hc
  have hid:id∉A:=fun hm=>by rw [hA id hm] at hl;cases hl
  obtain ⟨c',h1,h2⟩:=h.keep id c hc
  exact ⟨c',by simp only [if_neg hid];exact h1,h2⟩
 ·exact ⟨h.frame.os,h.frame.tape,h.frame.output,h.frame.size,h.frame.block,h.frame.cell,h.frame.kind,h.frame.pub,h.frame.old,h.frame.pcell⟩
theorem Holds.forget {F:Fr} {s:AS} {s':St} {a:Act} {Ω:Om} {A:List Nat} (h:Holds F s a Ω) (hT:∀i,s'.abs.T i=.undef∨s'.abs.T i=s.T i)
  (hB:∀i,i∈A→s'.abs.B i=none) (hB':∀i,i∉A→s'.abs.B i=s.B i) (hn:cv A s'=true) (hA:∀i∈A,bc i=false) :
  ∃Ω',Ω'.w=Ω.w/\Holds F s'.abs a Ω':=⟨⟨fun i=>if i∈A then none else Ω.e i,Ω.w,Ω.pub⟩,rfl,h.forget0 hT hB hB' hn hA⟩
theorem CZ {A:List Nat} {i:Nat} (h:i∈A):¬((!A.contains i)=true):=by simp [h]
theorem BP {A:List Nat} {i:Nat} (h:i∉A):(!A.contains i)=true:=by simp [h]
theorem jc {F:Fr} {ops:List Oper} {s s':St} {a:Act} {Ω:Om} (h:Holds F s.abs a Ω) (he:enter ops s=some s') :
  ∃Ω',Ω'.w=Ω.w/\Holds F s'.abs a Ω':=by
 simp only [enter] at he
 generalize hA:((s.b.map (·.1)).filter fun i=>wL (nz ops) (qQ ops) i && !bc i)=A at he
 have hAl:∀i∈A,bc i=false:=by
  intro i hi
  rw [←hA] at hi
  simp only [List.mem_filter,Bool.and_eq_true,Bool.not_eq_true'] at hi
  exact hi.2.2
 split at he
 ·simp at he;subst he;exact ⟨Ω,rfl,h⟩
 ·split at he
  ·rename_i hn
   simp only [Xs] at he
   subst he
   refine h.forget (A:=A) (fun i=>?_) (fun i hi=>?_) (fun i hi=>?_) hn hAl
   ·have:=gn s.t (fun i=>!A.contains i) i
    simp only [St.abs]
    rw [this]
    split <;> simp
   ·have:=fa s.b (fun i=>!A.contains i) i
    simp only [St.abs]
    rw [this,if_neg (CZ hi)]
   ·have:=fa s.b (fun i=>!A.contains i) i
    simp only [St.abs]
    rw [this,if_pos (BP hi)]
  ·simp at he
theorem kS {G:List Nat}:∀{cs ds:List AV},LeL G cs ds→cs.length=ds.length/\∀(j:Nat) (c d:AV),cs[j]?=some c→ds[j]?=some d→LeV G c d
 | [],[],_=>⟨rfl,fun j c d h=>by simp at h⟩
 | [],_ ::_,h=>by simp [LeL] at h
 | _ ::_,[],h=>by simp [LeL] at h
 | a ::r,b ::s,h=>by
  simp only [LeL] at h
  obtain ⟨h1,h2⟩:=kS h.2
  refine ⟨by simp [h1],fun j c d hc hd=>?_⟩
  cases j with
  | zero=>simp at hc hd;subst hc hd;exact h.1
  | succ j=>exact h2 j c d (by simpa using hc) (by simpa using hd)
theorem jd {G:List Nat}:∀{cs ds:List AV},sh G cs ds→cs.length=ds.length/\∀(j:Nat) (c d:AV),cs[j]?=some c→ds[j]?=some d→LeF G c d
 | [],[],_=>⟨rfl,fun j c d h=>by simp at h⟩
 | [],_ ::_,h=>by simp [sh] at h
 | _ ::_,[],h=>by simp [sh] at h
 | a ::r,b ::s,h=>by
  simp only [sh] at h
  obtain ⟨h1,h2⟩:=jd h.2
  refine ⟨by simp [h1],fun j c d hc hd=>?_⟩
  cases j with
  | zero=>simp at hc hd;subst hc hd;exact h.1
  | succ j=>exact h2 j c d (by simpa using hc) (by simpa using hd)
theorem V.leF {Ω:Om} {G:List Nat} (hG:∀k∈G,Ω.e k=some (.tail 0 none 0)) {a:AV} {v:Value} (h:V Ω a v) {b:AV} (hb:LeF G a b):V Ω b v:=by
 cases b with
 | undef=>exact .undef v
 | int k n=>
  cases a <;> simp [LeF] at hb
  obtain ⟨rfl,rfl⟩:=hb
  exact h
 | bool b=>cases a <;> simp [LeF] at hb;subst hb;exact h
 | str b=>cases a <;> simp [LeF] at hb;subst hb;exact h
 | nilp=>cases a <;> simp [LeF] at hb;exact h
 | nilif=>cases a <;> simp [LeF] at hb;exact h
 | nilm=>cases a <;> simp [LeF] at hb;exact h
 | map i=>cases a <;> simp [LeF] at hb;subst hb;exact h
 | bptr i=>cases a <;> simp [LeF] at hb;subst hb;exact h
 | arr i n w=>cases a <;> simp [LeF] at hb;obtain ⟨⟨rfl,rfl⟩,rfl⟩:=hb;exact h
 | aptr i n w o=>cases a <;> simp [LeF] at hb;obtain ⟨⟨rfl,rfl,rfl⟩,rfl⟩:=hb;exact h
 | row τ xs=>cases h <;> simp [LeF] at hb
 | lstp τ xs k=>cases a <;> simp [LeF] at hb
 | tptr τ n k=>cases a <;> simp [LeF] at hb
 | iface t c=>cases a <;> simp [LeF] at hb
 | pt m y=>
  cases a with
  | pt n x=>
   simp only [LeF] at hb
   split at hb
   ·rename_i x' hx
    obtain ⟨e,e2⟩:=nI hx
    subst e
    simp only at e2
    subst e2
    subst hb
    exact h
   ·exact hb.elim
  | nilp=>
   simp [LeF] at hb
   subst hb
   cases h
   exact .ptNone m
  | _=>simp [LeF] at hb
 | nils=>cases a <;> simp [LeF] at hb;exact h
 | ptr i o=>cases a <;> simp [LeF] at hb;obtain ⟨rfl,rfl⟩:=hb;exact h
 | cptr c=>cases a <;> simp [LeF] at hb
 | agg c=>cases a <;> simp [LeF] at hb
 | tup c=>cases a <;> simp [LeF] at hb
 | fn f c=>cases a <;> simp [LeF] at hb
 | st m y=>
  cases a with
  | st n x=>
   simp only [LeF] at hb
   split at hb
   ·rename_i x' hx
    obtain ⟨e,e2⟩:=iY hx
    subst e
    simp only at e2
    subst e2
    subst hb
    exact h
   ·exact hb.elim
  | _=>simp [LeF] at hb
 | lst σ ys p=>
  cases a with
  | lst τ xs o=>
   simp only [LeF] at hb
   obtain ⟨k1,k2⟩:=hb
   have hp:∀id,p=some id→o=some id:=by
    intro id hid
    have:p=none∨p=o:=by
     rcases Classical.em (p=none∨p=o) with k | k
     ·exact k
     ·rw [if_neg k] at k2;exact k2.elim
    rcases this with k | k
    ·rw [k] at hid;cases hid
    ·rw [←k];exact hid
   split at k1
   ·rename_i xs' hx
    obtain ⟨e,e2⟩:=gK hx
    subst e
    simp only at e2
    subst e2
    subst k1
    cases h with
    | lstNil _ _ ht=>exact .lstNil _ p (fun id hid=>ht id (hp id hid))
    | lstVoid _ a=>
     cases p with
     | none=>exact .lstVoid _ a
     | some k=>exact absurd (hp k rfl) (by simp)
    | lst _ _ _ b' off cap vals h1 h2 h3 h4 h5=>exact .lst _ _ p b' off cap vals h1 h2 (fun id hid=>h3 id (hp id hid)) h4 h5
   ·exact k1.elim
  | nils=>
   simp only [LeF] at hb
   obtain ⟨h1,h2⟩:=hb
   subst h2
   cases h
   refine .lstNil σ p (fun id hid=>?_)
   subst hid
   simp only at h1
   have hk:id∈G:=by
    rcases Classical.em (G.contains id=true) with k | k
    ·simpa using k
    ·rw [if_neg k] at h1;exact h1.elim
   exact ⟨0,none,0,hG id hk,Nat.le_refl _,fun _=>rfl⟩
  | _=>simp [LeF] at hb
theorem bL {G:List Nat} {a b:AV} (h:LeF G a b):LeV G a b:=by
 cases a <;> cases b <;> first | exact h | exact h.elim
theorem sT {G:List Nat} {c d:AV} (h0:pS c d) (h:LeV G c d):(aa c).length=(aa d).length/\
  ∀(j:Nat) (c' d':AV),(aa c)[j]?=some c'→(aa d)[j]?=some d'→(c'=d'∨LeV G c' d'):=by
 have one:∀{c d:AV},aa c=[c]→aa d=[d]→LeV G c d→(aa c).length=(aa d).length/\
   ∀(j:Nat) (c' d':AV),(aa c)[j]?=some c'→(aa d)[j]?=some d'→(c'=d'∨LeV G c' d'):=by
  intro c d hc hd h
  rw [hc,hd]
  refine ⟨rfl,fun j c' d' h1 h2=>?_⟩
  cases j with
  | zero=>simp at h1 h2;subst h1 h2;exact Or.inr h
  | succ j=>simp at h1
 cases c with
 | agg cs=>
  cases d with
  | agg ds=>
   obtain ⟨l1,l2⟩:=kS (cs:=cs) (ds:=ds) h
   exact ⟨l1,fun j c' d' h1 h2=>Or.inr (l2 j c' d' h1 h2)⟩
  | st m y=>
   obtain ⟨l1,l2⟩:=jd (cs:=cs) (ds:=cells (.st m) y) h
   exact ⟨l1,fun j c' d' h1 h2=>Or.inr (bL (l2 j c' d' h1 h2))⟩
  | undef=>exact h0.elim
  | _=>exact h.elim
 | st n x=>
  cases d with
  | agg ds=>
   obtain ⟨l1,l2⟩:=jd (cs:=cells (.st n) x) (ds:=ds) h
   exact ⟨l1,fun j c' d' h1 h2=>Or.inr (bL (l2 j c' d' h1 h2))⟩
  | st m y=>
   have h':(match iO n m x with | some x=>x=y | none=>False):=h
   split at h'
   ·rename_i x' hx
    obtain ⟨e,e2⟩:=iY hx
    subst e
    simp only at e2
    subst e2
    subst h'
    exact ⟨rfl,fun j c' d' h1 h2=>Or.inl (by rw [h1] at h2;exact Option.some.inj h2)⟩
   ·exact h'.elim
  | undef=>exact h0.elim
  | _=>exact h.elim
 | row τ xs=>
  cases d with
  | row σ ys=>
   have h':(match eR τ σ xs with | some xs=>xs=ys | none=>False):=h
   split at h'
   ·rename_i x' hx
    obtain ⟨e,e2⟩:=gK hx
    subst e
    simp only at e2
    subst e2
    subst h'
    exact ⟨rfl,fun j c' d' h1 h2=>Or.inl (by rw [h1] at h2;exact Option.some.inj h2)⟩
   ·exact h'.elim
  | undef=>exact h0.elim
  | _=>exact h.elim
 | _=>
  cases d with
  | agg ds=>exact h.elim
  | st m y=>exact h.elim
  | row τ xs=>exact h.elim
  | _=>exact one rfl rfl h
theorem V.le {Ω:Om} {G:List Nat} (hG:∀k∈G,Ω.e k=some (.tail 0 none 0)) {a:AV} {v:Value} (h:V Ω a v):∀{b:AV},LeV G a b→V Ω b v:=by
 have part:∀{cs ds:List AV} {vs:List Value},cs.length=ds.length→(∀(j:Nat) (c:AV) (v:Value),cs[j]?=some c→vs[j]?=some v→∀{b:AV},LeV G c b→V Ω b v)→
   (∀(j:Nat) (c d:AV),cs[j]?=some c→ds[j]?=some d→LeV G c d)→∀(j:Nat) (d:AV) (v:Value),ds[j]?=some d→vs[j]?=some v→V Ω d v:=by
  intro cs ds vs hl ih l2 j d v hd hv
  have:j < cs.length:=by
   rw [hl]
   rcases Nat.lt_or_ge j ds.length with k | k
   ·exact k
   ·rw [List.getElem?_eq_none k] at hd;cases hd
  exact ih j _ v (List.getElem?_eq_getElem this) hv (l2 j _ d (List.getElem?_eq_getElem this) hd)
 induction h with
 | undef v=>intro b hb;exact (V.undef v).leF hG (by cases b <;> exact hb)
 | int k n h1 h2=>intro b hb;exact (V.int k n h1 h2).leF hG (by cases b <;> exact hb)
 | bool b'=>intro b hb;exact (V.bool b').leF hG (by cases b <;> exact hb)
 | str s h=>intro b hb;exact (V.str s h).leF hG (by cases b <;> exact hb)
 | lstNil τ o ht=>intro b hb;exact (V.lstNil τ o ht).leF hG (by cases b <;> exact hb)
 | lstVoid τ a=>intro b hb;exact (V.lstVoid τ a).leF hG (by cases b <;> exact hb)
 | lst τ xs o b' off cap vals h1 h2 h3 h4 h5 ih=>intro b hb;exact (V.lst τ xs o b' off cap vals h1 h2 h3 h4 h5).leF hG (by cases b <;> exact hb)
 | nils=>intro b hb;exact V.nils.leF hG (by cases b <;> exact hb)
 | ptr id off b' o len hb'=>intro b hb;exact (V.ptr id off b' o len hb').leF hG (by cases b <;> exact hb)
 | nilp=>intro b hb;exact V.nilp.leF hG (by cases b <;> exact hb)
 | ptNone n=>intro b hb;exact (V.ptNone n).leF hG (by cases b <;> exact hb)
 | ptSome n x v hv _=>intro b hb;exact (V.ptSome n x v hv).leF hG (by cases b <;> exact hb)
 | arr id n w b' len cap a he h1 h2 h3 h4=>intro b hb;exact (V.arr id n w b' len cap a he h1 h2 h3 h4).leF hG (by cases b <;> exact hb)
 | aptr id i w off b' o len he=>intro b hb;exact (V.aptr id i w off b' o len he).leF hG (by cases b <;> exact hb)
 | map id r he=>intro b hb;exact (V.map id r he).leF hG (by cases b <;> exact hb)
 | bptr id b' g he=>intro b hb;exact (V.bptr id b' g he).leF hG (by cases b <;> exact hb)
 | nilif=>intro b hb;exact V.nilif.leF hG (by cases b <;> exact hb)
 | nilm=>intro b hb;exact V.nilm.leF hG (by cases b <;> exact hb)
 | lstp τ xs k b' off cap vals h1 h2 h3 h4 h5 ih=>intro b hb;exact (V.lstp τ xs k b' off cap vals h1 h2 h3 h4 h5).leF hG (by cases b <;> exact hb)
 | tptr τ n k p hp=>intro b hb;exact (V.tptr τ n k p hp).leF hG (by cases b <;> exact hb)
 | iface t a v hv ih=>
  intro b hb
  cases b with
  | iface u d=>
   simp only [LeV] at hb
   obtain ⟨h0,hb⟩:=hb
   have htu:t=u:=by
    rcases Classical.em (t=u) with k | k
    ·exact k
    ·rw [if_neg k] at h0;exact h0.elim
   subst htu
   exact .iface t d v (ih hb)
  | undef=>exact .undef _
  | _=>exact hb.elim
 | st n x v hv ih=>
  intro b hb
  cases b with
  | agg ds=>
   obtain ⟨vs,rfl,hvl⟩:=hv.agg_inv
   obtain ⟨l1,l2⟩:=jd (cs:=cells (.st n) x) (ds:=ds) hb
   refine .agg ds vs (by rw [←l1,hvl.1]) (fun j d u hd hu=>?_)
   have:j < (cells (.st n) x).length:=by
    rw [l1]
    rcases Nat.lt_or_ge j ds.length with k | k
    ·exact k
    ·rw [List.getElem?_eq_none k] at hd;cases hd
   exact (hvl.2 j _ u (List.getElem?_eq_getElem this) hu).leF hG (l2 j _ d (List.getElem?_eq_getElem this) hd)
  | _=>exact (V.st n x v hv).leF hG hb
 | cptr c b' off vals h1 h2 ih=>
  intro b hb
  cases b with
  | cptr d=>
   simp only [LeV] at hb
   obtain ⟨l1,l2⟩:=sT hb.1 hb.2
   have hc:∀(j:Nat) (d':AV),(aa d)[j]?=some d'→∃c',(aa c)[j]?=some c':=by
    intro j d' hd
    have:j < (aa c).length:=by
     rw [l1]
     rcases Nat.lt_or_ge j (aa d).length with k | k
     ·exact k
     ·rw [List.getElem?_eq_none k] at hd;cases hd
    exact ⟨_,List.getElem?_eq_getElem this⟩
   refine .cptr d b' off vals (fun j d' hd=>?_) (fun j d' hd=>?_)
   ·obtain ⟨c',hcj⟩:=hc j d' hd
    exact h1 j c' hcj
   ·obtain ⟨c',hcj⟩:=hc j d' hd
    rcases l2 j c' d' hcj hd with rfl | k
    ·exact h2 j c' hcj
    ·exact ih j c' hcj k
  | pt m y=>
   cases c with
   | st n x=>
    have hb':(match iO n m x with | some x=>some x=y | none=>False):=hb
    split at hb'
    ·rename_i x' hx
     obtain ⟨e,e2⟩:=iY hx
     subst e
     simp only at e2
     subst e2
     subst hb'
     exact .ptSome _ _ _ (.cptr _ b' off vals h1 h2)
    ·exact hb'.elim
   | _=>exact hb.elim
  | undef=>exact .undef _
  | _=>exact hb.elim
 | agg cs vs hl hv ih=>
  intro b hb
  cases b with
  | agg ds=>
   obtain ⟨l1,l2⟩:=kS (cs:=cs) (ds:=ds) hb
   exact .agg ds vs (by rw [←l1,hl]) (part l1 ih l2)
  | st m y=>
   obtain ⟨l1,l2⟩:=jd (cs:=cs) (ds:=cells (.st m) y) hb
   exact .st m y _ (.agg _ vs (by rw [←l1,hl]) (part l1 ih (fun j c d h1 h2=>bL (l2 j c d h1 h2))))
  | undef=>exact .undef _
  | _=>exact hb.elim
 | tup cs vs hl hv ih=>
  intro b hb
  cases b with
  | tup ds=>
   obtain ⟨l1,l2⟩:=kS (cs:=cs) (ds:=ds) hb
   exact .tup ds vs (by rw [←l1,hl]) (part l1 ih l2)
  | undef=>exact .undef _
  | _=>exact hb.elim
 | fn f cs vs hl hv ih=>
  intro b hb
  cases b with
  | fn g ds=>
   simp only [LeV] at hb
   obtain ⟨h0,hb⟩:=hb
   have hfg:f=g:=by
    rcases Classical.em (f=g) with k | k
    ·exact k
    ·rw [if_neg k] at h0;exact h0.elim
   subst hfg
   obtain ⟨l1,l2⟩:=kS hb
   exact .fn f ds vs (by rw [←l1,hl]) (part l1 ih l2)
  | undef=>exact .undef _
  | _=>exact hb.elim
theorem zU {G:List Nat} {s:St}:∀{l:List (Nat × AV)},LeT G s l→∀i,aL l i=.undef∨LeV G (aL s.t i) (aL l i)
 | [],_,i=>Or.inl rfl
 | (j,v) ::r,h,i=>by
  simp only [LeT] at h
  simp only [cN,cu]
  by_cases hj:j=i
  ·subst hj;simp [h.1]
  ·simp only [beq_iff_eq,hj,if_false]
   exact zU h.2 i
theorem nZ {G:List Nat} {s:St}:∀{l:List (Nat × SObj)},LeB G s l→∀i o,aj l i=some o→
  (∃c d,o=.box d/\aj s.b i=some (.box c)/\pS c d/\LeV G c d)∨
  (∃τ n,o=.tail τ n/\(aj s.b i=some (.tail τ n)∨(aj s.b i=none/\n=0)))∨
  (∃κ τ m,o=.map κ τ m/\aj s.b i=some (.map κ τ m))∨
  (∃t u l,o=.bld t u l/\aj s.b i=some (.bld t u l))
 | [],_,i,o,ho=>by simp [aH,aF] at ho
 | (j,.box d) ::r,h,i,o,ho=>by
  simp only [LeB] at h
  simp only [aH,aF] at ho
  by_cases hj:j=i
  ·subst hj
   simp at ho
   subst ho
   have h1:=h.1
   split at h1
   ·rename_i c hc
    exact Or.inl ⟨c,d,rfl,hc,h1⟩
   ·exact h1.elim
  ·simp only [beq_iff_eq,hj,if_false] at ho
   exact nZ h.2 i o ho
 | (j,.bld t u l) ::r,h,i,o,ho=>by
  simp only [LeB] at h
  simp only [aH,aF] at ho
  by_cases hj:j=i
  ·subst hj
   simp at ho
   subst ho
   have h1:=h.1
   split at h1
   ·rename_i t' u' l' hm
    split at h1
    ·rename_i e
     obtain ⟨rfl,rfl⟩:=e
     subst h1
     exact Or.inr (Or.inr (Or.inr ⟨_,_,_,rfl,hm⟩))
    ·exact h1.elim
   ·exact h1.elim
  ·simp only [beq_iff_eq,hj,if_false] at ho
   exact nZ h.2 i o ho
 | (j,.map κ τ m) ::r,h,i,o,ho=>by
  simp only [LeB] at h
  simp only [aH,aF] at ho
  by_cases hj:j=i
  ·subst hj
   simp at ho
   subst ho
   have h1:=h.1
   split at h1
   ·rename_i κ' τ' m' hm
    split at h1
    ·rename_i m2 hc
     unfold wM at hc
     split at hc
     ·rename_i e
      obtain ⟨rfl,rfl⟩:=e
      simp at hc
      subst hc
      subst h1
      exact Or.inr (Or.inr (Or.inl ⟨_,_,_,rfl,hm⟩))
     ·cases hc
    ·exact h1.elim
   ·exact h1.elim
  ·simp only [beq_iff_eq,hj,if_false] at ho
   exact nZ h.2 i o ho
 | (j,.tail τ n) ::r,h,i,o,ho=>by
  simp only [LeB] at h
  simp only [aH,aF] at ho
  by_cases hj:j=i
  ·subst hj
   simp at ho
   subst ho
   have h1:=h.1
   split at h1
   ·rename_i σ m hm
    split at h1
    ·rename_i e
     subst e
     subst h1
     exact Or.inr (Or.inl ⟨_,_,rfl,Or.inl hm⟩)
    ·exact h1.elim
   ·rename_i hm
    exact Or.inr (Or.inl ⟨τ,n,rfl,Or.inr ⟨hm,h1⟩⟩)
   ·exact h1.elim
  ·simp only [beq_iff_eq,hj,if_false] at ho
   exact nZ h.2 i o ho
theorem Holds.begin {F:Fr} {s:AS} {a:Act} {Ω:Om} (h:Holds F s a Ω) (G:List Nat) (hG:∀k∈G,s.B k=none) (ty:Nat→Ty) :
  ∃Ω',Ω'.w=Ω.w/\Holds F ⟨s.T,fun i=>if i∈G then some (.tail (ty i) 0) else s.B i⟩ a Ω'/\∀k∈G,Ω'.e k=some (.tail 0 none 0):=by
 have hx:Ext Ω ⟨fun i=>if i∈G then some (.tail 0 none 0) else Ω.e i,Ω.w,Ω.pub⟩:=by
  refine ⟨fun id c hc=>⟨c,?_,CLe.refl c⟩,fun _ _ p=>p,fun _ _ _=>rfl⟩
  have:id∉G:=fun hm=>by rw [h.dom id (hG id hm)] at hc;cases hc
  simp [this,hc]
 refine ⟨⟨fun i=>if i∈G then some (.tail 0 none 0) else Ω.e i,Ω.w,Ω.pub⟩,rfl,⟨fun i=>(h.tmps i).ext hx,h.size,h.defers,fun id o ho=>?_,fun id hid=>?_,fun i j ci cj b o hi hj hbi hbj=>?_,h.pubok,fun id c hc=>let ⟨c1,h1,l1⟩:=h.keep id c hc;let ⟨c2,h2,l2⟩:=hx.e id c1 h1;⟨c2,h2,l1.trans l2⟩,?_⟩,fun k hk=>by simp [hk]⟩
 ·by_cases hm:id∈G
  ·simp only [if_pos hm,Xs] at ho
   subst ho
   exact ⟨none,0,by simp [hm],Nat.le_refl _,by unfold bn;omega,fun _=>rfl,fun b hb=>by simp at hb⟩
  ·simp only [if_neg hm] at ho
   exact (h.slots id o ho).keep hx (by simp [hm]) (fun _ _=>kH.of_blocks fun _ _ _=>⟨rfl,fun _ p=>p⟩)
 ·by_cases hm:id∈G
  ·simp [hm] at hid
  ·simp only [if_neg hm] at hid ⊢
   exact h.dom id hid
 ·by_cases hi':i∈G
  ·simp only [if_pos hi',Xs] at hi
   subst hi
   cases hbi
  ·by_cases hj':j∈G
   ·simp only [if_pos hj',Xs] at hj
    subst hj
    cases hbj
   ·simp only [if_neg hi'] at hi
    simp only [if_neg hj'] at hj
    exact h.inj i j ci cj b o hi hj hbi hbj
 ·exact ⟨h.frame.os,h.frame.tape,h.frame.output,h.frame.size,h.frame.block,h.frame.cell,h.frame.kind,h.frame.pub,h.frame.old,h.frame.pcell⟩
theorem cn {b:Bool} {k:Prop} (h:chk b k):b=true/\k:=by
 cases b with
 | true=>exact ⟨rfl,h⟩
 | false=>exact h.elim
theorem wX {G:List Nat} {a b:AV} {k:Prop} (h:cF G a b k):LeF G a b/\k:=by
 unfold cF at h
 split at h
 ·exact ⟨by cases a <;> trivial,h⟩
 ·obtain ⟨h1,h2,h3⟩:=cn h
  simp only [decide_eq_true_eq] at h1
  exact ⟨by simp only [LeF,h1,if_true];exact h2,h3⟩
 ·exact h
 ·exact h
 ·split at h
  ·rename_i hc
   obtain ⟨h1,h2,h3⟩:=cn h
   simp only [decide_eq_true_eq] at h1
   exact ⟨by simp only [LeF,hc];exact ⟨h2,by rw [if_pos h1];trivial⟩,h3⟩
  ·exact h.elim
 ·split at h
  ·exact ⟨by simp only [LeF];exact ⟨trivial,h.1⟩,h.2⟩
  ·obtain ⟨h1,h2,h3⟩:=cn h
   exact ⟨by simp only [LeF,h1,if_true];exact ⟨trivial,h2⟩,h3⟩
 ·exact ⟨trivial,h⟩
 ·exact ⟨trivial,h⟩
 ·obtain ⟨h1,h2⟩:=cn h
  simp only [decide_eq_true_eq] at h1
  exact ⟨by simp only [LeF];rw [if_pos h1];trivial,h2⟩
 ·split at h
  ·rename_i hc
   exact ⟨by simp only [LeF,hc];exact h.1,h.2⟩
  ·exact h.elim
 ·split at h
  ·rename_i hc
   exact ⟨by simp only [LeF,hc];exact h.1,h.2⟩
  ·exact h.elim
 ·obtain ⟨h1,h2,h3⟩:=cn h
  simp only [decide_eq_true_eq] at h1
  exact ⟨by simp only [LeF];rw [if_pos h1];exact h2,h3⟩
 ·obtain ⟨h1,h2,h3⟩:=cn h
  simp only [decide_eq_true_eq] at h1
  exact ⟨by simp only [LeF];rw [if_pos h1];exact h2,h3⟩
 ·obtain ⟨h1,h2⟩:=cn h
  simp only [decide_eq_true_eq] at h1
  exact ⟨by simp only [LeF];rw [if_pos h1];trivial,h2⟩
 ·obtain ⟨h1,h2⟩:=cn h
  simp only [decide_eq_true_eq] at h1
  exact ⟨by simp only [LeF];rw [if_pos h1];trivial,h2⟩
 ·split at h
  ·rename_i hc
   exact ⟨by simp only [LeF,hc];exact h.1,h.2⟩
  ·exact h.elim
 ·exact ⟨by simp only [LeF];exact h.1,h.2⟩
 ·exact ⟨trivial,h⟩
 ·exact ⟨trivial,h⟩
 ·exact h.elim
theorem o6 {G:List Nat} {k:Prop}:∀{cs ds:List AV},cFs G cs ds k→sh G cs ds/\k
 | [],[],h=>⟨trivial,h⟩
 | a ::r,b ::s,h=>let ⟨h1,h2⟩:=wX (k:=cFs G r s k) h;let ⟨h3,h4⟩:=o6 h2;⟨⟨h1,h3⟩,h4⟩
 | [],_ ::_,h=>h.elim
 | _ ::_,[],h=>h.elim
theorem mr {c d:AV} (h:qS c d=true):pS c d:=by
 cases c <;> cases d <;> first | trivial | (simp [qS] at h)
mutual
theorem cV_spec {G:List Nat}:∀{a b:AV} {k:Prop},cV G a b k→LeV G a b/\k:=by
 intro a b k h
 unfold cV at h
 split at h
 ·rename_i c d
  obtain ⟨h1,h2⟩:=cn h
  obtain ⟨h3,h4⟩:=cV_spec (a:=c) (b:=d) h2
  exact ⟨by simp only [LeV];exact ⟨mr h1,h3⟩,h4⟩
 ·split at h
  ·rename_i hc
   exact ⟨by simp only [LeV,hc];exact h.1,h.2⟩
  ·exact h.elim
 ·rename_i t a u b
  obtain ⟨h1,h2⟩:=cn h
  obtain ⟨h3,h4⟩:=cV_spec (a:=a) (b:=b) h2
  exact ⟨by simp only [LeV];exact ⟨by rw [if_pos (Nat.eq_of_beq_eq_true h1)];trivial,h3⟩,h4⟩
 ·obtain ⟨h1,h2⟩:=o6 h
  exact ⟨by simp only [LeV];exact h1,h2⟩
 ·obtain ⟨h1,h2⟩:=o6 h
  exact ⟨by simp only [LeV];exact h1,h2⟩
 ·rename_i cs ds
  obtain ⟨h1,h2⟩:=cL_spec (cs:=cs) (ds:=ds) h
  exact ⟨by simp only [LeV];exact h1,h2⟩
 ·rename_i cs ds
  obtain ⟨h1,h2⟩:=cL_spec (cs:=cs) (ds:=ds) h
  exact ⟨by simp only [LeV];exact h1,h2⟩
 ·rename_i f cs g ds
  obtain ⟨h0,h⟩:=cn h
  obtain ⟨h1,h2⟩:=cL_spec (cs:=cs) (ds:=ds) h
  exact ⟨by simp only [LeV];exact ⟨by rw [if_pos (Nat.eq_of_beq_eq_true h0)];trivial,h1⟩,h2⟩
 ·obtain ⟨h1,h2⟩:=wX h
  exact ⟨bL h1,h2⟩
theorem cL_spec {G:List Nat}:∀{cs ds:List AV} {k:Prop},cL G cs ds k→LeL G cs ds/\k
 | [],[],k,h=>by simp only [cL] at h;exact ⟨by simp only [LeL],h⟩
 | a ::r,b ::s,k,h=>by
  simp only [cL] at h
  obtain ⟨h1,h2⟩:=cV_spec (a:=a) (b:=b) h
  obtain ⟨h3,h4⟩:=cL_spec (cs:=r) (ds:=s) h2
  exact ⟨by simp only [LeL];exact ⟨h1,h3⟩,h4⟩
 | [],_ ::_,k,h=>by simp only [cL] at h
 | _ ::_,[],k,h=>by simp only [cL] at h
end
theorem wY {G:List Nat} {s:St}:∀{l:List (Nat × AV)} {k:Prop},cT G s l k→LeT G s l/\k
 | [],k,h=>⟨trivial,h⟩
 | (i,a) ::r,k,h=>let ⟨h1,h2⟩:=cV_spec (k:=cT G s r k) h;let ⟨h3,h4⟩:=wY h2;⟨⟨h1,h3⟩,h4⟩
theorem jG {G:List Nat} {s:St}:∀{l:List (Nat × SObj)},cB G s l→LeB G s l
 | [],_=>trivial
 | (i,.box d) ::r,h=>by
  simp only [cB] at h
  simp only [LeB]
  split at h
  ·rename_i c hc
   obtain ⟨h1,h2⟩:=cn h
   obtain ⟨h3,h4⟩:=cV_spec h2
   exact ⟨⟨mr h1,h3⟩,jG h4⟩
  ·exact h.elim
 | (i,.tail τ n) ::r,h=>by
  simp only [cB] at h
  simp only [LeB]
  split at h
  ·rename_i σ m hc
   obtain ⟨h1,h2,h3⟩:=cn h
   simp only [decide_eq_true_eq] at h1
   exact ⟨by rw [if_pos h1];exact h2,jG h3⟩
  ·exact ⟨h.1,jG h.2⟩
  ·exact h.elim
 | (i,.bld t u l) ::r,h=>by
  simp only [cB] at h
  simp only [LeB]
  split at h
  ·rename_i t' u' l' hc
   obtain ⟨h1,h2,h3⟩:=cn h
   simp only [decide_eq_true_eq] at h1
   exact ⟨by rw [if_pos h1];exact h2,jG h3⟩
  ·exact h.elim
 | (i,.map κ τ m) ::r,h=>by
  simp only [cB] at h
  simp only [LeB]
  split at h
  ·rename_i κ' τ' m' hc
   split at h
   ·exact ⟨h.1,jG h.2⟩
   ·exact h.elim
  ·exact h.elim
theorem fv {s s':St} (h:cS s s'):LeS s s':=by
 unfold cS at h
 obtain ⟨h1,h2⟩:=cn h
 obtain ⟨h3,h4⟩:=wY h2
 exact ⟨by rw [if_pos h1];trivial,h3,jG h4⟩
def BQ:Option SObj→Ty
 | some (.tail τ _)=>τ
 | _=>.bool
theorem cR {F:Fr} {s s':St} {a:Act} {Ω:Om} (h:Holds F s.abs a Ω) (hle:LeS s s'):∃Ω',Ω'.w=Ω.w/\Holds F s'.abs a Ω':=by
 obtain ⟨h0,h1,h2⟩:=hle
 have hn2:(cv ((aD s.b).filter fun i=>!(aD s'.b).contains i) s' && ((aD s.b).filter fun i=>!(aD s'.b).contains i).all (fun i=>!bc i))=true:=by
  rcases Classical.em ((cv ((aD s.b).filter fun i=>!(aD s'.b).contains i) s' && ((aD s.b).filter fun i=>!(aD s'.b).contains i).all (fun i=>!bc i))=true) with k | k
  ·exact k
  ·rw [if_neg k] at h0;exact h0.elim
 obtain ⟨hn,hnl⟩:=Bool.and_eq_true_iff.1 hn2
 have hGs:∀k,k∈dE s s'↔(k∈aD s'.b/\aj s.b k=none):=by
  intro k
  simp [dE]
 obtain ⟨Ω1,e1,h1',hg⟩:=h.begin (dE s s') (fun k hk=>((hGs k).1 hk).2) (fun i=>BQ (aj s'.b i))
 have hmid:Holds F ⟨s'.abs.T,fun i=>match aj s'.b i with | some o=>some o | none=>if i∈dE s s' then some (.tail (BQ (aj s'.b i)) 0) else s.abs.B i⟩ a Ω1:=by
  refine ⟨fun i=>?_,h1'.size,h1'.defers,fun id o ho=>?_,fun id hid=>?_,h1'.inj,h1'.pubok,h1'.keep,h1'.frame⟩
  ·rcases zU h1 i with k | k
   ·have:s'.abs.T i=.undef:=k
    rw [this]
    exact .undef _
   ·exact (h1'.tmps i).le hg k
  ·simp only at ho
   cases hb:aj s'.b id with
   | none=>
    rw [hb] at ho
    simp only at ho
    refine h1'.slots id o ?_
    simp only [hb]
    exact ho
   | some o'=>
    rw [hb] at ho
    simp at ho
    subst ho
    rcases nZ h2 id o' hb with ⟨c,d,rfl,hcs,hl0,hl⟩ | ⟨τ,n,rfl,hcs⟩ | ⟨κ,τ,m,rfl,hcs⟩ | ⟨t,u,l,rfl,hcs⟩
    ·have hng:id∉dE s s':=fun hm=>by rw [((hGs id).1 hm).2] at hcs;cases hcs
     obtain ⟨b,off,k1,k2⟩:=h1'.slots id (.box c) (by simp only [if_neg hng];exact hcs)
     obtain ⟨l1,l2⟩:=sT hl0 hl
     refine ⟨b,off,by rw [←l1];exact k1,fun j d' hd=>?_⟩
     have hj:j < (aa c).length:=by
      rw [l1]
      rcases Nat.lt_or_ge j (aa d).length with k | k
      ·exact k
      ·rw [List.getElem?_eq_none k] at hd;cases hd
     obtain ⟨m1,m2,m3,v,m4,m5⟩:=k2 j _ (List.getElem?_eq_getElem hj)
     refine ⟨m1,m2,m3,v,m4,?_⟩
     rcases l2 j _ d' (List.getElem?_eq_getElem hj) hd with e | k
     ·rw [←e];exact m5
     ·exact m5.le hg k
    ·rcases hcs with hcs | ⟨hcs,rfl⟩
     ·have hng:id∉dE s s':=fun hm=>by rw [((hGs id).1 hm).2] at hcs;cases hcs
      exact h1'.slots id (.tail τ n) (by simp only [if_neg hng];exact hcs)
     ·have hin:id∈dE s s':=(hGs id).2 ⟨List.mem_map.2 ⟨(id,.tail τ 0),cd _ _ _ hb,rfl⟩,hcs⟩
      have:=h1'.slots id (.tail τ 0) (by simp only [if_pos hin,hb,BQ])
      exact this
    ·have hng:id∉dE s s':=fun hm=>by rw [((hGs id).1 hm).2] at hcs;cases hcs
     exact h1'.slots id (.map κ τ m) (by simp only [if_neg hng];exact hcs)
    ·have hng:id∉dE s s':=fun hm=>by rw [((hGs id).1 hm).2] at hcs;cases hcs
     exact h1'.slots id (.bld t u l) (by simp only [if_neg hng];exact hcs)
  ·refine h1'.dom id ?_
   simp only at hid ⊢
   cases hb:aj s'.b id with
   | none=>rw [hb] at hid;simpa [hb] using hid
   | some o'=>rw [hb] at hid;simp at hid
 have f1:∀i,i∈((aD s.b).filter fun i=>!(aD s'.b).contains i)→s'.abs.B i=none:=by
  intro i hi
  simp at hi
  cases hb:aj s'.b i with
  | none=>exact hb
  | some o=>exact absurd (List.mem_map.2 ⟨(i,o),cd _ _ _ hb,rfl⟩) hi.2
 have f2:∀i,i∉((aD s.b).filter fun i=>!(aD s'.b).contains i)→
   s'.abs.B i=(match aj s'.b i with | some o=>some o | none=>if i∈dE s s' then some (.tail (BQ (aj s'.b i)) 0) else s.abs.B i):=by
  intro i hi
  simp only [St.abs]
  cases hb:aj s'.b i with
  | some o=>rfl
  | none=>
   have hk:i∉aD s'.b:=gO _ _ hb
   have hng:i∉dE s s':=fun hm=>hk ((hGs i).1 hm).1
   simp only [if_neg hng]
   cases hsb:aj s.b i with
   | none=>rfl
   | some o=>
    exfalso
    apply hi
    simp only [List.mem_filter,Bool.not_eq_true',List.contains_eq_mem,decide_eq_false_iff_not]
    exact ⟨List.mem_map.2 ⟨(i,o),cd _ _ _ hsb,rfl⟩,hk⟩
 obtain ⟨Ω2,e2,h2'⟩:=hmid.forget (s':=s') (fun i=>Or.inr rfl) f1 f2 hn (fun i hi=>by
  have:=List.all_eq_true.1 hnl i hi
  simpa using this)
 exact ⟨Ω2,e2.trans e1,h2'⟩
end Go.AL
end
noncomputable section
namespace Go.AL
variable [Tabs]
section
variable {id:Nat} {c:AV}
theorem lH:∀(l:List AV) (j:Nat),(pubVs id c l)[j]?=(l[j]?).map (pubV id c)
 | [],j=>by simp [pubVs]
 | a ::r,0=>by simp [pubVs]
 | a ::r,j+1=>by simp only [pubVs,List.getElem?_cons_succ];exact lH r j
theorem iy:∀l:List AV,(pubVs id c l).length=l.length
 | []=>rfl
 | a ::r=>by simp [pubVs,iy r]
theorem o7 (τ:Ty) (x:den τ):∀d∈cells τ x,pubV id c d=d:=by
 cases τ with
 | st n=>cases n <;> simp [cells,cJ,fA,dI,ek,eo,ep,cw,ew,gz,fB,fC,fD,gA,gB,fM,fE,ju,ez,gC,fq,gD,gE,fF,dC,fG,eA,gF,pubV]
 | _=>simp [cells,pubV]
theorem xU (τ:Ty) (xs:List (den τ)):∀d∈aX τ xs,pubV id c d=d:=by
 intro d hd
 simp only [aX,List.mem_flatMap] at hd
 obtain ⟨x,_,hx⟩:=hd
 exact o7 τ x d hx
theorem o8 (d:AV):(aa (pubV id c d)).length=(aa d).length/\∀(j:Nat) (a:AV),(aa d)[j]?=some a→(aa (pubV id c d))[j]?=some (pubV id c a):=by
 have one:∀{d:AV},aa d=[d]→aa (pubV id c d)=[pubV id c d]→(aa (pubV id c d)).length=(aa d).length/\
   ∀(j:Nat) (a:AV),(aa d)[j]?=some a→(aa (pubV id c d))[j]?=some (pubV id c a):=by
  intro d h1 h2
  rw [h1,h2]
  refine ⟨rfl,fun j a ha=>?_⟩
  cases j with
  | zero=>simp at ha;subst ha;rfl
  | succ j=>simp at ha
 cases d with
 | agg cs=>exact ⟨iy cs,fun j a ha=>by show (pubVs id c cs)[j]?=_;rw [lH];have:cs[j]?=some a:=ha;rw [this];rfl⟩
 | st n x=>exact ⟨rfl,fun j a ha=>by show (cells (.st n) x)[j]?=_;rw [o7 (.st n) x a (List.mem_of_getElem? ha)];exact ha⟩
 | row τ xs=>exact ⟨rfl,fun j a ha=>by show (aX τ xs)[j]?=_;rw [xU τ xs a (List.mem_of_getElem? ha)];exact ha⟩
 | ptr i o=>
  refine one rfl ?_
  cases o with
  | zero=>simp only [pubV];split <;> rfl
  | succ o=>rfl
 | arr i n w=>
  refine one rfl ?_
  simp only [pubV]
  split
  ·split
   ·split <;> rfl
   ·rfl
  ·rfl
 | _=>exact one rfl rfl
structure Fast (Ω:Om) (id:Nat) (c:AV) (b off:Nat) (vals:Nat→Value):Prop where
 e:Ω.e id=some (.box b off (aa c).length)
 at_:∀(j:Nat) (c':AV),(aa c)[j]?=some c'→Ω.pub b (off+j)/\Ω.w.cell? ⟨b,off+j,none⟩=some (vals j)/\V Ω c' (vals j)
theorem V.pubV {Ω:Om} {b off:Nat} {vals:Nat→Value} (hf:Fast Ω id c b off vals) {a:AV} {v:Value} (h:V Ω a v):V Ω (AL.pubV id c a) v:=by
 have many:∀{cs:List AV} {vs:List Value},cs.length=vs.length→(∀(j:Nat) (d:AV) (v:Value),cs[j]?=some d→vs[j]?=some v→V Ω (AL.pubV id c d) v)→
   (pubVs id c cs).length=vs.length/\∀(j:Nat) (d:AV) (v:Value),(pubVs id c cs)[j]?=some d→vs[j]?=some v→V Ω d v:=by
  intro cs vs hl ih
  refine ⟨by rw [iy,hl],fun j d v hd hv=>?_⟩
  rw [lH] at hd
  simp only [Option.map_eq_some_iff] at hd
  obtain ⟨d0,hd0,rfl⟩:=hd
  exact ih j d0 v hd0 hv
 induction h with
 | ptr i o b' p len he=>
  cases o with
  | succ o=>exact .ptr i (o+1) b' p len he
  | zero=>
   simp only [AL.pubV]
   split
   ·rename_i hi
    subst hi
    rw [hf.e] at he
    simp at he
    obtain ⟨rfl,rfl,rfl⟩:=he
    exact .cptr c b off vals (fun j c' hc=>⟨(hf.at_ j c' hc).1,(hf.at_ j c' hc).2.1⟩) (fun j c' hc=>(hf.at_ j c' hc).2.2)
   ·exact .ptr i 0 b' p len he
 | arr i n w b' len cap a he h1 h2 h3 h4=>
  simp only [AL.pubV]
  split
  ·rename_i hi
   split
   ·rename_i τ xs
    split
    ·rename_i hw
     subst hi hw
     have hfe:=hf.e
     rw [hfe] at he
     simp only [Xs,CObj.box.injEq] at he
     obtain ⟨rfl,rfl,rfl⟩:=he
     have hn:n<=xs.length:=by
      have:(aa (.row τ xs)).length=xs.length *ae τ:=bh τ xs
      rw [this] at h1
      exact Nat.le_of_mul_le_mul_right h1 (gJ τ)
     rcases h4 with rfl | ⟨rfl,rfl,rfl⟩
     ·have hl:(xs.take n).length=n:=by simp;omega
      have hx':∀{i:Nat} {x:den τ},(xs.take n)[i]?=some x→xs[i]?=some x:=by
       intro i x hx
       rw [List.getElem?_take] at hx
       split at hx
       ·exact hx
       ·cases hx
      have:=V.lst (Ω:=Ω) τ (xs.take n) none b 0 cap (fun i j=>vals (i *ae τ+j)) (by omega) h3 (fun id hid=>by simp at hid) (fun i x hx j c' hc=>by
       have:=hf.at_ _ c' (fP τ xs i x j c' (hx' hx) hc)
       exact ⟨this.1,this.2.1⟩) (fun i x hx j c' hc=>(hf.at_ _ c' (fP τ xs i x j c' (hx' hx) hc)).2.2)
      rw [hl] at this
      exact this
     ·simp only [List.take_zero]
      exact .lstNil τ none (fun id hid=>by simp at hid)
    ·exact .arr i n w b' len cap a he h1 h2 h3 h4
   ·exact .arr i n w b' len cap a he h1 h2 h3 h4
  ·exact .arr i n w b' len cap a he h1 h2 h3 h4
 | cptr d b' o vs h1 h2 ih=>
  obtain ⟨p1,p2⟩:=o8 (id:=id) (c:=c) d
  have back:∀(j:Nat) (d':AV),(aa (AL.pubV id c d))[j]?=some d'→∃d0,(aa d)[j]?=some d0/\d'=AL.pubV id c d0:=by
   intro j d' hd'
   have hj:j < (aa d).length:=by
    rw [←p1]
    rcases Nat.lt_or_ge j (aa (AL.pubV id c d)).length with k | k
    ·exact k
    ·rw [List.getElem?_eq_none k] at hd';cases hd'
   have:=p2 j _ (List.getElem?_eq_getElem hj)
   rw [hd'] at this
   exact ⟨_,List.getElem?_eq_getElem hj,Option.some.inj this⟩
  refine .cptr _ b' o vs (fun j d' hd'=>?_) (fun j d' hd'=>?_)
  ·obtain ⟨d0,q1,_⟩:=back j d' hd'
   exact h1 j d0 q1
  ·obtain ⟨d0,q1,rfl⟩:=back j d' hd'
   exact ih j d0 q1
 | agg cs vs hl _ ih=>
  obtain ⟨q1,q2⟩:=many hl ih
  exact .agg _ vs q1 q2
 | tup cs vs hl _ ih=>
  obtain ⟨q1,q2⟩:=many hl ih
  exact .tup _ vs q1 q2
 | fn f cs vs hl _ ih=>
  obtain ⟨q1,q2⟩:=many hl ih
  exact .fn f _ vs q1 q2
 | iface t a v _ ih=>exact .iface t _ v ih
 | undef v=>exact .undef v
 | int k n h1 h2=>exact .int k n h1 h2
 | bool b=>exact .bool b
 | str s h=>exact .str s h
 | lstNil τ o ht=>exact .lstNil τ o ht
 | lstVoid τ a=>exact .lstVoid τ a
 | lst τ xs o b' off' cap vals' h1 h2 h3 h4 h5 _=>exact .lst τ xs o b' off' cap vals' h1 h2 h3 h4 h5
 | nils=>exact .nils
 | nilp=>exact .nilp
 | ptNone n=>exact .ptNone n
 | ptSome n x v hv _=>exact .ptSome n x v hv
 | aptr i n w o b' p len he=>exact .aptr i n w o b' p len he
 | map i r he=>exact .map i r he
 | bptr i b g he=>exact .bptr i b g he
 | nilif=>exact .nilif
 | nilm=>exact .nilm
 | lstp τ xs k b' off' cap vals' h1 h2 h3 h4 h5 _=>exact .lstp τ xs k b' off' cap vals' h1 h2 h3 h4 h5
 | tptr τ n k p hp=>exact .tptr τ n k p hp
 | st n x v hv _=>exact .st n x v hv
end
theorem kT (f:AV→AV) (hf:f .undef=.undef):∀(l:List (Nat × AV)) (i:Nat),aL (l.map fun x=>(x.1,f x.2)) i=f (aL l i)
 | [],i=>hf.symm
 | (j,v) ::r,i=>by
  simp only [List.map_cons,cN,cu,kT f hf r i]
  by_cases h:j=i <;> simp [h]
theorem je (f:SObj→SObj):∀(l:List (Nat × SObj)) (i:Nat),aj (l.map fun x=>(x.1,f x.2)) i=(aj l i).map f
 | [],i=>rfl
 | (j,v) ::r,i=>by
  simp only [List.map_cons,aH,aF,je f r i]
  by_cases h:j=i <;> simp [h]
theorem vh {F:Fr} {s s':St} {a:Act} {Ω:Om} {id:Nat} (h:Holds F s.abs a Ω) (hp:CQ id s=some s'):∃Ω',Ω'.w=Ω.w/\Holds F s'.abs a Ω':=by
 unfold CQ at hp
 split at hp
 ·rename_i c hb
  simp only at hp
  split at hp
  ·rename_i hck
   simp only [Bool.and_eq_true,Bool.not_eq_true'] at hck
   obtain ⟨⟨hnn,hcid⟩,hnl⟩:=hck
   simp only [Xs] at hp
   subst hp
   simp only [cv,Bool.and_eq_true,List.all_eq_true] at hnn
   obtain ⟨b,off,e1,e2⟩:=h.slots id _ hb
   let Ω1:Om:=⟨Ω.e,Ω.w,fun b' o=>Ω.pub b' o∨(b'=b/\off<=o/\o < off+(aa c).length)⟩
   have hx1:Ext Ω Ω1:=⟨fun i c hc=>⟨c,hc,CLe.refl c⟩,fun _ _ p=>Or.inl p,fun _ _ _=>rfl⟩
   have hfast:Fast Ω1 id c b off (fun j=>(Ω.w.cell? ⟨b,off+j,none⟩).getD undef):=by
    refine ⟨e1,fun j c' hc=>?_⟩
    obtain ⟨k1,k2,k3,v,k4,k5⟩:=e2 j c' hc
    have hj:j < (aa c).length:=by
     rcases Nat.lt_or_ge j (aa c).length with k | k
     ·exact k
     ·rw [List.getElem?_eq_none k] at hc;cases hc
    refine ⟨Or.inr ⟨rfl,by omega,by omega⟩,?_,?_⟩
    ·show Ω.w.cell? _=_
     rw [k4];rfl
    ·simp only [k4,Option.getD_some]
     exact k5.ext hx1
   have hag:∀{x:AV} {v:Value},V Ω1 x v→(∀i∈ids x,i≠id)→V ⟨fun i=>if i=id then none else Ω.e i,Ω1.w,Ω1.pub⟩ x v:=
    fun hv hi=>V.agree hv (fun i him=>by simp [hi i him,Ω1])
   have hin:∀b' o,(b'=b/\off<=o/\o < off+(aa c).length)→occ (.box b off (aa c).length) b' o:=fun b' o k=>k
   refine ⟨⟨fun i=>if i=id then none else Ω.e i,Ω.w,Ω1.pub⟩,rfl,⟨fun i=>?_,h.size,h.defers,fun id' o ho=>?_,fun id' hid=>?_,fun i j ci cj b' o hi hj=>?_,fun b' o hp=>?_,fun i x hx=>?_,?_⟩⟩
   ·simp only [St.abs]
    have e:=kT (pubV id c) rfl s.t i
    rw [e]
    refine hag (V.pubV hfast ((h.tmps i).ext hx1)) (fun k hk=>?_)
    rcases kR s.t i with hu | hm
    ·rw [hu] at hk;simp [pubV,ids] at hk
    ·have:=di (hnn.1 (i,pubV id c (aL s.t i)) (List.mem_map.2 ⟨_,hm,rfl⟩)) k hk
     simpa using this
   ·simp only [St.abs] at ho
    have e:=je (zu id c) (s.b.filter fun x=>!(x.1 ==id)) id'
    rw [e] at ho
    have e':=fa s.b (fun i=>!(i ==id)) id'
    rw [e'] at ho
    by_cases hid:id'=id
    ·subst hid;simp at ho
    ·simp only [beq_iff_eq,hid,Bool.not_false,if_true,Option.map_eq_some_iff] at ho
     rw [if_pos (by simp [hid])] at ho
     obtain ⟨o0,ho0,rfl⟩:=ho
     have hs:=h.slots id' o0 ho0
     have apart:∀c0,Ω.e id'=some c0→∀b' o,occ c0 b' o→¬(b'=b/\off<=o/\o < off+(aa c).length):=by
      intro c0 hc0 b' o hoc hk
      exact hid (h.inj id' id c0 _ b' o hc0 e1 hoc (hin b' o hk))
     cases o0 with
     | box d=>
      obtain ⟨b2,off2,g1,g2⟩:=hs
      obtain ⟨p1,p2⟩:=o8 (id:=id) (c:=c) d
      refine ⟨b2,off2,by simp only [if_neg hid];rw [g1,p1],fun j d' hd'=>?_⟩
      have hj:j < (aa d).length:=by
       rw [←p1]
       rcases Nat.lt_or_ge j (aa (pubV id c d)).length with k | k
       ·exact k
       ·rw [List.getElem?_eq_none k] at hd';cases hd'
      have hd2:=p2 j _ (List.getElem?_eq_getElem hj)
      rw [hd'] at hd2
      obtain ⟨m1,m2,m3,v,m4,m5⟩:=g2 j _ (List.getElem?_eq_getElem hj)
      refine ⟨m1,fun hp=>?_,m3,v,m4,?_⟩
      ·rcases hp with hp | hp
       ·exact m2 hp
       ·exact apart _ g1 b2 (off2+j) ⟨rfl,by omega,by omega⟩ hp
      ·rw [Option.some.inj hd2]
       refine hag (V.pubV hfast (m5.ext hx1)) (fun k hk=>?_)
       have hmem:(id',zu id c (.box d))∈((s.b.filter fun x=>!(x.1 ==id)).map fun x=>(x.1,zu id c x.2)):=
        List.mem_map.2 ⟨(id',.box d),List.mem_filter.2 ⟨cd _ _ _ ho0,by simp [hid]⟩,rfl⟩
       have:=di (hnn.2 _ hmem) k (lG (c:=pubV id c d) (by rw [←Option.some.inj hd2];exact hd') k hk)
       simpa using this
     | tail τ n=>
      obtain ⟨base,cap,g1,g2,g3,g4,g5⟩:=hs
      refine ⟨base,cap,by simp only [if_neg hid];exact g1,g2,g3,g4,fun b2 hb2=>?_⟩
      obtain ⟨m1,vs,ty,fz,m2,m3,m4,m5⟩:=g5 b2 hb2
      refine ⟨m1,vs,ty,fz,m2,m3,m4,fun o ho hp=>?_⟩
      rcases hp with hp | hp
      ·exact m5 o ho hp
      ·exact apart _ g1 b2 o hb2 hp
     | map κ τ m=>
      obtain ⟨r,g1,g2,es,clock,g3,g4⟩:=hs
      exact ⟨r,by simp only [if_neg hid];exact g1,g2,es,clock,g3,(g4.ext hx1).data⟩
     | bld t u l=>
      obtain ⟨b2,g,g1,g2,g3⟩:=hs
      refine ⟨b2,g,by simp only [if_neg hid];exact g1,fun b3 hb3 o=>⟨(g2 b3 hb3 o).1,fun hp=>?_⟩,g3⟩
      rcases hp with hp | hp
      ·exact (g2 b3 hb3 o).2 hp
      ·exact apart _ g1 b3 o hb3 hp
     | tailp τ n x=>
      obtain ⟨b2,cap,g1,g2,g3,g4,g5,g6,g7⟩:=hs
      refine ⟨b2,cap,by simp only [if_neg hid];exact g1,g2,g3,g4,g5,fun o ho hp=>?_,fun j c' hc=>?_⟩
      ·rcases hp with hp | hp
       ·exact g6 o ho hp
       ·exact apart _ g1 b2 o rfl hp
      ·obtain ⟨v,k1,k2⟩:=g7 j c' hc
       refine ⟨v,k1,hag (k2.ext hx1) (fun i hi=>?_)⟩
       have:=dc hc i hi
       rw [eH] at this
       cases this
   ·simp only [St.abs] at hid
    by_cases hii:id'=id
    ·simp [hii]
    ·have e:=je (zu id c) (s.b.filter fun x=>!(x.1 ==id)) id'
     rw [e] at hid
     have e':=fa s.b (fun i=>!(i ==id)) id'
     rw [e',if_pos (by simp [hii])] at hid
     simp only [if_neg hii]
     exact h.dom id' (by show aj s.b id'=none;simpa using hid)
   ·intro h1 h2
    simp only at hi hj
    split at hi
    ·cases hi
    ·split at hj
     ·cases hj
     ·exact h.inj i j ci cj b' o hi hj h1 h2
   ·rcases hp with hp | ⟨rfl,hp1,hp2⟩
    ·exact h.pubok b' o hp
    ·have hj:o - off < (aa c).length:=by omega
     obtain ⟨_,_,_,v,hv,_⟩:=e2 (o - off) _ (List.getElem?_eq_getElem hj)
     exact ⟨v,by rw [show off+(o - off)=o by omega] at hv;exact hv⟩
   ·have hl:=F.dom0 i x hx
    have hne:i≠id:=fun e=>by subst e;rw [hnl] at hl;cases hl
    obtain ⟨x',q1,q2⟩:=h.keep i x hx
    exact ⟨x',by simp only [if_neg hne];exact q1,q2⟩
   ·refine ⟨h.frame.os,h.frame.tape,h.frame.output,h.frame.size,h.frame.block,h.frame.cell,h.frame.kind,fun b' o hp=>?_,fun b' o hp=>Or.inl (h.frame.old b' o hp),h.frame.pcell⟩
    rcases hp with hp | ⟨rfl,hp1,hp2⟩
    ·exact h.frame.pub b' o hp
    ·have hj:o - off < (aa c).length:=by omega
     have:=(e2 (o - off) _ (List.getElem?_eq_getElem hj)).1
     rw [show off+(o - off)=o by omega] at this
     exact Or.inr this
  ·cases hp
 ·cases hp
theorem iz {F:Fr} {a:Act}:∀(l:List Nat) {s s':St} {Ω:Om},Holds F s.abs a Ω→lq l s=some s'→∃Ω',Ω'.w=Ω.w/\Holds F s'.abs a Ω'
 | [],s,s',Ω,h,hp=>by simp [lq] at hp;subst hp;exact ⟨Ω,rfl,h⟩
 | i ::r,s,s',Ω,h,hp=>by
  simp only [lq] at hp
  split at hp
  ·rename_i s1 h1
   obtain ⟨Ω1,e1,k1⟩:=vh h h1
   obtain ⟨Ω2,e2,k2⟩:=iz r k1 hp
   exact ⟨Ω2,e2.trans e1,k2⟩
  ·cases hp
end Go.AL
end
noncomputable section
namespace Go.AL
theorem lI {K V:Type} [DecidableEq K]:∀(m:List (K × V)) (k k':K) (v:V),dD (iS m k v) k'=if k'=k then some v else dD m k'
 | [],k,k',v=>by simp [iS,dD]
 | (a,u) ::r,k,k',v=>by
  simp only [iS]
  by_cases h:k=a
  ·subst h
   rw [if_pos rfl]
   by_cases h':k'=k <;> simp [dD,h']
  ·rw [if_neg h]
   simp only [dD,lI r k k' v]
   by_cases h1:k'=a
   ·subst h1
    simp [Ne.symm h]
   ·simp [h1]
variable [Tabs]
open Go.ChangeMaps (setBlock)
theorem Holds.aside {F:Fr} {s:AS} {a:Act} {Ω:Om} (h:Holds F s a Ω) {w':World} {r:Nat} (os:w'.os=Ω.w.os) (tape:w'.tape=Ω.w.tape) (output:w'.output=Ω.w.output) (size:Ω.w.heap.size<=w'.heap.size)
  (hb:∀b,b < Ω.w.heap.size→b≠r→w'.heap[b]?=Ω.w.heap[b]?) (hr:F.w0.heap.size<=r) (hnp:∀o,¬Ω.pub r o) (hno:∀id c o,Ω.e id=some c→¬occ c r o):Holds F s a ⟨Ω.e,w',Ω.pub⟩:=by
 have pne:∀b o,Ω.pub b o→b < Ω.w.heap.size/\b≠r:=fun b o hp=>⟨let ⟨_,hv⟩:=h.pubok b o hp;aS hv,fun e=>hnp o (e ▸ hp)⟩
 have hx:Ext Ω ⟨Ω.e,w',Ω.pub⟩:=⟨fun _ c hc=>⟨c,hc,CLe.refl c⟩,fun _ _ p=>p,fun b o p=>ak (hb b (pne b o p).1 (pne b o p).2) o⟩
 have old:∀b,b < F.w0.heap.size→w'.heap[b]?=Ω.w.heap[b]?:=fun b hlt=>hb b (Nat.lt_of_lt_of_le hlt h.frame.size) (by omega)
 refine ⟨fun i=>(h.tmps i).ext hx,h.size,h.defers,fun id o ho=>(h.slots id o ho).keep hx rfl (fun c hc=>kH.of_blocks fun b o hbo=>⟨hb b (h.blk hc hbo) (fun e=>hno id c o hc (e ▸ hbo)),fun _ p=>p⟩),h.dom,h.inj,
  fun b o p=>let ⟨v,hv⟩:=h.pubok b o p;⟨v,by rw [←hv];exact hx.cell b o p⟩,h.keep,?_⟩
 refine ⟨os.trans h.frame.os,tape.trans h.frame.tape,output.trans h.frame.output,Nat.le_trans h.frame.size size,fun b hlt hn=>(old b hlt).trans (h.frame.block b hlt hn),fun b o hlt hn=>(ak (old b hlt) o).trans (h.frame.cell b o hlt hn),
  fun b hlt hn=>⟨(b7 (old b hlt)).trans (h.frame.kind b hlt hn).1,fun o=>(aO (old b hlt) o).trans ((h.frame.kind b hlt hn).2 o)⟩,h.frame.pub,h.frame.old,fun b o p=>(hx.cell b o (h.frame.old b o p)).trans (h.frame.pcell b o p)⟩
theorem Holds.weak {F:Fr} {s s':AS} {a:Act} {Ω:Om} (h:Holds F s a Ω) (hT:∀i,s'.T i=.undef∨s'.T i=s.T i) (hB:s'.B=s.B):Holds F s' a Ω:=
 ⟨fun i=>by
  rcases hT i with e | e
  ·rw [e];exact .undef _
  ·rw [e];exact h.tmps i,h.size,h.defers,by rw [hB];exact h.slots,by rw [hB];exact h.dom,h.inj,h.pubok,h.keep,h.frame⟩
theorem mu {K V:Type} [DecidableEq K]:∀(m:List (K × V)) (k:K),(dD m k).isSome=true↔∃x∈m,x.1=k
 | [],k=>by simp [dD]
 | (a,u) ::r,k=>by
  simp only [dD]
  by_cases h:k=a
  ·subst h;simp
  ·rw [if_neg h,mu r k]
   constructor
   ·rintro ⟨x,hx,e⟩;exact ⟨x,by simp [hx],e⟩
   ·rintro ⟨x,hx,e⟩
    rcases List.mem_cons.1 hx with rfl | hx
    ·exact absurd e.symm h
    ·exact ⟨x,hx,e⟩
section
variable {P:Program} {C:Cfg} {F:Fr}
theorem cg {ops:Array Oper} {Q:Exit→Act→World→Prop} {i:Nat} {rest:List Nat} {o:Oper} {a:Act} {w:World} (hi:ops[i]?=some o) (hg:o.guard=none)
  (h:o.wp P a w (wpOps P ops Q rest) Q):wpOps P ops Q (i ::rest) a w:=by
 unfold wpOps
 rw [hi]
 have:Region.wanted o (yielded ops a.tmps)=true:=by unfold Region.wanted;rw [hg]
 simp only [this,if_true]
 exact .inl h
structure KLcode (L:KL) (a b:Code):Prop where
 code:∃i1 i2 i3 i4 x y ty1 ps1 af1 ty2 ps2 af2 ty3 ps3 af3 ty4 ps4 af4 ty5 ps5 af5 ty6 ps6 af6 ty7 ps7 af7 ty8 ps8 af8 ty9 ps9 af9 ty10 ps10 af10,
  a=.region i1 #[⟨some L.m1,.move L.src,ty1,ps1,af1,none⟩,⟨some L.it,.range L.t (.tmp L.m1),ty2,ps2,af2,none⟩] false/\
  b=.block x (.loop (.seq (.region i2 #[⟨some L.nx,.next (.tmp L.it) false,ty3,ps3,af3,none⟩,⟨some L.c,.extract (.tmp L.nx) 0,ty4,ps4,af4,none⟩] false) (.seq (.cond (.tmp L.c) .skip (.exit x)) (.block y (.seq
   (.region i3 #[⟨some L.en,.entry (.tmp L.it),ty5,ps5,af5,none⟩,⟨some L.k1,.extract (.tmp L.en) 0,ty6,ps6,af6,none⟩,⟨some L.kv,.assign (.tmp L.k1),ty7,ps7,af7,none⟩] false)
   (.region i4 #[⟨some L.d1,.move (.tmp L.dst),ty8,ps8,af8,none⟩,⟨some L.k2,.move (.tmp L.kv),ty9,ps9,af9,none⟩,⟨none,.mapUpdate L.t2 (.tmp L.d1) (.tmp L.k2) (.const (.int .i64 L.n)),ty10,ps10,af10,none⟩] false))))))
 rng:okC .i64 L.n=true
 dis:aU [L.m1,L.it,L.nx,L.c,L.en,L.k1,L.kv,L.d1,L.k2,L.dst]=true
theorem xV {a b:Code} {L:KL} (h:nA a b=some L):KLcode L a b:=by
 unfold nA at h
 split at h
 ·rename_i i1 r1 x i2 r2 c x2 y i3 r3 i4 r4
  split at h
  ·rename_i h1 h2 h3 h4
   split at h
   ·rename_i hc
    simp only [Bool.and_eq_true,beq_iff_eq] at hc
    obtain ⟨⟨⟨⟨⟨⟨⟨⟨⟨⟨⟨⟨rfl,rfl⟩,rfl⟩,rfl⟩,rfl⟩,rfl⟩,rfl⟩,rfl⟩,rfl⟩,rfl⟩,rfl⟩,hr⟩,hd⟩:=hc
    simp only [Xs] at h
    subst h
    have e1:=congrArg List.toArray h1
    have e2:=congrArg List.toArray h2
    have e3:=congrArg List.toArray h3
    have e4:=congrArg List.toArray h4
    simp only [Array.toArray_toList] at e1 e2 e3 e4
    subst e1 e2 e3 e4
    exact ⟨⟨_,_,_,_,_,_,_,_,_,_,_,_,_,_,_,_,_,_,_,_,_,_,_,_,_,_,_,_,_,_,_,_,_,_,_,_,rfl,rfl⟩,hr,hd⟩
   ·cases h
  ·cases h
 ·cases h
theorem bX {a:Act} {n d i:Nat} {v:Value} (hs:a.tmps.size=n) (hd:d < n):(a.put (some d) v).tmps.getD i undef=if d=i then v else a.tmps.getD i undef:=by
 simp only [Act.put]
 by_cases h:d=i
 ·subst h;rw [if_pos rfl];simp [Array.getD_eq_getD_getElem?,hs,hd]
 ·rw [if_neg h];simp [Array.getD_eq_getD_getElem?,h]
structure KInv (F:Fr) (L:KL) (s:St) (i j bm r:Nat) (es:Array MapEntry) (clock:Nat) (md:List (Str × Int)) (seen:Array Nat) (a:Act) (Ω:Om) (d:List (Str × Int)):Prop where
 hh:Holds F ⟨fun k=>if L.wr.contains k then .undef else aL s.t k,fun k=>if j=k then some (.map .str (.int .i64) d) else aj s.b k⟩ a Ω
 it:a.tmps.getD L.it undef=.pointer (some ⟨r,0,none⟩)
 iter:∃c0,clock<=c0/\Ω.w.heap[r]?=some (.mapIter (some bm) clock seen c0)
 map:Ω.w.heap[bm]?=some (.map es clock)
 own:F.w0.heap.size<=r
 np:∀o,¬Ω.pub r o
 no:∀id c o,Ω.e id=some c→¬occ c r o
 ei:Ω.e i=some (.obj bm)
 ne:i≠j
 yes:∀k,(∃e∈es.toList,e.key=.string ⟨k.toArray⟩/\seen.contains e.born=true)→dD d k=some L.n
 not:∀k,(¬∃e∈es.toList,e.key=.string ⟨k.toArray⟩/\seen.contains e.born=true)→dD d k=dD md k
theorem xW {es:Array MapEntry} {seen:Array Nat} {e:MapEntry} (he:e∈(leftOf es seen).toList):(leftOf es (seen.push e.born)).size < (leftOf es seen).size:=by
 unfold leftOf at he ⊢
 have key:∀p:MapEntry→Bool,(es.filter p).size=(es.toList.filter p).length:=fun p=>congrArg List.length Array.toList_filter
 rw [key,key]
 simp only [Array.toList_filter,List.mem_filter,Bool.not_eq_true'] at he
 exact filter_lt (fun x=>!seen.contains x.born) (fun x=>!(seen.push e.born).contains x.born) (fun x hx=>by
  simp only [Bool.not_eq_true'] at hx ⊢
  rw [Array.contains_push,Bool.or_eq_false_iff] at hx
  first | exact hx.1 | exact hx.2) e (by simpa using he.2) (by simp) es.toList he.1
theorem KInv.done {L:KL} {s:St} {i j bm r:Nat} {es:Array MapEntry} {clock:Nat} {md:List (Str × Int)} {seen:Array Nat} {a:Act} {Ω:Om} {d:List (Str × Int)} {τ:Ty} {m:List (Str × den τ)}
  (hK:KInv F L s i j bm r es clock md seen a Ω d) (hm:aj s.b i=some (.map .str τ m)) (h0:(leftOf es seen).size=0)
  {a':Act} (h':Holds F ⟨fun k=>if L.wr.contains k then .undef else aL s.t k,fun k=>if j=k then some (.map .str (.int .i64) d) else aj s.b k⟩ a' Ω) :
  Holds F (St.abs ⟨s.t.filter fun x=>!L.wr.contains x.1,mJ s.b j (.map .str (.int .i64) d)⟩) a' Ω/\(d.map (·.1)).Nodup/\(∀k,dD d k=if (dD m k).isSome=true then some L.n else dD md k):=by
 refine ⟨?_,?_,fun k=>?_⟩
 ·have e1:(fun k=>if L.wr.contains k then AV.undef else aL s.t k)=aL (s.t.filter fun x=>!L.wr.contains x.1):=by
   funext k
   rw [gn s.t (fun i=>!L.wr.contains i) k]
   cases L.wr.contains k <;> simp
  have e2:(fun k=>if j=k then some (SObj.map .str (.int .i64) d) else aj s.b k)=aj (mJ s.b j (.map .str (.int .i64) d)):=by
   funext k
   rw [fK]
  have h2:=h'
  rw [e1,e2] at h2
  exact h2
 ·obtain ⟨_,_,_,_,_,_,hm⟩:=h'.slots j (.map .str (.int .i64) d) (by simp)
  exact hm.keys
 ·obtain ⟨r',k1,_,es',clock',k3,k4⟩:=hK.hh.slots i (.map .str τ m) (by simp only [if_neg (Ne.symm hK.ne)];exact hm)
  rw [hK.ei] at k1
  cases k1
  rw [hK.map] at k3
  cases k3
  have all:∀e∈es.toList,seen.contains e.born=true:=by
   intro e he
   rcases Bool.eq_false_or_eq_true (seen.contains e.born) with h | h
   ·exact h
   ·have:e∈(leftOf es seen).toList:=by unfold leftOf;simp only [Array.toList_filter,List.mem_filter];exact ⟨he,by rw [h];rfl⟩
    rw [←Array.length_toList] at h0
    rw [List.length_eq_zero_iff.1 h0] at this
    cases this
  have key:(dD m k).isSome=true↔∃e∈es.toList,e.key=.string ⟨k.toArray⟩/\seen.contains e.born=true:=by
   rw [mu]
   constructor
   ·rintro ⟨x,hx,rfl⟩
    obtain ⟨q,hq⟩:=List.getElem?_of_mem hx
    have hl:q < es.size:=by
     rw [k4.size]
     rcases Nat.lt_or_ge q m.length with h | h
     ·exact h
     ·rw [List.getElem?_eq_none h] at hq;cases hq
    have hv:=(k4.ent q es[q] x (Array.getElem?_eq_getElem hl) hq).1
    have hmem:es[q]∈es.toList:=by simp
    exact ⟨es[q],hmem,V.str_inv hv |>.1,all _ hmem⟩
   ·rintro ⟨e,he,hk,_⟩
    obtain ⟨q,hq⟩:=List.getElem?_of_mem he
    rw [Array.getElem?_toList] at hq
    have hl:q < m.length:=by
     rw [←k4.size]
     rcases Nat.lt_or_ge q es.size with h | h
     ·exact h
     ·rw [Array.getElem?_eq_none h] at hq;cases hq
    have hv:=(k4.ent q e m[q] hq (List.getElem?_eq_getElem hl)).1
    refine ⟨m[q],List.getElem_mem hl,?_⟩
    have:=(V.str_inv hv).1
    rw [hk] at this
    simp at this
    exact this.symm
  by_cases h:(dD m k).isSome=true
  ·rw [if_pos h];exact hK.yes k (key.1 h)
  ·rw [if_neg h];exact hK.not k (fun e=>h (key.2 e))
theorem vi (hT:aK P C.tbl) {x y:Code} {L:KL} (hL:nA x y=some L) {s:St} {Q:SX→St→Prop} {a:Act} {Ω:Om} (h:zx C L s Q) (hds:bp F.n (.seq x y)=true) (hh:Holds F s.abs a Ω) :
  (Code.seq x y).wp P (fun e a' w'=>e=.normal/\∃s' Ω',Ω'.w=w'/\Holds F s'.abs a' Ω'/\Q .normal s') a Ω.w:=by
 obtain ⟨⟨i1,i2,i3,i4,bx,by_,ty1,ps1,af1,ty2,ps2,af2,ty3,ps3,af3,ty4,ps4,af4,ty5,ps5,af5,ty6,ps6,af6,ty7,ps7,af7,ty8,ps8,af8,ty9,ps9,af9,ty10,ps10,af10,rfl,rfl⟩,hrng,hdis⟩:=xV hL
 have hnd:¬L.wr.contains L.dst=true:=by
  intro hc
  simp only [KL.wr,List.contains_eq_mem,List.mem_cons,List.not_mem_nil,or_false,decide_eq_true_eq] at hc
  clear hL hh h hds
  rcases hc with e | e | e | e | e | e | e | e | e <;> rw [e] at hdis <;> simp [aU] at hdis
 have hne:L.nx≠L.it/\L.c≠L.it/\L.en≠L.it/\L.k1≠L.it/\L.kv≠L.it/\L.d1≠L.it/\L.k2≠L.it/\L.d1≠L.kv/\L.d1≠L.k2:=by
  clear hL hh h hds
  simp [aU] at hdis
  refine ⟨?_,?_,?_,?_,?_,?_,?_,?_,?_⟩ <;> (intro e;simp_all)
 simp [bp] at hds
 obtain ⟨⟨d1,d2⟩,⟨d3,d4⟩,⟨d5,d6,d7⟩,d8,d9⟩:=hds
 unfold zx at h
 split at h
 ·rename_i i j hsrc hdst
  split at h
  ·rename_i τ m d0 kt0 e0 _ _ _ _ kt e1 _ _ _ _ hbi hbj ht1 ht2
   split at h
   ·rename_i rk hrk
    split at h
    ·rename_i hc
     simp only [Bool.and_eq_true,Bool.not_eq_true',beq_eq_false_iff_ne,ne_eq] at hc
     obtain ⟨hko,hij⟩:=hc
     have hv:=aZ hh L.src
     rw [show opd s.abs.T L.src=.map i from hsrc] at hv
     generalize hsv:a.eval L.src=sv at hv
     cases hv with
     | map _ bm hei=>
      obtain ⟨r',g1,g2,es,clock,g3,g4⟩:=hh.slots i _ hbi
      rw [hei] at g1
      cases g1
      obtain ⟨dd,u1,u2⟩:=aB hT ht1 rfl
      cases dd <;> simp [aE] at u2
      obtain ⟨rfl,rfl⟩:=u2
      refine wp_seq (wp_region ?_)
      show wpOps P _ _ [0,1] a Ω.w
      refine cg (o:=⟨some L.m1,.move L.src,ty1,ps1,af1,none⟩) rfl rfl (ay (v:=.map (some bm)) (w':=Ω.w) (by simp [execOp,hsv]) ?_)
      have hsz:=hh.size
      have hm1:(a.put (some L.m1) (.map (some bm))).eval (.tmp L.m1)=.map (some bm):=by
       show (a.put (some L.m1) (.map (some bm))).tmps.getD L.m1 undef=_
       rw [bX hsz d1,if_pos rfl]
      refine cg (o:=⟨some L.it,.range L.t (.tmp L.m1),ty2,ps2,af2,none⟩) rfl rfl (ay (v:=.pointer (some ⟨Ω.w.heap.size,0,none⟩)) (w':=Ω.w.alloc (.mapIter (some bm) clock #[] clock)) (by simp [execOp,hm1,run_range_map Ω.w _ _ _ bm es clock u1 g3]) ?_)
      show (Code.block bx _).wp P _ _ _
      refine wp_block ?_
      have hT0:∀k,(if L.wr.contains k=true then AV.undef else aL s.t k)=.undef∨(if L.wr.contains k=true then AV.undef else aL s.t k)=bB (bB s.abs.T (some L.m1) .undef) (some L.it) .undef k:=by
       intro k
       by_cases hk:L.wr.contains k=true
       ·left;rw [if_pos hk]
       ·right
        simp only [KL.wr,List.contains_eq_mem,List.mem_cons,List.not_mem_nil,or_false,decide_eq_true_eq,not_or] at hk
        rw [if_neg (by simp [KL.wr];exact hk)]
        simp only [bB]
        rw [if_neg (Ne.symm hk.2.1),if_neg (Ne.symm hk.1)]
        rfl
      have hB0:(fun k=>if j=k then some (SObj.map .str (.int .i64) d0) else aj s.b k)=s.abs.B:=by
       funext k
       by_cases hjk:j=k
       ·subst hjk;rw [if_pos rfl];exact hbj.symm
       ·rw [if_neg hjk];rfl
      have hK0:KInv F L s i j bm Ω.w.heap.size es clock d0 #[] ((a.put (some L.m1) (.map (some bm))).put (some L.it) (.pointer (some ⟨Ω.w.heap.size,0,none⟩))) ⟨Ω.e,Ω.w.alloc (.mapIter (some bm) clock #[] clock),Ω.pub⟩ d0:=by
       have hp1:=hh.pure (dst:=some L.m1) (val:=.undef) (v:=.map (some bm)) (.undef _) (fun d e=>by cases e;exact d1)
       have hp2:=hp1.pure (dst:=some L.it) (val:=.undef) (v:=.pointer (some ⟨Ω.w.heap.size,0,none⟩)) (.undef _) (fun d e=>by cases e;exact d2)
       have nopub:∀o,¬Ω.pub Ω.w.heap.size o:=fun o hp=>by
        obtain ⟨v,hv⟩:=hh.pubok _ o hp
        have:=aS hv
        omega
       have noocc:∀id c o,Ω.e id=some c→¬occ c Ω.w.heap.size o:=fun id c o hc ho=>by
        have:=hh.blk hc ho
        omega
       have hbm:=cm g3
       refine ⟨?_,?_,⟨clock,Nat.le_refl _,heap_alloc_new _ _⟩,by rw [←g3];exact heap_alloc_old _ _ hbm,hh.frame.size,nopub,noocc,hei,hij,fun k ⟨e,_,_,he⟩=>by simp at he,fun k _=>rfl⟩
       ·rw [hB0]
        exact (hp2.weak (s':=⟨fun k=>if L.wr.contains k then .undef else aL s.t k,s.abs.B⟩) hT0 rfl).aside (r:=Ω.w.heap.size) rfl rfl rfl (by show _<=(Ω.w.heap.push _).size;simp) (fun b hb _=>heap_alloc_old _ _ hb) hh.frame.size nopub noocc
       ·rw [bX (by simp [Act.put,hsz]) d2,if_pos rfl]
      generalize Ω.w.heap.size=r at hK0 ⊢
      refine wp_loop_ghost (fun n a w=>∃seen d Ω,Ω.w=w/\KInv F L s i j bm r es clock d0 seen a Ω d/\(leftOf es seen).size=n) _ ⟨_,_,_,rfl,hK0,rfl⟩ ?_
      intro n a1 w1 hI
      obtain ⟨seen,d,Ω1,rfl,hK,rfl⟩:=hI
      obtain ⟨c0,hc0,hit⟩:=hK.iter
      have hz1:=hK.hh.size
      obtain ⟨rb,k1,_,es',clock',k3,k4⟩:=hK.hh.slots i (.map .str τ m) (by simp only [if_neg (Ne.symm hij)];exact hbi)
      rw [hK.ei] at k1
      cases k1
      rw [hK.map] at k3
      cases k3
      have hold:∀e∈es.toList,e.born < clock:=fun e he=>by
       obtain ⟨q,hq⟩:=List.getElem?_of_mem he
       exact k4.born q e (by rw [←Array.getElem?_toList];exact hq)
      have weakT:∀{a':Act} {Ω':Om} {T:Nat→AV} {dst:Option Nat},(∀d,dst=some d→L.wr.contains d=true)→Holds F ⟨bB (fun k=>if L.wr.contains k then .undef else aL s.t k) dst .undef,fun k=>if j=k then some (.map .str (.int .i64) d) else aj s.b k⟩ a' Ω'→
        Holds F ⟨fun k=>if L.wr.contains k then .undef else aL s.t k,fun k=>if j=k then some (.map .str (.int .i64) d) else aj s.b k⟩ a' Ω':=by
       intro a' Ω' T dst hd hh'
       refine hh'.weak (fun k=>?_) rfl
       cases dst with
       | none=>exact .inr rfl
       | some d'=>
        by_cases hk:d'=k
        ·subst hk;left;show (if _ then _ else _)=_;rw [if_pos (hd d' rfl)]
        ·right;simp only [bB,if_neg hk]
      have w_nx:L.wr.contains L.nx=true:=by simp [KL.wr]
      have w_c:L.wr.contains L.c=true:=by simp [KL.wr]
      have w_en:L.wr.contains L.en=true:=by simp [KL.wr]
      have w_k1:L.wr.contains L.k1=true:=by simp [KL.wr]
      have w_kv:L.wr.contains L.kv=true:=by simp [KL.wr]
      have putU:∀{a':Act} {Ω':Om} {t:Nat} (v:Value),L.wr.contains t=true→t < F.n→Holds F ⟨fun k=>if L.wr.contains k then .undef else aL s.t k,fun k=>if j=k then some (.map .str (.int .i64) d) else aj s.b k⟩ a' Ω'→
        Holds F ⟨fun k=>if L.wr.contains k then .undef else aL s.t k,fun k=>if j=k then some (.map .str (.int .i64) d) else aj s.b k⟩ (a'.put (some t) v) Ω':=
       fun v ht hl hh'=>weakT (T:=fun _=>.undef) (fun d e=>by cases e;exact ht) (hh'.pure (dst:=some _) (val:=.undef) (v:=v) (.undef _) (fun d e=>by cases e;exact hl))
      have hit':a1.eval (.tmp L.it)=.pointer (some ⟨r,0,none⟩):=hK.it
      rcases run_next_at (P:=P) Ω1.w ty3 r bm clock c0 seen es clock hit hK.map hold hc0 with ⟨h0,hrun⟩ | ⟨e,he,w2,hw2,hrun⟩
      ·refine wp_seq (wp_region ?_)
       show wpOps P _ _ [0,1] a1 Ω1.w
       refine cg (o:=⟨some L.nx,.next (.tmp L.it) false,ty3,ps3,af3,none⟩) rfl rfl (ay (v:=.tuple #[.bool false]) (w':=Ω1.w) (by simp [execOp,hit',hrun]) ?_)
       have hnx:(a1.put (some L.nx) (.tuple #[.bool false])).eval (.tmp L.nx)=.tuple #[.bool false]:=by
        show (a1.put (some L.nx) _).tmps.getD L.nx undef=_
        rw [bX hz1 d3,if_pos rfl]
       refine cg (o:=⟨some L.c,.extract (.tmp L.nx) 0,ty4,ps4,af4,none⟩) rfl rfl (ay (v:=.bool false) (w':=Ω1.w) (by simp [execOp,hnx,Instr.extract]) ?_)
       have h1:=putU (.tuple #[.bool false]) w_nx d3 hK.hh
       have h2:=putU (.bool false) w_c d4 h1
       refine wp_seq (wp_cond (t:=false) (by show (Act.put _ (some L.c) _).tmps.getD L.c undef=_;rw [bX h1.size d4,if_pos rfl]) (wp_exit ?_))
       simp only [Exit.then,Exit.inBlock,if_true]
       obtain ⟨q1,q2,q3⟩:=hK.done hbi h0 h2
       exact ⟨trivial,_,Ω1,rfl,q1,h d q2 q3⟩
      ·refine wp_seq (wp_region ?_)
       show wpOps P _ _ [0,1] a1 Ω1.w
       refine cg (o:=⟨some L.nx,.next (.tmp L.it) false,ty3,ps3,af3,none⟩) rfl rfl (ay (v:=.tuple #[.bool true,e.key,e.val]) (w':=setBlock w2 r (.mapIter (some bm) clock (seen.push e.born) clock)) (by simp [execOp,hit',hrun]) ?_)
       have hnx:(a1.put (some L.nx) (.tuple #[.bool true,e.key,e.val])).eval (.tmp L.nx)=.tuple #[.bool true,e.key,e.val]:=by
        show (a1.put (some L.nx) _).tmps.getD L.nx undef=_
        rw [bX hz1 d3,if_pos rfl]
       refine cg (o:=⟨some L.c,.extract (.tmp L.nx) 0,ty4,ps4,af4,none⟩) rfl rfl (ay (v:=.bool true) (w':=setBlock w2 r (.mapIter (some bm) clock (seen.push e.born) clock)) (by simp [execOp,hnx,Instr.extract]) ?_)
       have hlt1:r < Ω1.w.heap.size:=cm hit
       have hwh:w2.heap=Ω1.w.heap:=by rcases hw2 with rfl | rfl <;> rfl
       have hoth:∀b,b≠r→(setBlock w2 r (.mapIter (some bm) clock (seen.push e.born) clock)).heap[b]?=Ω1.w.heap[b]?:=by
        intro b hb
        show (w2.heap.setIfInBounds r _)[b]?=_
        rw [hwh,Array.getElem?_setIfInBounds_ne (Ne.symm hb)]
       have hrr:(setBlock w2 r (.mapIter (some bm) clock (seen.push e.born) clock)).heap[r]?=some (.mapIter (some bm) clock (seen.push e.born) clock):=by
        show (w2.heap.setIfInBounds r _)[r]?=_
        rw [hwh]
        simp [hlt1]
       have hA:=hK.hh.aside (r:=r) (w':=setBlock w2 r (.mapIter (some bm) clock (seen.push e.born) clock)) (by rcases hw2 with rfl | rfl <;> rfl) (by rcases hw2 with rfl | rfl <;> rfl) (by rcases hw2 with rfl | rfl <;> rfl)
        (by show _<=(w2.heap.setIfInBounds r _).size;rw [hwh];simp) (fun b _ hb=>hoth b hb) hK.own hK.np hK.no
       have h1:=putU (.tuple #[.bool true,e.key,e.val]) w_nx d3 hA
       have h2:=putU (.bool true) w_c d4 h1
       refine wp_seq (wp_cond (t:=true) (by show (Act.put _ (some L.c) _).tmps.getD L.c undef=_;rw [bX h1.size d4,if_pos rfl]) (wp_skip ?_))
       refine wp_block (wp_seq (wp_region ?_))
       have hes:e∈es.toList:=by
        unfold leftOf at he
        simp only [Array.toList_filter,List.mem_filter] at he
        exact he.1
       obtain ⟨q,hq⟩:=List.getElem?_of_mem hes
       rw [Array.getElem?_toList] at hq
       have hql:q < m.length:=by
        rw [←k4.size]
        exact (Array.getElem?_eq_some_iff.1 hq).1
       have hkv:V Ω1 (.str m[q].1) e.key:=(k4.ent q e m[q] hq (List.getElem?_eq_getElem hql)).1
       have hks:=(V.str_inv hkv).1
       have hbn:(es.toList.map (·.born)).Nodup:=by
        rw [List.nodup_iff_pairwise_ne,List.pairwise_map,List.pairwise_iff_getElem]
        intro u v hu hv huv
        have:=k4.rise u v es.toList[u] es.toList[v] (by rw [←Array.getElem?_toList];exact List.getElem?_eq_getElem hu) (by rw [←Array.getElem?_toList];exact List.getElem?_eq_getElem hv) huv
        omega
       have hbm3:=hoth bm (fun e=>by subst e;exact hK.no i _ 0 hK.ei rfl)
       have hen:=run_entry_at (P:=P) _ r bm clock seen es clock e hrr (hbm3.trans hK.map) hes hbn
       show wpOps P _ _ [0,1,2] _ _
       have hit2:((a1.put (some L.nx) (.tuple #[.bool true,e.key,e.val])).put (some L.c) (.bool true)).eval (.tmp L.it)=.pointer (some ⟨r,0,none⟩):=by
        show (Act.put _ (some L.c) _).tmps.getD L.it undef=_
        rw [bX h1.size d4,if_neg hne.2.1,bX hz1 d3,if_neg hne.1]
        exact hK.it
       refine cg (o:=⟨some L.en,.entry (.tmp L.it),ty5,ps5,af5,none⟩) rfl rfl (ay (v:=.tuple #[e.key,e.val]) (w':=setBlock w2 r (.mapIter (some bm) clock (seen.push e.born) clock)) (by simp [execOp,hit2,hen]) ?_)
       have h3:=putU (.tuple #[e.key,e.val]) w_en d5 h2
       refine cg (o:=⟨some L.k1,.extract (.tmp L.en) 0,ty6,ps6,af6,none⟩) rfl rfl (ay (v:=e.key) (w':=setBlock w2 r (.mapIter (some bm) clock (seen.push e.born) clock)) ?_ ?_)
       ·have:(Act.put ((a1.put (some L.nx) (.tuple #[.bool true,e.key,e.val])).put (some L.c) (.bool true)) (some L.en) (.tuple #[e.key,e.val])).eval (.tmp L.en)=.tuple #[e.key,e.val]:=by
         show (Act.put _ (some L.en) _).tmps.getD L.en undef=_
         rw [bX h2.size d5,if_pos rfl]
        simp [execOp,this,Instr.extract]
       have h4:=putU e.key w_k1 d6 h3
       refine cg (o:=⟨some L.kv,.assign (.tmp L.k1),ty7,ps7,af7,none⟩) rfl rfl (ay (v:=e.key) (w':=setBlock w2 r (.mapIter (some bm) clock (seen.push e.born) clock)) ?_ ?_)
       ·have:(Act.put (Act.put ((a1.put (some L.nx) (.tuple #[.bool true,e.key,e.val])).put (some L.c) (.bool true)) (some L.en) (.tuple #[e.key,e.val])) (some L.k1) e.key).eval (.tmp L.k1)=e.key:=by
         show (Act.put _ (some L.k1) _).tmps.getD L.k1 undef=_
         rw [bX h3.size d6,if_pos rfl]
        simp [execOp,this]
       have h5:=putU e.key w_kv d7 h4
       generalize ha5:Act.put (Act.put (Act.put ((a1.put (some L.nx) (.tuple #[.bool true,e.key,e.val])).put (some L.c) (.bool true)) (some L.en) (.tuple #[e.key,e.val])) (some L.k1) e.key) (some L.kv) e.key=a5 at h5
       have hkv5:a5.tmps.getD L.kv undef=e.key:=by
        rw [←ha5,bX h4.size d7,if_pos rfl]
       have hit5:a5.tmps.getD L.it undef=.pointer (some ⟨r,0,none⟩):=by
        rw [←ha5,bX h4.size d7,if_neg hne.2.2.2.2.1,bX h3.size d6,if_neg hne.2.2.2.1,bX h2.size d5,if_neg hne.2.2.1]
        exact hit2
       have hdst5:=h5.tmps L.dst
       simp only [if_neg hnd,hdst] at hdst5
       show Code.wp P (.region i4 _ false) _ a5 _
       refine wp_region ?_
       show wpOps P _ _ [0,1,2] a5 _
       generalize hdv:a5.tmps.getD L.dst undef=dv at hdst5
       have hdv':a5.eval (.tmp L.dst)=dv:=hdv
       refine cg (o:=⟨some L.d1,.move (.tmp L.dst),ty8,ps8,af8,none⟩) rfl rfl (ay (v:=dv) (w':=setBlock w2 r (.mapIter (some bm) clock (seen.push e.born) clock)) (by simp [execOp,hdv']) ?_)
       have hk2:(a5.put (some L.d1) dv).eval (.tmp L.kv)=e.key:=by
        show (a5.put (some L.d1) dv).tmps.getD L.kv undef=_
        rw [bX h5.size d8,if_neg hne.2.2.2.2.2.2.2.1]
        exact hkv5
       refine cg (o:=⟨some L.k2,.move (.tmp L.kv),ty9,ps9,af9,none⟩) rfl rfl (ay (v:=e.key) (w':=setBlock w2 r (.mapIter (some bm) clock (seen.push e.born) clock)) (by simp [execOp,hk2]) ?_)
       have hkv3:V ⟨Ω1.e,setBlock w2 r (.mapIter (some bm) clock (seen.push e.born) clock),Ω1.pub⟩ (.str m[q].1) e.key:=by
        rw [hks]
        exact .str _ (V.str_inv hkv).2
       have h6a:=h5.pure (dst:=some L.d1) (val:=.map j) (v:=dv) hdst5 (fun d e=>by cases e;exact d8)
       have h6:=h6a.pure (dst:=some L.k2) (val:=.str m[q].1) (v:=e.key) hkv3 (fun d e=>by cases e;exact d9)
       have hTd1:bB (bB (fun k=>if L.wr.contains k then AV.undef else aL s.t k) (some L.d1) (.map j)) (some L.k2) (.str m[q].1) L.d1=.map j:=by
        simp only [bB]
        rw [if_neg (Ne.symm hne.2.2.2.2.2.2.2.2),if_pos trivial]
       refine cg (o:=⟨none,.mapUpdate L.t2 (.tmp L.d1) (.tmp L.k2) (.const (.int .i64 L.n)),ty10,ps10,af10,none⟩) rfl rfl ?_
       refine nO hT (.inl rfl) h6 (fun d e=>by cases e) (eff:=⟨none,.undef,[(j,.map .str (.int .i64) (iS d m[q].1 L.n))]⟩) ?_ (fun a' Ω' hh' ha' hheap he' hpub'=>?_)
       ·simp only [ar,ib,opd,hTd1,ht2,hrk,if_true]
        have:bB (bB (fun k=>if L.wr.contains k then AV.undef else aL s.t k) (some L.d1) (.map j)) (some L.k2) (.str m[q].1) L.k2=.str m[q].1:=by simp only [bB,if_true]
        rw [this]
        simp [kE,bH,hrng,arg,pd,asInt,gr,hko]
       ·cases hdst5 with
        | map _ rj hej=>
         have hej1:Ω1.e j=some (.obj rj):=hej
         have hhp:=hheap j hTd1 rj hej
         have hrj:r≠rj:=fun e=>hK.no j _ 0 hej1 e
         have hbj':bm≠rj:=fun e=>hij (hK.hh.inj i j _ _ bm 0 hK.ei hej1 rfl e)
         refine ⟨_,xW he,seen.push e.born,iS d m[q].1 L.n,Ω',rfl,⟨?_,?_,⟨clock,Nat.le_refl _,(hhp r hrj).trans hrr⟩,(hhp bm hbj').trans (hbm3.trans hK.map),hK.own,fun o hp=>hK.np o ((hpub' r o).1 hp),
          fun id c o hc=>hK.no id c o (by rw [←he' id];exact hc),by rw [he' i];exact hK.ei,hij,fun k' hex=>?_,fun k' hex=>?_⟩,rfl⟩
         ·refine hh'.weak (fun k'=>?_) ?_
          ·by_cases hk:L.wr.contains k'=true
           ·left;exact if_pos hk
           ·right
            have n1:L.d1≠k':=fun e=>hk (by rw [←e];simp [KL.wr])
            have n2:L.k2≠k':=fun e=>hk (by rw [←e];simp [KL.wr])
            show _=bB (bB (fun k=>if L.wr.contains k then AV.undef else aL s.t k) (some L.d1) (.map j)) (some L.k2) (.str m[q].1) k'
            simp only [bB,if_neg n1,if_neg n2]
          ·funext k'
           show (if j=k' then _ else _)=(if j=k' then _ else (if j=k' then _ else _))
           by_cases hk:j=k'
           ·rw [if_pos hk,if_pos hk]
           ·rw [if_neg hk,if_neg hk,if_neg hk]
         ·rw [ha']
          show (Act.put _ (some L.k2) _).tmps.getD L.it undef=_
          rw [bX h6a.size d9,if_neg hne.2.2.2.2.2.2.1,bX h5.size d8,if_neg hne.2.2.2.2.2.1]
          exact hit5
         ·rw [lI]
          by_cases hkk:k'=m[q].1
          ·rw [if_pos hkk]
          ·rw [if_neg hkk]
           obtain ⟨f,hf1,hf2,hf3⟩:=hex
           rw [Array.contains_push,Bool.or_eq_true] at hf3
           have nb:f.born≠e.born:=by
            intro hb
            have q1:=find_born f es.toList hbn hf1
            have q2:=find_born e es.toList hbn hes
            rw [hb,q2] at q1
            cases q1
            rw [hks] at hf2
            simp at hf2
            exact hkk hf2.symm
           refine hK.yes k' ⟨f,hf1,hf2,?_⟩
           rcases hf3 with h | h
           ·first | exact h | exact absurd (by simpa using h) nb
           ·first | exact h | exact absurd (by simpa using h) nb
         ·rw [lI]
          have hkk:k'≠m[q].1:=by
           intro hkk
           exact hex ⟨e,hes,by rw [hkk];exact hks,by simp⟩
          rw [if_neg hkk]
          refine hK.not k' (fun ⟨f,hf1,hf2,hf3⟩=>hex ⟨f,hf1,hf2,?_⟩)
          rw [Array.contains_push,Bool.or_eq_true]
          first | exact .inl hf3 | exact .inr hf3
    ·exact h.elim
   ·exact h.elim
  ·exact h.elim
 ·exact h.elim
end
end Go.AL
end
noncomputable section
namespace Go.AL
variable [Tabs]
section
variable {P:Program} {C:Cfg} {ops:Array Oper} {Q:Exit→Act→World→Prop} {F:Fr}
theorem zW {p:Nat→Prop} (n:Nat) (h:p n):∃m,p m/\∀k,k < m→¬p k:=by
 induction n using Nat.strongRecOn with
 | ind n ih=>
  by_cases q:∃k,k < n/\p k
  ·obtain ⟨k,h1,h2⟩:=q
   exact ih k h1 h2
  ·exact ⟨n,h,fun k hk hp=>q ⟨k,hk,hp⟩⟩
theorem xX {Ω:Om} {F:Fr} {s:AS} {a:Act} (h:Holds F s a Ω):Holds F ⟨fun _=>.undef,s.B⟩ a Ω:=⟨fun _=>.undef _,h.size,h.defers,h.slots,h.dom,h.inj,h.pubok,h.keep,h.frame⟩
theorem iv.back {C:Cfg} {ops:List Oper} {fs:Nat→bg} {oj:Oper} {e:Eff} {pv:AV} {u:List (Nat × SObj)} {N A:List Nat} {sE:AS} (hn:aC C oj sE.T sE.B=N)
  (hg:eh ops oj sE.T=some true) (he:ar C oj sE.T sE.B=some e) (hp:bN C oj sE.T sE.B=some (true,pv,u)) :
  ∀(R:List Nat) (s:AS),iv C ops fs R s sE→(∀k∈R,(∀x∈(fs k).2,x∈A/\x∉N)/\∀o,ops[k]?=some o→∀d,o.dst=some d→d∉cZ ops oj)→
   (∀i,i∉A→s.B i=sE.B i)/\eh ops oj s.T=some true/\ar C oj s.T s.B=some e/\bN C oj s.T s.B=some (true,pv,u)/\aC C oj s.T s.B=N
 | [],s,h,_=>by
  have h:s=sE:=h
  subst h
  exact ⟨fun _ _=>rfl,hg,he,hp,hn⟩
 | k ::r,s,h,ha=>by
  obtain ⟨o,s1,ho,hs,hr⟩:=h
  obtain ⟨b1,g1,e1,p1,n1⟩:=iv.back hn hg he hp r s1 hr (fun x hx=>ha x (by simp [hx]))
  obtain ⟨a1,a2⟩:=ha k (by simp)
  obtain ⟨v,u',_,rfl,hu⟩:=hs.eff
  rw [hu] at a1
  have hT:∀t∈cZ ops oj,(bB s.T o.dst v) t=s.T t:=fun t ht=>mX (fun hd=>a2 o ho t hd ht)
  obtain ⟨l1,l2,l3⟩:=lE C oj (bB s.T o.dst v) s.T (bJ s.B u') s.B (lF fun t ht=>hT t (by simp [cZ,ht]))
   (fun id hid=>dY u' _ id fun hm=>(a1 id hm).2 (by rw [←n1];exact hid)) e1
  exact ⟨fun i hi=>(dY u' s.B i fun hm=>hi (a1 i hm).1).symm.trans (b1 i hi),by rw [←kg hT];exact g1,l2,by rw [←l3];exact p1,by rw [←l1];exact n1⟩
theorem xY (hT:aK P C.tbl) (hS:bu P C.spec) (hdst:∀(o:Oper),o∈ops.toList→∀d,o.dst=some d→d < F.n)
  {fs:Nat→bg} {sE:AS} {j:Nat} {oj:Oper} {e:Eff} {pv:AV} {u:List (Nat × SObj)} {D:Nat→Prop} {A:List Nat} (hj:ops.toList[j]?=some oj)
  (hg:eh ops.toList oj sE.T=some true) (heff:ar C oj sE.T sE.B=some e) (hask:e.asks) (hpan:bN C oj sE.T sE.B=some (true,pv,u))
  (he:∀(i:Nat) (o:Oper),ops.toList[i]?=some o→∀e∈o.after.toList,Region.binds .any e=true→e.on < i)
  (hDj:D j) (hD:∀i,D i→i≠j→j∈(bF ops.toList).getD i [])
  (hQ:∀a' Ω' v B,(∀i,i∉A→B i=sE.B i)→Holds F ⟨fun _=>.undef,bJ B u⟩ a' Ω'→V Ω' pv v→Q (.panic [{v,recovered:=false}]) a' Ω'.w) :
  ∀(m:Nat) (R:List Nat) (fuel:Nat) (listed:Array Bool) (s:AS) (a:Act) (Ω:Om),R.length=m→m < fuel→listed.size=ops.size→
   (∀i,i < ops.size→(listed.getD i true=false↔i∈R∨D i))→R.Pairwise (· < ·)→(∀i∈R,i < ops.size/\¬D i)→
   (∀i∈R,∀k∈R,i < k→i∈(bF ops.toList).getD k []∨wW ops.toList fs i k)→
   (∀i∈R,i∈(bF ops.toList).getD j []∨((∀x∈(fs i).2,x∈A/\x∉aC C oj sE.T sE.B)/\∀o,ops.toList[i]?=some o→∀d,o.dst=some d→d∉cZ ops.toList oj))→
   (∀(i:Nat) (o:Oper),ops.toList[i]?=some o→listed.getD i true=true→∀e∈o.after.toList,Region.binds .any e=true→listed.getD e.on true=true)→
   iv C ops.toList fs R s sE→Holds F s a Ω→wpAny P .any ops Q fuel listed a Ω.w:=by
 have hjlt:j < ops.size:=by
  rw [Array.getElem?_toList] at hj
  rcases Nat.lt_or_ge j ops.size with k | k
  ·exact k
  ·rw [Array.getElem?_eq_none k] at hj;cases hj
 have mem_ready:∀{listed:Array Bool} {i:Nat},i∈Region.ready .any ops listed↔
   i < ops.size/\listed.getD i true=false/\∃o,ops[i]?=some o/\∀e∈o.after.toList,Region.binds .any e=true→listed.getD e.on false=true:=nY
 have two:∀{listed:Array Bool} {i:Nat},listed.size=ops.size→i < ops.size→listed.getD i true=listed.getD i false:=by
  intro listed i hs hi'
  simp [Array.getD_eq_getD_getElem?,hs,hi']
 intro m
 induction m using Nat.strongRecOn with
 | ind m ih=>
  intro R fuel listed s a Ω hlen hfuel hs hl hp hlt hap hjr hdc hrun h
  obtain ⟨fuel,rfl⟩:∃f,fuel=f+1:=⟨fuel - 1,by omega⟩
  have some_ready:Region.ready .any ops listed≠[]:=by
   intro hr
   obtain ⟨k0,this,hmin⟩:=zW (p:=fun k=>k < ops.size/\listed.getD k true=false) j ⟨hjlt,(hl j hjlt).2 (.inr hDj)⟩
   have hm:k0∈Region.ready .any ops listed:=by
    refine mem_ready.2 ⟨this.1,this.2,ops[k0]'this.1,Array.getElem?_eq_getElem this.1,fun e' hem hb0=>?_⟩
    have hon:=he k0 _ (by rw [Array.getElem?_toList];exact Array.getElem?_eq_getElem this.1) e' hem hb0
    have hlt':=Nat.lt_trans hon this.1
    rw [←two hs hlt']
    cases hb:listed.getD e'.on true with
    | true=>rfl
    | false=>exact absurd ⟨hlt',hb⟩ (hmin _ hon)
   rw [hr] at hm
   cases hm
  refine ⟨fun hr=>absurd hr some_ready,fun i hir=>?_⟩
  obtain ⟨h1,h2,o,ho,h3⟩:=mem_ready.1 hir
  have ho':ops.toList[i]?=some o:=by rw [Array.getElem?_toList];exact ho
  have hpre:∀e∈o.after.toList,Region.binds .any e=true→listed.getD e.on true=true:=by
   intro e' hem hb
   have hon:=he i o ho' e' hem hb
   rw [two hs (by omega)]
   exact h3 e' hem hb
  have hal:=ix (l:=ops.toList) he (L:=fun k=>listed.getD k true=true) hdc (i+1) i o (by omega) ho' hpre
  rcases (hl i h1).1 h2 with hiR | hiD
  case inr=>
   by_cases hij:i=j
   ·subst hij
    rw [hj] at ho'
    cases ho'
    obtain ⟨b1,g1,e1,p1,_⟩:=iv.back rfl hg heff hpan R s hrun (fun k hk=>by
     rcases hjr k hk with q | q
     ·have:=hal k q
      have:=(hl k (hlt k hk).1).2 (.inl hk)
      simp_all
     ·exact q)
    have hgate:=j8 (ops:=ops) (o:=oj) h
    unfold wpOp
    rw [ho]
    simp only [hgate true g1,if_true]
    refine Or.inl (zR hT hS oj F s a Ω e _ Q h (hdst oj (List.mem_of_getElem? hj)) e1 hask ?_)
    rw [p1]
    refine ⟨fun hb=>(by cases hb),fun _ Ω' v h' hv=>?_⟩
    exact hQ a Ω' v s.B b1 (xX h') hv
   ·have:=hal j (hD i hiD hij)
    have:=(hl j hjlt).2 (.inr hDj)
    simp_all
  obtain ⟨r1,r2,hR⟩:=List.append_of_mem hiR
  subst hR
  have hp':=List.pairwise_append.1 hp
  have hfront:=iv.front r1 i r2 s sE hrun (fun k hk=>by
   have hki:k < i:=hp'.2.2 k hk i (by simp)
   rcases hap k (by simp [hk]) i (by simp) hki with q | q
   ·have:=hal k q
    have:=(hl k (hlt k (by simp [hk])).1).2 (.inl (by simp [hk]))
    simp_all
   ·exact q)
  obtain ⟨o',s1,ho1,hstep,hrest⟩:=hfront
  have hoo:o'=o:=by rw [ho'] at ho1;simpa using ho1.symm
  subst hoo
  refine nU hT hS ho (hdst o' (List.mem_of_getElem? ho')) h hstep (fun a' Ω' h'=>?_)
  have hnd:i∉r1/\i∉r2:=by
   refine ⟨fun hm=>?_,fun hm=>?_⟩
   ·have:=hp'.2.2 i hm i (by simp);omega
   ·have:=(List.pairwise_cons.1 hp'.2.1).1 i hm;omega
  have sub:∀k,k∈r1++r2→k∈r1++i ::r2:=fun k hk=>by simp at hk ⊢;rcases hk with hk | hk <;> simp [hk]
  refine ih (r1++r2).length (by simp at hlen ⊢;omega) (r1++r2) fuel (listed.setIfInBounds i true) s1 a' Ω' rfl (by simp at hlen ⊢;omega) (by simpa using hs) (fun k hk=>?_) ?_ (fun k hk=>hlt k (sub k hk))
   (fun x hx y hy=>hap x (sub x hx) y (sub y hy)) (fun k hk=>hjr k (sub k hk)) (fun k ok hok hkl e' hem hb=>?_) hrest h'
  ·by_cases hik:i=k
   ·subst hik
    have hnD:=(hlt i hiR).2
    simp [Array.getD_eq_getD_getElem?,hs,h1,hnd.1,hnd.2,hnD]
   ·have:(listed.setIfInBounds i true).getD k true=listed.getD k true:=by simp [Array.getD_eq_getD_getElem?,hik]
    rw [this,hl k hk]
    have:¬k=i:=fun e=>hik e.symm
    simp [this]
  ·exact List.pairwise_append.2 ⟨hp'.1,(List.pairwise_cons.1 hp'.2.1).2,fun x hx y hy=>hp'.2.2 x hx y (by simp [hy])⟩
  ·have key:∀m,listed.getD m true=true→(listed.setIfInBounds i true).getD m true=true:=by
    intro m hm
    by_cases him:i=m
    ·subst him
     simp [Array.getD_eq_getD_getElem?,hs,h1]
    ·have:(listed.setIfInBounds i true).getD m true=listed.getD m true:=by simp [Array.getD_eq_getD_getElem?,him]
     rw [this,hm]
   by_cases hik:i=k
   ·subst hik
    rw [ho'] at hok
    simp at hok
    subst hok
    exact key _ (hpre e' hem hb)
   ·have:(listed.setIfInBounds i true).getD k true=listed.getD k true:=by simp [Array.getD_eq_getD_getElem?,hik]
    rw [this] at hkl
    exact key _ (hdc k ok hok hkl e' hem hb)
theorem iv.fwd {C:Cfg} {ops:List Oper} {fs:Nat→bg} {oj:Oper} {e:Eff} {pv:AV} {u:List (Nat × SObj)} {N A:List Nat} :
  ∀(R:List Nat) (s sE:AS),iv C ops fs R s sE→aC C oj s.T s.B=N→(∀k∈R,(∀x∈(fs k).2,x∈A/\x∉N)/\∀o,ops[k]?=some o→∀d,o.dst=some d→d∉cZ ops oj)→
   eh ops oj s.T=some true→ar C oj s.T s.B=some e→bN C oj s.T s.B=some (true,pv,u)→
   (∀i,i∉A→sE.B i=s.B i)/\eh ops oj sE.T=some true/\ar C oj sE.T sE.B=some e/\bN C oj sE.T sE.B=some (true,pv,u)/\aC C oj sE.T sE.B=N
 | [],s,sE,h,hn,_,hg,he,hp=>by
  have h:s=sE:=h
  subst h
  exact ⟨fun _ _=>rfl,hg,he,hp,hn⟩
 | k ::r,s,sE,h,hn,ha,hg,he,hp=>by
  obtain ⟨o,s1,ho,hs,hr⟩:=h
  obtain ⟨a1,a2⟩:=ha k (by simp)
  obtain ⟨v,u',_,rfl,hu⟩:=hs.eff
  rw [hu] at a1
  have hT:∀t∈cZ ops oj,s.T t=(bB s.T o.dst v) t:=fun t ht=>(mX (fun hd=>a2 o ho t hd ht)).symm
  obtain ⟨l1,l2,l3⟩:=lE C oj s.T (bB s.T o.dst v) s.B (bJ s.B u') (lF fun t ht=>hT t (by simp [cZ,ht]))
   (fun id hid=>(dY u' _ id fun hm=>(a1 id hm).2 (by rw [←hn];exact hid)).symm) he
  have g2:eh ops oj (bB s.T o.dst v)=some true:=by rw [←kg hT];exact hg
  have p2:bN C oj (bB s.T o.dst v) (bJ s.B u')=some (true,pv,u):=by rw [←l3];exact hp
  obtain ⟨b1,q⟩:=iv.fwd r ⟨bB s.T o.dst v,bJ s.B u'⟩ sE hr (by rw [←hn];exact l1.symm) (fun x hx=>ha x (by simp [hx])) g2 l2 p2
  exact ⟨fun i hi=>(b1 i hi).trans (dY u' s.B i fun hm=>hi (a1 i hm).1),q⟩
def gP (C:Cfg) (ops:List Oper):List (Nat × bg)→AS→AS→Prop
 | [],s,s'=>s=s'
 | (i,f) ::r,s,s'=>∃o s1,ops[i]?=some o/\lC C ops o s s1 f/\gP C ops r s1 s'
theorem gP.app {C:Cfg} {ops:List Oper}:∀{l m:List (Nat × bg)} {s t u:AS},gP C ops l s t→gP C ops m t u→gP C ops (l++m) s u
 | [],m,s,t,u,h,k=>by
  have h:s=t:=h
  subst h
  exact k
 | (i,f) ::l,m,s,t,u,⟨o,s1,h1,h2,h3⟩,k=>⟨o,s1,h1,h2,gP.app h3 k⟩
theorem gP.toI {C:Cfg} {ops:List Oper} {fs:Nat→bg}:∀{l:List (Nat × bg)} {s t:AS},gP C ops l s t→(∀x∈l,fs x.1=x.2)→iv C ops fs (l.map (·.1)) s t
 | [],s,t,h,_=>h
 | (i,f) ::l,s,t,⟨o,s1,h1,h2,h3⟩,k=>⟨o,s1,h1,by rw [k (i,f) (by simp)];exact h2,gP.toI h3 fun x hx=>k x (by simp [hx])⟩
theorem sU {C:Cfg} {ops:List Oper}:∀(l:List Oper) (i:Nat) (s t:AS) (fl:List bg),(∀k o,l[k]?=some o→ops[i+k]?=some o)→kf C ops l s fl t→gP C ops (bq i fl) s t/\fl.length=l.length
 | [],i,s,t,fl,_,⟨h1,h2⟩=>by subst h2;exact ⟨h1,rfl⟩
 | o ::r,i,s,t,fl,hl,⟨s1,f,fs',h1,h2,h3⟩=>by
  subst h3
  obtain ⟨k1,k2⟩:=sU r (i+1) s1 t fs' (fun k o' hk=>by have:=hl (k+1) o' (by simpa using hk);rw [show i+1+k=i+(k+1) by omega];exact this) h2
  exact ⟨⟨o,s1,by have:=hl 0 o rfl;simpa using this,h1,k1⟩,by simp [k2]⟩
theorem o9:∀(i:Nat) (l m:List bg),bq i (l++m)=bq i l++bq (i+l.length) m
 | i,[],m=>by simp [bq]
 | i,f ::l,m=>by simp only [List.cons_append,bq,o9 (i+1) l m,List.length_cons];rw [show i+1+l.length=i+(l.length+1) by omega]
theorem oa:∀(i:Nat) (l:List bg),(∀x∈bq i l,i<=x.1/\x.1 < i+l.length)/\(bq i l).Pairwise (fun x y=>x.1 < y.1)/\∀k,i<=k→k < i+l.length→∃f,(k,f)∈bq i l
 | i,[]=>⟨by simp [bq],by simp [bq],by simp;omega⟩
 | i,f ::l=>by
  obtain ⟨h1,h2,h3⟩:=oa (i+1) l
  refine ⟨fun x hx=>?_,?_,fun k hk hk'=>?_⟩
  ·simp only [bq,List.mem_cons] at hx
   rcases hx with rfl | hx
   ·simp
   ·have:=h1 x hx;simp;omega
  ·exact List.pairwise_cons.2 ⟨fun x hx=>by have:=h1 x hx;simp;omega,h2⟩
  ·by_cases e:k=i
   ·subst e;exact ⟨f,by simp [bq]⟩
   ·obtain ⟨g,hg⟩:=h3 k (by omega) (by simp at hk';omega)
    exact ⟨g,by simp [bq,hg]⟩
theorem kh:∀{l:List (Nat × bg)},l.Pairwise (fun x y=>x.1 < y.1)→∀x∈l,gu l x.1=x.2
 | [],_,x,h=>by cases h
 | (i,f) ::l,hp,x,h=>by
  obtain ⟨h1,h2⟩:=List.pairwise_cons.1 hp
  rcases List.mem_cons.1 h with rfl | h
  ·simp [gu]
  ·have:=h1 x h
   simp only at this
   simp only [gu]
   rw [if_neg (by simp;omega)]
   exact kh h2 x h
theorem jf {C:Cfg} {ops:List Oper} {j:Nat} {k:List (Nat × bg)→Prop}:∀(l:List Oper) (i:Nat) (s:St) (fl:List (Nat × bg)),(∀n o,l[n]?=some o→ops[i+n]?=some o)→jx C ops j l i s fl k→
  ∃ext s',gP C ops ext s.abs s'/\k (fl++ext)/\(∀x∈ext,i<=x.1)/\ext.Pairwise (fun x y=>x.1 < y.1)
 | [],i,s,fl,_,h=>⟨[],s.abs,rfl,by simpa [jx] using h,by simp,List.Pairwise.nil⟩
 | o ::r,i,s,fl,hl,h=>by
  have hl':∀n o',r[n]?=some o'→ops[i+1+n]?=some o':=fun n o' hn=>by
   have:=hl (n+1) o' (by simpa using hn)
   rw [show i+1+n=i+(n+1) by omega];exact this
  simp only [jx] at h
  split at h
  ·obtain ⟨ext,s',h1,h2,h3,h4⟩:=jf r (i+1) s fl hl' h
   exact ⟨ext,s',h1,h2,fun x hx=>by have:=h3 x hx;omega,h4⟩
  ·rename_i hgd _
   split at h
   ·rename_i e he hpn
    obtain ⟨hask,h⟩:=wV h
    obtain ⟨ext,s',h1,h2,h3,h4⟩:=jf r (i+1) _ _ hl' h
    rw [kP] at h1
    refine ⟨(i,(aC C o s.abs.T s.abs.B,e.upd.map (·.1))) ::ext,s',⟨o,_,by have:=hl 0 o rfl;simpa using this,Or.inl ⟨by simp [eh,hgd],e,he,hask,(fun b pv u q=>?_),rfl,rfl⟩,h1⟩,by simpa [St.abs] using h2,?_,?_⟩
    ·have hpn:bN C o s.abs.T s.abs.B=none:=hpn
     rw [hpn] at q;cases q
    ·intro x hx
     rcases List.mem_cons.1 hx with rfl | hx
     ·exact Nat.le_refl _
     ·have:=h3 x hx;omega
    ·exact List.pairwise_cons.2 ⟨fun x hx=>by have:=h3 x hx;simp;omega,h4⟩
   ·exact h.elim
  ·exact h.elim
theorem vj {ops:List Oper} (he:∀(i:Nat) (o:Oper),ops[i]?=some o→∀e∈o.after.toList,Region.binds .any e=true→e.on < i) {j:Nat} {oj:Oper} (hj:ops[j]?=some oj) {i:Nat} (h:i∈(bF ops).getD j []):i < j:=
 ix he (L:=fun k=>k < j) (fun k o ho hk e hem hb=>Nat.lt_trans (he k o ho e hem hb) hk) (j+1) j oj (by omega) hj (fun e hem hb=>he j oj hj e hem hb) i h
theorem gP.lt {C:Cfg} {ops:Array Oper}:∀{l:List (Nat × bg)} {s t:AS},gP C ops.toList l s t→∀x∈l,x.1 < ops.size
 | [],_,_,_,x,h=>by cases h
 | (i,f) ::l,s,t,⟨o,s1,h1,_,h3⟩,x,h=>by
  rcases List.mem_cons.1 h with rfl | h
  ·rw [Array.getElem?_toList] at h1
   rcases Nat.lt_or_ge i ops.size with k | k
   ·exact k
   ·rw [Array.getElem?_eq_none k] at h1;cases h1
  ·exact gP.lt h3 x h
theorem oc:∀(l:List Nat) (a n:Nat),l.Pairwise (· < ·)→(∀i∈l,a<=i/\i < n)→l.length<=n - a
 | [],_,_,_,_=>by simp
 | i ::l,a,n,hp,h=>by
  obtain ⟨h1,h2⟩:=List.pairwise_cons.1 hp
  have:=oc l (i+1) n h2 (fun k hk=>⟨h1 k hk,(h k (by simp [hk])).2⟩)
  have:=h i (by simp)
  simp;omega
theorem gP.at {C:Cfg} {ops:List Oper}:∀{l:List (Nat × bg)} {s t:AS},gP C ops l s t→∀x∈l,∃o,ops[x.1]?=some o
 | [],_,_,_,x,h=>by cases h
 | (i,f) ::l,s,t,⟨o,s1,h1,_,h3⟩,x,h=>by
  rcases List.mem_cons.1 h with rfl | h
  ·exact ⟨o,h1⟩
  ·exact gP.at h3 x h
theorem ru {l:List Nat} {n j:Nat} (hp:l.Pairwise (· < ·)) (h:∀i∈l,i < n/\i≠j) (hj:j < n):l.length < n:=by
 have hp2:l.Pairwise (fun a b=>(if a < j then a else a - 1) < (if b < j then b else b - 1)):=hp.imp_of_mem fun {a b} ha hb hab=>by
  have:=(h a ha).2;have:=(h b hb).2
  split <;> split <;> omega
 have:=oc (l.map fun i=>if i < j then i else i - 1) 0 (n - 1) (List.pairwise_map.2 hp2) (fun i hi=>by
  obtain ⟨x,hx,rfl⟩:=List.mem_map.1 hi
  have:=h x hx
  split <;> omega)
 rw [List.length_map] at this
 omega
theorem xZ {ops:List Oper} {j:Nat} {fl:List (Nat × bg)} (h:CP ops j fl=true) :
  (∀a f,(a,f)∈fl→a≠j→(∀b g,(b,g)∈fl→a < b→a∈(bF ops).getD b []∨∀x y,ops[a]?=some x→ops[b]?=some y→eE ops x y=true/\cK f g=true)/\
   ((dw ops).getD a 0).testBit j=false)/\
  (∀b g,(b,g)∈fl→j < b→((dw ops).getD b 0).testBit j=true∨∀x y,ops[j]?=some x→ops[b]?=some y→eE ops x y=true/\cK (gu fl j) g=true)/\
  (∀(i:Nat) (o:Oper),ops[i]?=some o→∀e∈o.after.toList,Region.binds .any e=true→e.on < i)/\
  ∀k,k < ops.length→k=j∨(∃f,(k,f)∈fl)∨((dw ops).getD k 0).testBit j=true:=by
 have two:∀{a b:Nat} {f g:bg},(match nth ops a,nth ops b with | some x,some y=>eE ops x y && cK f g | _,_=>false)=true→∀x y,ops[a]?=some x→ops[b]?=some y→eE ops x y=true/\cK f g=true:=by
  intro a b f g h x y hx hy
  simp only [gw,hx,hy,Bool.and_eq_true] at h
  exact h
 simp only [CP,Bool.and_eq_true] at h
 obtain ⟨⟨⟨h1,h2⟩,h3⟩,h4⟩:=h
 rw [List.all_eq_true] at h1 h2 h4
 refine ⟨fun a f hm hne=>?_,fun b g hm hlt=>?_,fun i o ho e hem hb=>?_,fun k hk=>?_⟩
 ·have:=h1 (a,f) hm
  simp only [Bool.or_eq_true,beq_iff_eq,Bool.and_eq_true,Bool.not_eq_true'] at this
  rcases this with q | ⟨q2,q3⟩
  ·exact absurd q hne
  ·refine ⟨fun b g hb hlt=>?_,q3⟩
   rw [List.all_eq_true] at q2
   have:=q2 (b,g) hb
   simp only [Bool.or_eq_true,Bool.not_eq_true'] at this
   rcases this with (q | q) | q
   ·have e:Nat.blt a b=true:=by rw [Nat.blt_eq];exact hlt
    rw [e] at q;cases q
   ·exact .inl ((gm ops).2 _ _ q)
   ·exact .inr (two q)
 ·have:=h2 (b,g) hm
  simp only [Bool.or_eq_true,Bool.not_eq_true'] at this
  rcases this with (q | q) | q
  ·have e:Nat.blt j b=true:=by rw [Nat.blt_eq];exact hlt
   rw [e] at q;cases q
  ·exact .inl q
  ·exact .inr (two q)
 ·rw [List.all_eq_true] at h3
  have hm:(o,i)∈ops.zipIdx:=by
   rw [List.mem_zipIdx_iff_getElem?]
   exact ho
  have:=h3 (o,i) hm
  simp only [Array.all_eq_true,Bool.or_eq_true,Bool.not_eq_true',Nat.blt_eq] at this
  obtain ⟨k,hk,hke⟩:=Array.mem_iff_getElem.1 (Array.mem_toList_iff.1 hem)
  have:=this k hk
  rw [hke] at this
  rcases this with h | h
  ·rw [hb] at h;cases h
  ·exact h
 ·have:=h4 k (List.mem_range.2 hk)
  simp only [Bool.or_eq_true,beq_iff_eq,List.any_eq_true] at this
  rcases this with (q | ⟨x,q1,q2⟩) | q
  ·exact .inl q
  ·exact .inr (.inl ⟨x.2,by rw [←q2];exact q1⟩)
  ·exact .inr (.inr q)
theorem kU (hm:P.follows .mixedOrders=true) (hT:aK P C.tbl) (hS:bu P C.spec) {id:Nat} {draw:Bool}
  (hdst:∀(o:Oper),o∈ops.toList→∀d,o.dst=some d→d < F.n) {kp:AV→St→Prop} {k:St→List bg→Prop} {s:St} {a:Act} {Ω:Om}
  (hrun:bz C ops.toList draw kp ops.toList 0 s [] k) (hind:draw=true→∀s fs,k s fs→dy ops.toList fs=true) (h:Holds F s.abs a Ω)
  (hQ:∀s fs a' Ω',k s fs→Holds F s.abs a' Ω'→Q .normal a' Ω'.w) (hP:∀pv s a' Ω' v,kp pv s→Holds F s.abs a' Ω'→V Ω' pv v→Q (.panic [{v,recovered:=false}]) a' Ω'.w) :
  (Code.region id ops draw).wp P Q a Ω.w:=by
 cases draw with
 | false=>
  refine wp_region ?_
  have:=jF (Q:=Q) hT hS hdst hQ hP ops.toList 0 s [] a Ω rfl hrun h
  rw [List.range_eq_range']
  simpa using this
 | true=>
  rcases nT C ops.toList kp k ops.toList 0 s [] hrun with ⟨s',fl,hr0,hk⟩ | ⟨l1,oj,l2,s1,fs1,e,pv,u,hl,hr1,hg,heff,hask,hpan,hK⟩
  ·simp only [List.reverse_nil,List.nil_append] at hk
   obtain ⟨h1,h2⟩:=pq (hind rfl s' fl hk)
   refine wp_region_any hm ?_
   have hr:=mn C ops.toList ops.toList 0 s.abs s'.abs fl (fun k=>fl.getD k ([],[])) rfl hr0 (fun k=>by simp)
   have:=any_sound (Q:=Q) hT hS hdst (fs:=fun k=>fl.getD k ([],[])) h1 (fun j i hij hj=>h2 j i hij (by simpa using hj)) (fun a' Ω' h'=>hQ s' fl a' Ω' hk h') ops.size (List.range' 0 ops.toList.length)
    (Array.replicate ops.size false) s.abs a ⟨Ω.e,Ω.w.drew,Ω.pub⟩ (by simp) (by simp) (fun i hi=>by simp [Array.getD_eq_getD_getElem?,hi,List.mem_range'])
    (List.pairwise_lt_range') (fun i hi=>by simp [List.mem_range'] at hi;omega)
    (fun i o ho hl=>by
     have hi:i < ops.size:=by
      rw [Array.getElem?_toList] at ho
      rcases Nat.lt_or_ge i ops.size with k | k
      ·exact k
      ·rw [Array.getElem?_eq_none k] at ho;cases ho
     simp [Array.getD_eq_getD_getElem?,hi] at hl) hr h.drew
   exact this
  ·have at0:∀n o,l1[n]?=some o→ops.toList[0+n]?=some o:=fun n o hn=>by
    rw [hl,Nat.zero_add,List.getElem?_append_left (by rcases Nat.lt_or_ge n l1.length with q | q;exact q;rw [List.getElem?_eq_none q] at hn;cases hn)]
    exact hn
   have hj:ops.toList[l1.length]?=some oj:=by rw [hl,List.getElem?_append_right (Nat.le_refl _),Nat.sub_self];rfl
   obtain ⟨hF1,hlen1⟩:=sU l1 0 s.abs s1.abs fs1 at0 hr1
   have at2:∀n o,l2[n]?=some o→ops.toList[0+l1.length+1+n]?=some o:=fun n o hn=>by
    rw [hl,List.getElem?_append_right (by omega),show 0+l1.length+1+n - l1.length=n+1 by omega]
    simpa using hn
   simp only [qP] at hK
   obtain ⟨ext,sE,hF2,hB,hx1,hx2⟩:=jf l2 _ s1 _ at2 hK
   rw [Nat.zero_add] at hB hx1
   have hrev:((aC C oj s1.abs.T s1.abs.B,e.upd.map (·.1)) ::(fs1.reverse++[])).reverse=fs1++[(aC C oj s1.abs.T s1.abs.B,e.upd.map (·.1))]:=by simp
   rw [hrev,o9] at hB
   rw [Nat.zero_add,hlen1] at hB
   obtain ⟨f0,hf0⟩:∃f0:bg,f0=(aC C oj s1.abs.T s1.abs.B,e.upd.map (·.1)):=⟨_,rfl⟩
   rw [←hf0] at hB
   have hN:f0.1=aC C oj s1.abs.T s1.abs.B:=by rw [hf0]
   simp only [bq] at hB
   split at hB
   case h_2=>exact hB.elim
   rename_i hpb
   simp only [Bool.and_eq_true] at hpb
   obtain ⟨⟨⟨hpb,hnn⟩,hpv⟩,hnl⟩:=hpb
   obtain ⟨p1,p2,p3,p4⟩:=xZ hpb
   obtain ⟨A,hA⟩:∃A,A=lk ops.toList l1.length (bq 0 fs1++[(l1.length,f0)]++ext):=⟨_,rfl⟩
   rw [←hA] at hB hnn hnl hpv
   have lostA:∀x∈bq 0 fs1++[(l1.length,f0)]++ext,x.1≠l1.length→((dw ops.toList).getD l1.length 0).testBit x.1=false→∀y∈x.2.2,y∈A:=fun x hx hne hbit y hy=>by
    rw [hA]
    exact List.mem_flatMap.2 ⟨x,List.mem_filter.2 ⟨hx,by rw [hbit];simpa using hne⟩,hy⟩
   obtain ⟨m1,m2,m3⟩:=oa 0 fs1
   rw [Nat.zero_add,hlen1] at m1 m3
   have hsort:(bq 0 fs1++ext).Pairwise (fun x y=>x.1 < y.1):=
    List.pairwise_append.2 ⟨m2,hx2,fun x hx y hy=>by have:=(m1 x hx).2;have:=hx1 y hy;omega⟩
   have inL:∀x∈bq 0 fs1++ext,x∈bq 0 fs1++[(l1.length,f0)]++ext:=fun x hx=>by
    simp only [List.mem_append,List.mem_singleton] at hx ⊢
    rcases hx with q | q <;> simp [q]
   have neJ:∀x∈bq 0 fs1++ext,x.1≠l1.length:=fun x hx=>by
    rcases List.mem_append.1 hx with q | q
    ·have:=(m1 x q).2;omega
    ·have:=hx1 x q;omega
   have hfoot:=kh hsort
   have hL:(bq 0 fs1++[(l1.length,f0)]++ext).Pairwise (fun x y=>x.1 < y.1):=by
    refine List.pairwise_append.2 ⟨List.pairwise_append.2 ⟨m2,List.pairwise_singleton ..,fun x hx y hy=>?_⟩,hx2,fun x hx y hy=>?_⟩
    ·rw [List.mem_singleton.1 hy];exact (m1 x hx).2
    ·have:=hx1 y hy
     rcases List.mem_append.1 hx with q | q
     ·have:=(m1 x q).2;omega
     ·rw [List.mem_singleton.1 q];show l1.length < y.1;omega
   have hfj:gu (bq 0 fs1++[(l1.length,f0)]++ext) l1.length=f0:=kh hL (l1.length,f0) (by simp)
   have jr:∀x∈bq 0 fs1++ext,x.1∈(bF ops.toList).getD l1.length []∨((∀y∈x.2.2,y∈A/\y∉f0.1)/\∀o,ops.toList[x.1]?=some o→∀d,o.dst=some d→d∉cZ ops.toList oj):=by
    intro x hx
    cases hbit:((dw ops.toList).getD l1.length 0).testBit x.1 with
    | true=>exact .inl ((gm ops.toList).2 _ _ hbit)
    | false=>
    obtain ⟨q2,q3⟩:=p1 x.1 x.2 (inL x hx) (neJ x hx)
    have hlost:=lostA x (inL x hx) (neJ x hx) hbit
    rcases List.mem_append.1 hx with q | q
    ·rcases q2 l1.length f0 (by simp) (m1 x q).2 with q2 | q2
     ·exact .inl q2
     ·obtain ⟨o,ho⟩:∃o,ops.toList[x.1]?=some o:=by
       have h2:l1.length < ops.toList.length:=by rw [hl];simp
       exact ⟨_,List.getElem?_eq_getElem (Nat.lt_trans (m1 x q).2 h2)⟩
      have r2:=(q2 o oj ho hj).2
      simp only [cK,Bool.and_eq_true] at r2
      refine .inr ⟨fun y hy=>⟨hlost y hy,fun hm=>di r2.1 y hy (by simp [hm])⟩,fun o ho d hd hm=>?_⟩
      have:=(q2 o oj ho hj).1
      simp only [eE,hd,Bool.and_eq_true,Bool.not_eq_true',List.contains_eq_mem,decide_eq_false_iff_not] at this
      exact this.1.1 hm
    ·rcases p2 x.1 x.2 (inL x hx) (by have:=hx1 x q;omega) with r | r
     ·rw [q3] at r;cases r
     ·rw [hfj] at r
      obtain ⟨o,ho⟩:=gP.at hF2 x q
      have r2:=(r oj o hj ho).2
      simp only [cK,Bool.and_eq_true] at r2
      refine .inr ⟨fun y hy=>⟨hlost y hy,fun hm=>di r2.2 y hy hm⟩,fun o ho d hd hm=>?_⟩
      have:=(r oj o hj ho).1
      simp only [eE,hd,Bool.and_eq_true,Bool.not_eq_true',List.contains_eq_mem,decide_eq_false_iff_not] at this
      exact this.2 hm
   have hR:=(gP.app hF1 hF2).toI (fs:=gu (bq 0 fs1++ext)) hfoot
   have hR2:=hF2.toI (fs:=gu (bq 0 fs1++ext)) (fun x hx=>hfoot x (by simp [hx]))
   have ofR:∀i∈(bq 0 fs1++ext).map (·.1),∃f,(i,f)∈bq 0 fs1++ext/\gu (bq 0 fs1++ext) i=f:=fun i hi=>by
    obtain ⟨x,hx,rfl⟩:=List.mem_map.1 hi
    exact ⟨x.2,hx,hfoot x hx⟩
   obtain ⟨eB,g1,e1,n1,k1⟩:=iv.fwd (A:=A) _ _ _ hR2 hN.symm (fun i hi=>by
    obtain ⟨x,hx,rfl⟩:=List.mem_map.1 hi
    rw [hfoot x (by simp [hx])]
    rcases jr x (by simp [hx]) with q | q
    ·exact absurd q (by
      intro q
      have hlt:x.1 < l1.length:=vj p3 hj q
      have:=hx1 x hx;omega)
    ·exact q) hg heff hpan
   refine wp_region_any hm ?_
   have hsz:∀x∈bq 0 fs1++ext,x.1 < ops.size:=fun x hx=>by
    rcases List.mem_append.1 hx with q | q
    ·have:=(m1 x q).2
     have h2:l1.length < ops.toList.length:=by rw [hl];simp
     simpa using Nat.lt_trans this h2
    ·exact gP.lt hF2 x q
   refine xY (Q:=Q) (A:=A) hT hS hdst (D:=fun i=>i=l1.length∨((dw ops.toList).getD i 0).testBit l1.length=true) hj g1 e1 hask n1 p3 (.inl rfl)
    (fun i hi hne=>by rcases hi with q | q;exact absurd q hne;exact (gm ops.toList).2 _ _ q) (fun a' Ω' v B hBB h' hv=>?_) _ _ ops.size
    (Array.replicate ops.size false) s.abs a ⟨Ω.e,Ω.w.drew,Ω.pub⟩ rfl ?_ (by simp) (fun i hi=>?_) ?_ (fun i hi=>?_) (fun i hi k hk hlt=>?_) (fun i hi=>?_) (fun i o ho hlst=>?_) hR h.drew
   ·have kb:∀i,(sg A (bR s1.b u)).abs.B i=if i∈A then none else bJ s1.abs.B u i:=fun i=>by
     have e1:(sg A (bR s1.b u)).abs.B i=aj ((bR s1.b u).filter fun x=>!A.contains x.1) i:=rfl
     have e2:aj (bR s1.b u) i=bJ s1.abs.B u i:=by
      have:=congrArg (fun f=>f i) (fV u s1.b)
      exact this
     rw [e1,fa (bR s1.b u) (fun k=>!A.contains k) i,e2]
     by_cases hi:i∈A <;> simp [hi]
    have h2:=h'.forget0 (s':=sg A (bR s1.b u)) (A:=A) (fun i=>.inl rfl) (fun i hi=>by rw [kb,if_pos hi])
     (fun i hi=>by rw [kb,if_neg hi];exact iu u _ _ i ((hBB i hi).trans (eB i hi)).symm) hnn (fun i hi=>by have:=List.all_eq_true.1 hnl i hi;simpa using this)
    exact hP pv _ a' ⟨fun i=>if i∈A then none else Ω'.e i,Ω'.w,Ω'.pub⟩ v hB h2 (hv.agree fun i hi=>if_neg (di hpv i hi))
   ·
    have hnd:((bq 0 fs1++ext).map (·.1)).Pairwise (· < ·):=List.pairwise_map.2 hsort
    have hjs:l1.length < ops.size:=by
     have h2:l1.length < ops.toList.length:=by rw [hl];simp
     simpa using h2
    exact ru hnd (fun i hi=>by obtain ⟨x,hx,rfl⟩:=List.mem_map.1 hi;exact ⟨hsz x hx,neJ x hx⟩) hjs
   ·constructor
    ·intro _
     rcases p4 i (by simpa using hi) with q | ⟨f,q⟩ | q
     ·exact .inr (.inl q)
     ·simp only [List.mem_append,List.mem_singleton,Prod.mk.injEq] at q
      rcases q with (q | ⟨q,_⟩) | q
      ·exact .inl (List.mem_map.2 ⟨_,List.mem_append.2 (.inl q),rfl⟩)
      ·exact .inr (.inl q)
      ·exact .inl (List.mem_map.2 ⟨_,List.mem_append.2 (.inr q),rfl⟩)
     ·exact .inr (.inr q)
    ·intro _
     simp [Array.getD_eq_getD_getElem?,hi]
   ·exact List.pairwise_map.2 hsort
   ·obtain ⟨f,hf,_⟩:=ofR i hi
    refine ⟨hsz _ hf,fun hd=>?_⟩
    rcases hd with q | q
    ·exact neJ _ hf q
    ·have:=(p1 i f (inL _ hf) (neJ _ hf)).2
     rw [this] at q;cases q
   ·obtain ⟨f,hf,ef⟩:=ofR i hi
    obtain ⟨g,hg',eg⟩:=ofR k hk
    rcases (p1 i f (inL _ hf) (neJ _ hf)).1 k g (inL _ hg') hlt with q | q
    ·exact .inl q
    ·exact .inr fun x y hx hy=>by rw [ef,eg];exact q x y hx hy
   ·obtain ⟨f,hf,ef⟩:=ofR i hi
    rw [ef,k1]
    exact jr _ hf
   ·have hi:i < ops.size:=by
     rw [Array.getElem?_toList] at ho
     rcases Nat.lt_or_ge i ops.size with k | k
     ·exact k
     ·rw [Array.getElem?_eq_none k] at ho;cases ho
    simp [Array.getD_eq_getD_getElem?,hi] at hlst
end
end Go.AL
end
noncomputable section
namespace Go.AL
variable [Tabs]
section
variable {k:Nat} {τ:Ty} {x:den τ}
theorem lJ:∀(l:List AV) (j:Nat),(finVs k τ x l)[j]?=(l[j]?).map (finV k τ x)
 | [],j=>by simp [finVs]
 | a ::r,0=>by simp [finVs]
 | a ::r,j+1=>by simp only [finVs,List.getElem?_cons_succ];exact lJ r j
theorem iA:∀l:List AV,(finVs k τ x l).length=l.length
 | []=>rfl
 | a ::r=>by simp [finVs,iA r]
theorem od (σ:Ty) (y:den σ):∀d∈cells σ y,finV k τ x d=d:=by
 cases σ with
 | st n=>cases n <;> simp [cells,cJ,fA,dI,ek,eo,ep,cw,ew,gz,fB,fC,fD,gA,gB,fM,fE,ju,ez,gC,fq,gD,gE,fF,dC,fG,eA,gF,finV]
 | _=>simp [cells,finV]
theorem mv (σ:Ty) (y:den σ):∀d∈cells σ y,lensV k d=[]:=by
 cases σ with
 | st n=>cases n <;> simp [cells,cJ,fA,dI,ek,eo,ep,cw,ew,gz,fB,fC,fD,gA,gB,fM,fE,ju,ez,gC,fq,gD,gE,fF,dC,fG,eA,gF,lensV]
 | _=>simp [cells,lensV]
theorem y7 (σ:Ty) (ys:List (den σ)):∀d∈aX σ ys,finV k τ x d=d:=by
 intro d hd
 simp only [aX,List.mem_flatMap] at hd
 obtain ⟨y,_,hy⟩:=hd
 exact od σ y d hy
theorem vk (σ:Ty) (ys:List (den σ)):∀d∈aX σ ys,lensV k d=[]:=by
 intro d hd
 simp only [aX,List.mem_flatMap] at hd
 obtain ⟨y,_,hy⟩:=hd
 exact mv σ y d hy
theorem oe (d:AV):(aa (finV k τ x d)).length=(aa d).length/\∀(j:Nat) (a:AV),(aa d)[j]?=some a→(aa (finV k τ x d))[j]?=some (finV k τ x a):=by
 have one:∀{d:AV},aa d=[d]→aa (finV k τ x d)=[finV k τ x d]→(aa (finV k τ x d)).length=(aa d).length/\
   ∀(j:Nat) (a:AV),(aa d)[j]?=some a→(aa (finV k τ x d))[j]?=some (finV k τ x a):=by
  intro d h1 h2
  rw [h1,h2]
  refine ⟨rfl,fun j a ha=>?_⟩
  cases j with
  | zero=>simp at ha;subst ha;rfl
  | succ j=>simp at ha
 cases d with
 | agg cs=>exact ⟨iA cs,fun j a ha=>by show (finVs k τ x cs)[j]?=_;rw [lJ];have:cs[j]?=some a:=ha;rw [this];rfl⟩
 | st n y=>exact ⟨rfl,fun j a ha=>by show (cells (.st n) y)[j]?=_;rw [od (.st n) y a (List.mem_of_getElem? ha)];exact ha⟩
 | row σ ys=>exact ⟨rfl,fun j a ha=>by show (aX σ ys)[j]?=_;rw [y7 σ ys a (List.mem_of_getElem? ha)];exact ha⟩
 | lstp σ xs j=>
  refine one rfl ?_
  simp only [finV]
  split
  ·split <;> rfl
  ·rfl
 | tptr σ n j=>
  refine one rfl ?_
  simp only [finV]
  split <;> rfl
 | _=>exact one rfl rfl
theorem ki:∀{l:List AV} {j:Nat} {c:AV},l[j]?=some c→∀m∈lensV k c,m∈lensVs k l
 | a ::r,0,c,h,m,hm=>by
  simp at h
  subst h
  simp [lensVs,hm]
 | a ::r,j+1,c,h,m,hm=>by
  simp only [lensVs,List.mem_append]
  exact Or.inr (ki (by simpa using h) m hm)
theorem og {d c:AV} {j:Nat} (h:(aa d)[j]?=some c):∀m∈lensV k c,m∈lensV k d:=by
 intro m hm
 cases d with
 | agg cs=>exact ki h m hm
 | st n y=>rw [mv (.st n) y c (List.mem_of_getElem? h)] at hm;cases hm
 | row σ ys=>rw [vk σ ys c (List.mem_of_getElem? h)] at hm;cases hm
 | _=>
  cases j with
  | zero=>simp only [aa,List.getElem?_cons_zero,Xs] at h;subst h;exact hm
  | succ j=>simp [aa] at h
structure Told (Ω:Om) (k:Nat) (τ:Ty) (n:Nat) (x:den τ) (b cap:Nat) (vals:Nat→Value):Prop where
 e:Ω.e k=some (.tail (n+1) (some b) cap)
 c1:n+1<=cap
 c2:cap<=bn
 at_:∀(j:Nat) (c:AV),(cells τ x)[j]?=some c→Ω.pub b (n *ae τ+j)/\Ω.w.cell? ⟨b,n *ae τ+j,none⟩=some (vals j)/\V Ω c (vals j)
theorem V.finV {Ω:Om} {n b cap:Nat} {vals:Nat→Value} (ht:Told Ω k τ n x b cap vals) {a:AV} {v:Value} (h:V Ω a v):(∀m∈lensV k a,m=n)→V Ω (AL.finV k τ x a) v:=by
 have many:∀{cs:List AV} {vs:List Value},cs.length=vs.length→(∀m∈lensVs k cs,m=n)→(∀(j:Nat) (d:AV) (v:Value),cs[j]?=some d→vs[j]?=some v→(∀m∈lensV k d,m=n)→V Ω (AL.finV k τ x d) v)→
   (finVs k τ x cs).length=vs.length/\∀(j:Nat) (d:AV) (v:Value),(finVs k τ x cs)[j]?=some d→vs[j]?=some v→V Ω d v:=by
  intro cs vs hl hm ih
  refine ⟨by rw [iA,hl],fun j d v hd hv=>?_⟩
  rw [lJ] at hd
  simp only [Option.map_eq_some_iff] at hd
  obtain ⟨d0,hd0,rfl⟩:=hd
  exact ih j d0 v hd0 hv (fun m hmm=>hm m (ki hd0 m hmm))
 induction h with
 | lstp σ xs j b' off cap' vals' h1 h2 h3 h4 h5 _=>
  intro hm
  simp only [AL.finV]
  split
  ·rename_i hjk
   have hjk:=Nat.eq_of_beq_eq_true hjk
   subst hjk
   split
   ·rename_i l hl
    obtain ⟨e,hl⟩:=gK hl
    subst e
    simp only at hl
    subst hl
    have hlen:xs.length=n:=hm xs.length (by simp [lensV])
    obtain ⟨m,base,cap2,r1,r2,r3⟩:=h3 _ rfl
    rw [ht.e] at r1
    simp only [Xs,CObj.tail.injEq] at r1
    obtain ⟨rfl,rfl,rfl⟩:=r1
    have r3:=r3 (by omega)
    simp only [dr,Value.slice.injEq,Xs,Addr.mk.injEq,true_and,and_true] at r3
    obtain ⟨⟨rfl,rfl⟩,rfl⟩:=r3
    have hlx:(xs++[x]).length=xs.length+1:=by simp
    have hcase:∀(i:Nat) (y:den τ),(xs++[x])[i]?=some y→(i < xs.length/\xs[i]?=some y)∨(i=xs.length/\y=x):=by
     intro i y hy
     by_cases hi:i < xs.length
     ·rw [List.getElem?_append_left hi] at hy;exact Or.inl ⟨hi,hy⟩
     ·rw [List.getElem?_append_right (by omega)] at hy
      have:i - xs.length=0:=by
       rcases Nat.eq_zero_or_pos (i - xs.length) with q | q
       ·exact q
       ·rw [List.getElem?_eq_none (by simp;omega)] at hy;cases hy
      rw [this] at hy
      simp at hy
      exact Or.inr ⟨by omega,hy.symm⟩
    have:=V.lst (Ω:=Ω) τ (xs++[x]) (some j) b' 0 cap' (fun i q=>if i < xs.length then vals' i q else vals q) (by rw [hlx];exact h1) h2 (by
      rw [hlx]
      intro id hid
      cases hid
      exact ⟨n+1,some b',cap',ht.e,by omega,fun e=>by simp [dr]⟩)
     (fun i y hy q c hc=>by
      rcases hcase i y hy with ⟨hi,hy'⟩ | ⟨rfl,rfl⟩
      ·simp only [if_pos hi];exact h4 i y hy' q c hc
      ·simp only [Nat.lt_irrefl,if_false,Nat.zero_add]
       have:=ht.at_ q c hc
       rw [←hlen] at this
       exact ⟨this.1,this.2.1⟩)
     (fun i y hy q c hc=>by
      rcases hcase i y hy with ⟨hi,hy'⟩ | ⟨rfl,rfl⟩
      ·simp only [if_pos hi];exact h5 i y hy' q c hc
      ·simp only [Nat.lt_irrefl,if_false]
       exact (ht.at_ q c hc).2.2)
    rw [hlx] at this
    exact this
   ·exact .undef _
  ·exact .lstp σ xs j b' off cap' vals' h1 h2 h3 h4 h5
 | tptr σ m j p hp=>
  intro _
  simp only [AL.finV]
  split
  ·exact .undef _
  ·exact .tptr σ m j p hp
 | cptr d b' o vs h1 h2 ih=>
  intro hm
  obtain ⟨p1,p2⟩:=oe (k:=k) (τ:=τ) (x:=x) d
  have back:∀(j:Nat) (d':AV),(aa (AL.finV k τ x d))[j]?=some d'→∃d0,(aa d)[j]?=some d0/\d'=AL.finV k τ x d0:=by
   intro j d' hd'
   have hj:j < (aa d).length:=by
    rw [←p1]
    rcases Nat.lt_or_ge j (aa (AL.finV k τ x d)).length with q | q
    ·exact q
    ·rw [List.getElem?_eq_none q] at hd';cases hd'
   have:=p2 j _ (List.getElem?_eq_getElem hj)
   rw [hd'] at this
   exact ⟨_,List.getElem?_eq_getElem hj,Option.some.inj this⟩
  refine .cptr _ b' o vs (fun j d' hd'=>?_) (fun j d' hd'=>?_)
  ·obtain ⟨d0,q1,_⟩:=back j d' hd'
   exact h1 j d0 q1
  ·obtain ⟨d0,q1,rfl⟩:=back j d' hd'
   exact ih j d0 q1 (fun m hmm=>hm m (by simp only [lensV];exact og q1 m hmm))
 | agg cs vs hl _ ih=>
  intro hm
  obtain ⟨q1,q2⟩:=many hl (by simpa [lensV] using hm) ih
  exact .agg _ vs q1 q2
 | tup cs vs hl _ ih=>
  intro hm
  obtain ⟨q1,q2⟩:=many hl (by simpa [lensV] using hm) ih
  exact .tup _ vs q1 q2
 | fn f cs vs hl _ ih=>
  intro hm
  obtain ⟨q1,q2⟩:=many hl (by simpa [lensV] using hm) ih
  exact .fn f _ vs q1 q2
 | iface t a v _ ih=>intro hm;exact .iface t _ v (ih (by simpa [lensV] using hm))
 | undef v=>exact fun _=>.undef v
 | int k n h1 h2=>exact fun _=>.int k n h1 h2
 | bool b=>exact fun _=>.bool b
 | str s h=>exact fun _=>.str s h
 | lstNil τ o ht=>exact fun _=>.lstNil τ o ht
 | lstVoid τ a=>exact fun _=>.lstVoid τ a
 | lst τ xs o b' off' cap vals' h1 h2 h3 h4 h5 _=>exact fun _=>.lst τ xs o b' off' cap vals' h1 h2 h3 h4 h5
 | nils=>exact fun _=>.nils
 | nilp=>exact fun _=>.nilp
 | ptr i o b' p len he=>exact fun _=>.ptr i o b' p len he
 | ptNone n=>exact fun _=>.ptNone n
 | ptSome n x v hv _=>exact fun _=>.ptSome n x v hv
 | arr i n w b' len cap a he h1 h2 h3 h4=>exact fun _=>.arr i n w b' len cap a he h1 h2 h3 h4
 | aptr i n w o b' p len he=>exact fun _=>.aptr i n w o b' p len he
 | map i r he=>exact fun _=>.map i r he
 | bptr i b g he=>exact fun _=>.bptr i b g he
 | nilif=>exact fun _=>.nilif
 | nilm=>exact fun _=>.nilm
 | st n x v hv _=>exact fun _=>.st n x v hv
end
theorem jg {n:Nat}:∀{l:List Nat} {q:Prop},qR n l q→(∀m∈l,m=n)/\q
 | [],q,h=>⟨fun _ hm=>absurd hm List.not_mem_nil,h⟩
 | m ::r,q,h=>by
  obtain ⟨h1,h2⟩:=h
  obtain ⟨h3,h4⟩:=jg h2
  exact ⟨fun i hi=>(List.mem_cons.1 hi).elim (fun e=>e ▸ h1) (h3 i),h4⟩
theorem vl {F:Fr} {s:St} {a:Act} {Ω:Om} {k:Nat} {Q:St→Prop} (h:Holds F s.abs a Ω) (hf:uM k s Q):∃s' Ω',Ω'.w=Ω.w/\Holds F s'.abs a Ω'/\Q s':=by
 unfold uM at hf
 split at hf
 ·rename_i τ n x hb
  obtain ⟨hlens,hq⟩:=jg hf
  refine ⟨⟨s.t.map fun y=>(y.1,finV k τ x y.2),(mJ s.b k (.tail τ (n+1))).map fun y=>(y.1,xB k τ x y.2)⟩,?_⟩
  obtain ⟨b,cap,e1,e2,e3,e4,⟨vs,ty,fz,e5,e6,e7⟩,e8,e9⟩:=h.slots k _ hb
  let Ω1:Om:=⟨Ω.e,Ω.w,fun b' o=>Ω.pub b' o∨(b'=b/\n *ae τ<=o/\o < n *ae τ+ae τ)⟩
  have hx1:Ext Ω Ω1:=⟨fun i c hc=>⟨c,hc,CLe.refl c⟩,fun _ _ p=>Or.inl p,fun _ _ _=>rfl⟩
  have htold:Told Ω1 k τ n x b cap (fun j=>(Ω.w.cell? ⟨b,n *ae τ+j,none⟩).getD undef):=by
   refine ⟨e1,e2,e3,fun j c hc=>?_⟩
   obtain ⟨v,k1,k2⟩:=e9 j c hc
   have hj:j < ae τ:=by
    rw [←aM τ x]
    rcases Nat.lt_or_ge j (cells τ x).length with q | q
    ·exact q
    ·rw [List.getElem?_eq_none q] at hc;cases hc
   refine ⟨Or.inr ⟨rfl,by omega,by omega⟩,?_,?_⟩
   ·show Ω.w.cell? _=_
    rw [k1];rfl
   ·simp only [k1,Option.getD_some]
    exact k2.ext hx1
  have hcell:∀o,n *ae τ<=o→o < n *ae τ+ae τ→∃v,Ω.w.cell? ⟨b,o,none⟩=some v:=by
   intro o h1 h2
   have hj:o - n *ae τ < (cells τ x).length:=by rw [aM];omega
   obtain ⟨v,k1,_⟩:=e9 (o - n *ae τ) _ (List.getElem?_eq_getElem hj)
   exact ⟨v,by rw [show n *ae τ+(o - n *ae τ)=o by omega] at k1;exact k1⟩
  refine ⟨Ω1,rfl,⟨fun i=>?_,h.size,h.defers,fun id o ho=>?_,fun id hid=>?_,h.inj,fun b' o hp=>?_,h.keep,?_⟩,hq⟩
  ·simp only [St.abs]
   rw [kT (finV k τ x) rfl s.t i]
   refine V.finV htold ((h.tmps i).ext hx1) (fun m hm=>?_)
   rcases kR s.t i with hu | hm'
   ·rw [hu] at hm;cases hm
   ·exact hlens m (List.mem_append_left _ (List.mem_flatMap.2 ⟨_,hm',hm⟩))
  ·simp only [St.abs] at ho
   rw [je (xB k τ x) _ id,fK] at ho
   by_cases hid:k=id
   ·subst hid
    rw [if_pos rfl] at ho
    simp only [Option.map_some,Xs,xB] at ho
    subst ho
    refine ⟨some b,cap,e1,e2,e3,by simp,fun b2 hb2=>?_⟩
    simp only [Xs] at hb2
    subst hb2
    refine ⟨e4,vs,ty,fz,e5,e6,e7,fun o ho hp=>?_⟩
    rw [Nat.add_mul,Nat.one_mul] at ho
    rcases hp with hp | ⟨_,hp1,hp2⟩
    ·exact e8 o (by omega) hp
    ·omega
   ·rw [if_neg hid] at ho
    simp only [Option.map_eq_some_iff] at ho
    obtain ⟨o0,ho0,rfl⟩:=ho
    have hs:=h.slots id o0 ho0
    have apart:∀c0,Ω.e id=some c0→∀b' o,occ c0 b' o→b'≠b:=by
     intro c0 hc0 b' o hoc hk
     subst hk
     exact hid (h.inj k id _ c0 b' o e1 hc0 rfl hoc)
    cases o0 with
    | box d=>
     obtain ⟨b2,off2,g1,g2⟩:=hs
     obtain ⟨p1,p2⟩:=oe (k:=k) (τ:=τ) (x:=x) d
     refine ⟨b2,off2,by show Ω.e id=_;rw [g1,p1],fun j d' hd'=>?_⟩
     have hj:j < (aa d).length:=by
      rw [←p1]
      rcases Nat.lt_or_ge j (aa (finV k τ x d)).length with q | q
      ·exact q
      ·rw [List.getElem?_eq_none q] at hd';cases hd'
     have hd2:=p2 j _ (List.getElem?_eq_getElem hj)
     rw [hd'] at hd2
     obtain ⟨m1,m2,m3,v,m4,m5⟩:=g2 j _ (List.getElem?_eq_getElem hj)
     refine ⟨m1,fun hp=>?_,m3,v,m4,?_⟩
     ·rcases hp with hp | hp
      ·exact m2 hp
      ·exact apart _ g1 b2 (off2+j) ⟨rfl,by omega,by omega⟩ hp.1
     ·rw [Option.some.inj hd2]
      refine V.finV htold (m5.ext hx1) (fun m hm=>hlens m (List.mem_append_right _ (List.mem_flatMap.2 ⟨(id,.box d),cd _ _ _ ho0,?_⟩)))
      exact og (List.getElem?_eq_getElem hj) m hm
    | tail σ m=>
     obtain ⟨base,cap2,g1,g2,g3,g4,g5⟩:=hs
     refine ⟨base,cap2,g1,g2,g3,g4,fun b2 hb2=>?_⟩
     obtain ⟨m1,vs',ty',fz',m2,m3,m4,m5⟩:=g5 b2 hb2
     refine ⟨m1,vs',ty',fz',m2,m3,m4,fun o ho hp=>?_⟩
     rcases hp with hp | hp
     ·exact m5 o ho hp
     ·exact apart _ g1 b2 o hb2 hp.1
    | map κ σ m=>
     obtain ⟨r,g1,g2,es,clock,g3,g4⟩:=hs
     exact ⟨r,g1,g2,es,clock,g3,g4.ext hx1⟩
    | bld t u l=>
     obtain ⟨b2,g,g1,g2,g3⟩:=hs
     refine ⟨b2,g,g1,fun b3 hb3 o=>⟨(g2 b3 hb3 o).1,fun hp=>?_⟩,g3⟩
     rcases hp with hp | hp
     ·exact (g2 b3 hb3 o).2 hp
     ·exact apart _ g1 b3 o hb3 hp.1
    | tailp σ m y=>
     obtain ⟨b2,cap2,g1,g2,g3,g4,g5,g6,g7⟩:=hs
     refine ⟨b2,cap2,g1,g2,g3,g4,g5,fun o ho hp=>?_,fun j c hc=>?_⟩
     ·rcases hp with hp | hp
      ·exact g6 o ho hp
      ·exact apart _ g1 b2 o rfl hp.1
     ·obtain ⟨v,k1,k2⟩:=g7 j c hc
      exact ⟨v,k1,k2.ext hx1⟩
  ·simp only [St.abs] at hid
   rw [je (xB k τ x) _ id,fK] at hid
   by_cases hk:k=id
   ·subst hk;simp at hid
   ·rw [if_neg hk] at hid
    exact h.dom id (by show aj s.b id=none;simpa using hid)
  ·rcases hp with hp | ⟨rfl,hp1,hp2⟩
   ·exact h.pubok b' o hp
   ·exact hcell o hp1 hp2
  ·refine ⟨h.frame.os,h.frame.tape,h.frame.output,h.frame.size,h.frame.block,h.frame.cell,h.frame.kind,fun b' o hp=>?_,fun b' o hp=>Or.inl (h.frame.old b' o hp),h.frame.pcell⟩
   rcases hp with hp | ⟨rfl,hp1,hp2⟩
   ·exact h.frame.pub b' o hp
   ·exact Or.inr (e4 o)
 ·exact ⟨s,Ω,rfl,h,hf⟩
theorem oh {F:Fr} {a:Act} {Q:St→Prop}:∀(l:List Nat) {s:St} {Ω:Om},Holds F s.abs a Ω→uN l s Q→∃s' Ω',Ω'.w=Ω.w/\Holds F s'.abs a Ω'/\Q s'
 | [],s,Ω,h,hf=>⟨s,Ω,rfl,h,hf⟩
 | k ::r,s,Ω,h,hf=>by
  obtain ⟨s1,Ω1,g1,g2,g3⟩:=vl (Q:=fun s=>uN r s Q) h hf
  obtain ⟨s2,Ω2,k1,k2,k3⟩:=oh r g2 g3
  exact ⟨s2,Ω2,k1.trans g1,k2,k3⟩
theorem oi {F:Fr} {a:Act} {Q:St→Prop} {s:St} {Ω:Om} (h:Holds F s.abs a Ω) (hf:CR s Q):∃s' Ω',Ω'.w=Ω.w/\Holds F s'.abs a Ω'/\Q s':=oh _ h hf
theorem y8 {k:Nat} {s:St} {Q:St→Prop} (hf:uM k s Q):∃s',Q s':=by
 unfold uM at hf
 split at hf
 ·exact ⟨_,(jg hf).2⟩
 ·exact ⟨s,hf⟩
theorem lK {Q:St→Prop}:∀(l:List Nat) {s:St},uN l s Q→∃s',Q s'
 | [],s,hf=>⟨s,hf⟩
 | k ::r,s,hf=>by
  obtain ⟨s1,h1⟩:=y8 (Q:=fun s=>uN r s Q) hf
  exact lK r h1
end Go.AL
end
noncomputable section
namespace Go.AL
theorem jh (i j k:Nat):cP i j k=if k=i then j else if k=j then i else k:=by
 unfold cP
 by_cases h:k=i
 ·rw [if_pos h,h,Nat.beq_refl]
 ·have h':Nat.beq k i=false:=by
   cases hb:Nat.beq k i with
   | false=>rfl
   | true=>exact absurd (Nat.eq_of_beq_eq_true hb) h
  rw [if_neg h,h']
  by_cases g:k=j
  ·rw [if_pos g,g,Nat.beq_refl]
  ·have g':Nat.beq k j=false:=by
    cases hb:Nat.beq k j with
    | false=>rfl
    | true=>exact absurd (Nat.eq_of_beq_eq_true hb) g
   rw [if_neg g,g']
theorem dG (i j k:Nat):cP i j (cP i j k)=k:=by
 rw [jh i j k]
 split
 ·rename_i h;rw [jh];split <;> simp_all
 ·rename_i h
  split
  ·rename_i g;rw [jh];simp_all
  ·rename_i g;rw [jh,if_neg h,if_neg g]
variable [Tabs]
theorem sV (i j:Nat):∀(l:List (Nat × AV)) (k:Nat),aL (xC i j l) k=.undef∨zy i j (aL l k)=some (aL (xC i j l) k)
 | [],k=>.inl rfl
 | (m,a) ::r,k=>by
  simp only [xC,cN,cu]
  by_cases h:(m ==k)=true
  ·rw [if_pos h,if_pos h]
   cases hr:zy i j a with
   | none=>exact .inl rfl
   | some a'=>exact .inr rfl
  ·rw [if_neg h,if_neg h]
   exact sV i j r k
inductive RenO (i j:Nat):SObj→SObj→Prop
 | box {c c':AV}:zy i j c=some c'→RenO i j (.box c) (.box c')
 | same {o:SObj}:(∀c,o≠.box c)→RenO i j o o
theorem om (i j:Nat):∀{l m:List (Nat × SObj)},pe i j l=some m→∀k,(∀o',aj m k=some o'→∃o,aj l (cP i j k)=some o/\RenO i j o o')/\(aj m k=none→aj l (cP i j k)=none)
 | [],m,h,k=>by cases h;exact ⟨fun o' q=>(by cases q),fun _=>rfl⟩
 | (n,o) ::r,m,h,k=>by
  have step:∀{o1:SObj} {r':List (Nat × SObj)},pe i j r=some r'→RenO i j o o1→m=(cP i j n,o1) ::r'→
    (∀o',aj m k=some o'→∃o2,aj ((n,o) ::r) (cP i j k)=some o2/\RenO i j o2 o')/\(aj m k=none→aj ((n,o) ::r) (cP i j k)=none):=by
   rintro o1 r' hr ho rfl
   obtain ⟨h1,h2⟩:=om i j hr k
   simp only [aH,aF,beq_iff_eq]
   by_cases e:cP i j n=k
   ·have e':n=cP i j k:=by rw [←e,dG]
    rw [if_pos e,if_pos e']
    exact ⟨fun o' q=>⟨o,rfl,(by cases q;exact ho)⟩,fun q=>(by cases q)⟩
   ·have e':¬n=cP i j k:=fun q=>e (by rw [q,dG])
    rw [if_neg e,if_neg e']
    exact ⟨h1,h2⟩
  cases o with
  | box c=>
   simp only [pe] at h
   split at h
   ·rename_i c' r' hc hr
    exact step hr (.box hc) (Option.some.inj h).symm
   ·cases h
  | tail τ n'=>
   simp only [pe] at h
   split at h
   ·rename_i r' hr;exact step hr (.same (fun c q=>by cases q)) (Option.some.inj h).symm
   ·cases h
  | map κ τ m'=>
   simp only [pe] at h
   split at h
   ·rename_i r' hr;exact step hr (.same (fun c q=>by cases q)) (Option.some.inj h).symm
   ·cases h
  | bld t u l'=>
   simp only [pe] at h
   split at h
   ·rename_i r' hr;exact step hr (.same (fun c q=>by cases q)) (Option.some.inj h).symm
   ·cases h
  | tailp τ n' x=>
   simp only [pe] at h
   split at h
   ·rename_i r' hr;exact step hr (.same (fun c q=>by cases q)) (Option.some.inj h).symm
   ·cases h
theorem oq {F:Fr} {s s':St} {a:Act} {Ω:Om} {i j:Nat} (h:Holds F s.abs a Ω) (hr:BF i j s=some s'):∃Ω',Ω'.w=Ω.w/\Holds F s'.abs a Ω':=by
 unfold BF at hr
 split at hr
 ·rename_i hl
  simp only [Bool.and_eq_true,Bool.not_eq_true'] at hl
  obtain ⟨hi,hj⟩:=hl
  split at hr
  ·rename_i b hb
   cases hr
   have hn:Names (fun k o=>some (cP i j k,o)) (fun k=>some (cP i j k)) (fun k=>some (cP i j k)) Ω.e (fun k=>Ω.e (cP i j k)):=by
    refine ⟨?_,?_,?_⟩
    ·intro k o k' o' q b p l he
     cases q
     exact ⟨p,l,by simp only [dG];exact he,rfl⟩
    ·intro k k' q c he
     cases q
     simp only [dG];exact he
    ·intro k k' q c he
     cases q
     simp only [dG];exact he
   refine ⟨⟨fun k=>Ω.e (cP i j k),Ω.w,Ω.pub⟩,rfl,fun k=>?_,h.size,h.defers,fun id o ho=>?_,fun id hid=>?_,fun x y cx cy b o hx hy hbx hby=>?_,h.pubok,fun id c hc=>?_,?_⟩
   ·rcases sV i j s.t k with e | e
    ·have e:(St.abs ⟨xC i j s.t,b⟩).T k=.undef:=e
     rw [e];exact .undef _
    ·exact V.mapV hn (h.tmps k) e
   ·obtain ⟨o0,h1,h2⟩:=(om i j hb id).1 o ho
    have hs:=h.slots (cP i j id) o0 h1
    cases h2 with
    | @box c c' hc=>
     obtain ⟨b',off,g1,g2⟩:=hs
     obtain ⟨hlen,hat⟩:=fU hc
     refine ⟨b',off,by show Ω.e (cP i j id)=_;rw [g1,hlen],fun k d' hd=>?_⟩
     have hk:k < (aa c).length:=by rw [hlen];exact (List.getElem?_eq_some_iff.1 hd).1
     obtain ⟨d,hd0⟩:∃d,(aa c)[k]?=some d:=⟨_,List.getElem?_eq_getElem hk⟩
     obtain ⟨k1,k2,k3,v,k4,k5⟩:=g2 k d hd0
     exact ⟨k1,k2,k3,v,k4,V.mapV hn k5 (hat k d d' hd0 hd)⟩
    | same hne=>
     cases o with
     | box c=>exact absurd rfl (hne c)
     | tail τ n=>exact hs
     | map κ τ m=>
      obtain ⟨r,g1,g2,es,clock,g3,g4⟩:=hs
      exact ⟨r,g1,g2,es,clock,g3,g4.data⟩
     | bld t u l=>exact hs
     | tailp τ n x=>
      obtain ⟨b',cap,g1,g2,g3,g4,g5,g6,g7⟩:=hs
      refine ⟨b',cap,g1,g2,g3,g4,g5,g6,fun k c hc=>?_⟩
      obtain ⟨v,k1,k2⟩:=g7 k c hc
      exact ⟨v,k1,V.mapV hn k2 (fT τ x c (List.mem_of_getElem? hc))⟩
   ·exact h.dom _ ((om i j hb id).2 hid)
   ·have:=h.inj _ _ cx cy b o hx hy hbx hby
    rw [←dG i j x,this,dG]
   ·have hd:=F.dom0 id c hc
    have e:cP i j id=id:=by
     rw [jh]
     split
     ·rename_i e;rw [e,hi] at hd;cases hd
     ·split
      ·rename_i e;rw [e,hj] at hd;cases hd
      ·rfl
    obtain ⟨c',g1,g2⟩:=h.keep id c hc
    exact ⟨c',by simp only [e];exact g1,g2⟩
   ·exact ⟨h.frame.os,h.frame.tape,h.frame.output,h.frame.size,h.frame.block,h.frame.cell,h.frame.kind,h.frame.pub,h.frame.old,h.frame.pcell⟩
  ·cases hr
 ·cases hr
theorem kj {F:Fr} {a:Act}:∀(l:List Nat) {s s':St} {Ω:Om},Holds F s.abs a Ω→zA l s=some s'→∃Ω',Ω'.w=Ω.w/\Holds F s'.abs a Ω'
 | [],s,s',Ω,h,hr=>by cases hr;exact ⟨Ω,rfl,h⟩
 | [_],s,s',Ω,h,hr=>by cases hr;exact ⟨Ω,rfl,h⟩
 | i ::j ::r,s,s',Ω,h,hr=>by
  unfold zA at hr
  split at hr
  ·rename_i s1 h1
   obtain ⟨Ω1,e1,g1⟩:=oq h h1
   obtain ⟨Ω2,e2,g2⟩:=kj r g1 hr
   exact ⟨Ω2,e2.trans e1,g2⟩
  ·cases hr
end Go.AL
end
noncomputable section
namespace Go.AL
variable [Tabs]
def vm:SX→Exit
 | .normal=>.normal
 | .exit id=>.exit id
 | .ret=>.ret
 | .pan _=>.outgrown
def Ends (Ω:Om):SX→Exit→Prop
 | .pan pv,e=>∃v,e=.panic [{v,recovered:=false}]/\V Ω pv v
 | x,e=>vm x=e
def QL (F:Fr) (Q:SX→St→Prop):Exit→Act→World→Prop:=fun e a w=>∃x s Ω,Ends Ω x e/\Ω.w=w/\Holds F s.abs a Ω/\Q x s
mutual
theorem forceV_eq:∀(a:AV) (k:AV→Prop),forceV a k=k a
 | .undef,k=>rfl
 | .int κ n,k=>rfl
 | .bool b,k=>rfl
 | .str s,k=>rfl
 | .lst τ xs none,k=>rfl
 | .lst τ xs (some i),k=>rfl
 | .nils,k=>rfl
 | .ptr i o,k=>rfl
 | .cptr c,k=>by simp only [forceV];rw [forceV_eq c]
 | .st n x,k=>rfl
 | .nilp,k=>rfl
 | .row τ xs,k=>rfl
 | .arr i n w,k=>rfl
 | .aptr i n w o,k=>rfl
 | .map i,k=>rfl
 | .bptr i,k=>rfl
 | .lstp τ xs i,k=>rfl
 | .tptr τ n i,k=>rfl
 | .iface t a,k=>by simp only [forceV];rw [forceV_eq a]
 | .nilif,k=>rfl
 | .nilm,k=>rfl
 | .pt n x,k=>rfl
 | .agg cs,k=>by simp only [forceV];rw [forceL_eq cs]
 | .tup cs,k=>by simp only [forceV];rw [forceL_eq cs]
 | .fn f cs,k=>by simp only [forceV];rw [forceL_eq cs]
theorem forceL_eq:∀(l:List AV) (k:List AV→Prop),forceL l k=k l
 | [],k=>rfl
 | a ::r,k=>by simp only [forceL];rw [forceV_eq a,forceL_eq r]
end
theorem qc:∀(l:List (Nat × AV)) (k:List (Nat × AV)→Prop),qT l k=k l
 | [],k=>rfl
 | (i,a) ::r,k=>by simp only [qT];rw [forceV_eq a,qc r]
theorem fL:∀(l:List (Nat × SObj)) (k:List (Nat × SObj)→Prop),ff l k=k l
 | [],k=>rfl
 | (i,.box c) ::r,k=>by simp only [ff];rw [forceV_eq c,fL r]
 | (i,.tail τ n) ::r,k=>by simp only [ff];rw [fL r]
 | (i,.map κ τ m) ::r,k=>by simp only [ff];rw [fL r]
 | (i,.bld t u l) ::r,k=>by simp only [ff];rw [fL r]
 | (i,.tailp τ n x) ::r,k=>by simp only [ff];rw [fL r]
theorem cG (s:St) (k:St→Prop):dV s k=k s:=by
 unfold dV
 rw [qc,fL]
theorem fW:∀(l:List Nat) (k:List Nat→Prop),gi l k=k l
 | [],k=>rfl
 | 0 ::r,k=>by simp only [gi];rw [fW r]
 | (n+1) ::r,k=>by simp only [gi];rw [fW r]
theorem Holds.trim {F:Fr} {s:St} {a:Act} {Ω:Om} (h:Holds F s.abs a Ω) (keep:List Nat):Holds F (trim keep s).abs a Ω:=by
 refine ⟨fun i=>?_,h.size,h.defers,h.slots,h.dom,h.inj,h.pubok,h.keep,h.frame⟩
 have:=gn s.t (fun i=>keep.contains i) i
 simp only [AL.trim,St.abs]
 rw [this]
 split
 ·exact h.tmps i
 ·exact .undef _
section
variable {P:Program} {C:Cfg} {F:Fr}
theorem jX (hm:P.follows .mixedOrders=true) (hT:aK P C.tbl) (hS:bu P C.spec) (keep:List Nat) {id:Nat} {ops:Array Oper} {draw:Bool} {s1:St} {Q:SX→St→Prop} {a:Act} {Ω1:Om}
  (hdst:∀(o:Oper),o∈ops.toList→∀d,o.dst=some d→d < F.n) (h:mT C keep ops draw s1 Q) (hh1:Holds F s1.abs a Ω1):(Code.region id ops draw).wp P (QL F Q) a Ω1.w:=by
 unfold mT at h
 have key:∀s' fs,(dV (trim keep s') fun s'=>if draw=true then (if dy ops.toList fs=true then Q .normal s' else False) else Q .normal s')→
   (draw=true→dy ops.toList fs=true)/\Q .normal (trim keep s'):=by
  intro s' fs hk
  simp only [cG] at hk
  cases draw with
  | false=>exact ⟨fun h=>by simp at h,by simpa using hk⟩
  | true=>
   simp only [if_true] at hk
   rcases Classical.em (dy ops.toList fs=true) with k | k
   ·rw [if_pos k] at hk;exact ⟨fun _=>k,hk⟩
   ·rw [if_neg k] at hk;exact hk.elim
 refine kU hm hT hS hdst h (fun hdr s' fs hk=>let ⟨s2,h2⟩:=lK _ hk;(key s2 fs h2).1 hdr) hh1 (fun s' fs a' Ω' hk h'=>
   let ⟨s2,Ω2,g1,g2,g3⟩:=oi h' hk
   ⟨.normal,trim keep s2,Ω2,rfl,g1,g2.trim keep,(key s2 fs g3).2⟩)
  (fun pv s' a' Ω' v hk h' hv=>?_)
 simp only [cG,forceV_eq] at hk
 exact ⟨.pan pv,s',Ω',⟨v,rfl,hv⟩,rfl,h',hk⟩
theorem vn (hT:aK P C.tbl) {keep:List Nat} {id:Nat} {ops:Array Oper} {draw:Bool} {s:St} {p:Prop} {f:Bool→St} {a:Act} {Ω:Om} (hn:CU C keep ops draw s=some (p,f))
  (hdst:∀(o:Oper),o∈ops.toList→∀d,o.dst=some d→d < F.n) (hh:Holds F s.abs a Ω):(Code.region id ops draw).wp P (QL F fun x t=>x=.normal/\∃b,(b=true→p)/\t=f b) a Ω.w:=by
 unfold CU at hn
 split at hn
 ·rename_i m src ty1 ps1 af1 c t m' t2 ty2 ps2 af2 hops
  split at hn
  ·rename_i e sz by' z ty τ xs o hc ht hsrc
   cases hn
   simp only [Bool.and_eq_true,Bool.not_eq_true'] at hc
   obtain ⟨hm,hcm⟩:=hc
   obtain rfl:=Nat.eq_of_beq_eq_true hm
   have hne:¬m'=c:=fun e=>by rw [e,Nat.beq_refl] at hcm;cases hcm
   have d1:m' < F.n:=hdst _ (by rw [hops];exact List.mem_cons_self ..) m' rfl
   have d2:c < F.n:=hdst _ (by rw [hops];exact List.mem_cons_of_mem _ (List.mem_cons_self ..)) c rfl
   obtain ⟨dd,u1,u2⟩:=aB hT ht rfl
   cases dd <;> simp [aE] at u2
   have hv:=aZ hh src
   rw [show opd s.abs.T src=.lst τ xs o from hsrc] at hv
   have hv2:V Ω (.lst τ xs none) (a.eval src):=hv.le (G:=[]) (fun k hk=>by cases hk) (bL (by simp [LeF,eR]))
   obtain ⟨q,n,cp,hev,hq⟩:∃q n cp,a.eval src=.slice q n cp/\(q.isNone=true→xs=[]):=by
    generalize a.eval src=sv at hv2
    cases hv2 with
    | lstNil _ _ _=>exact ⟨_,_,_,rfl,fun _=>rfl⟩
    | lstVoid _ _=>exact ⟨_,_,_,rfl,fun _=>rfl⟩
    | lst _ _ _ b off cap vals h1 h2 tok hc hv=>exact ⟨_,_,_,rfl,fun q=>by cases q⟩
   have hsz:=hh.size
   have eqs:ops=#[⟨some m',.move src,ty1,ps1,af1,none⟩,⟨some c,.binOp .eql t (.tmp m') (.const (.slice none 0 0)) t2,ty2,ps2,af2,none⟩]:=by
    cases ops;simp at hops;rw [hops]
   subst eqs
   rw [hev] at hv2
   have hp1:=hh.pure (dst:=some m') (val:=.lst τ xs none) (v:=.slice q n cp) hv2 (fun d e=>by cases e;exact d1)
   have hp2:=hp1.pure (dst:=some c) (val:=.bool q.isNone) (v:=.bool q.isNone) (.bool _) (fun d e=>by cases e;exact d2)
   refine wp_region ?_
   show wpOps P _ _ [0,1] a Ω.w
   refine cg (o:=⟨some m',.move src,ty1,ps1,af1,none⟩) rfl rfl (ay (v:=.slice q n cp) (w':=Ω.w) (by simp [execOp,hev]) ?_)
   have hm1:(a.put (some m') (.slice q n cp)).eval (.tmp m')=.slice q n cp:=by
    show (a.put (some m') (.slice q n cp)).tmps.getD m' undef=_
    rw [bX hsz d1,if_pos rfl]
   have hq2:(Op.equal t (.slice q n cp) (.slice none 0 0)).run P Ω.w=.ok q.isNone Ω.w:=by
    unfold Op.equal Op.maxDepth Op.equalIn
    simp only [Sem.run_bind,aA u1,Result.andThen_ok]
    cases q <;> rfl
   have hg:(eqGuard .eql t (.tmp m') (.const (.slice none 0 0)) (.slice q n cp) (.slice none 0 0)).run P Ω.w=.ok () Ω.w:=rfl
   refine cg (o:=⟨some c,.binOp .eql t (.tmp m') (.const (.slice none 0 0)) t2,ty2,ps2,af2,none⟩) rfl rfl (ay (v:=.bool q.isNone) (w':=Ω.w) (by
    have hk:(a.put (some m') (.slice q n cp)).eval (.const (.slice none 0 0))=.slice none 0 0:=rfl
    simp [execOp,hm1,hev,hk,hg,binOp,hq2]) ?_)
   refine ⟨.normal,_,Ω,rfl,rfl,?_,rfl,q.isNone,hq,rfl⟩
   refine Holds.trim (s:=⟨gZ (gZ s.t m' (.lst τ xs none)) c (.bool q.isNone),s.b⟩) ?_ keep
   have eT:(St.abs ⟨gZ (gZ s.t m' (.lst τ xs none)) c (.bool q.isNone),s.b⟩)=⟨bB (bB s.abs.T (some m') (.lst τ xs none)) (some c) (.bool q.isNone),s.abs.B⟩:=by
    show AS.mk _ _=AS.mk _ _
    congr 1
    funext k
    show aL (gZ (gZ s.t m' (.lst τ xs none)) c (.bool q.isNone)) k=_
    rw [eG,eG]
    rfl
   rw [eT]
   exact hp2
  ·cases hn
 ·cases hn
theorem rv {P:Program} {Q:Exit→Act→World→Prop} {a:Act} {w:World} {c:Code} (I:Nat→Act→World→Prop) (h₀:c.wp P (Exit.then (fun a w=>∃n,I n a w) Q) a w)
  (round:∀n a w,I n a w→c.wp P (Exit.then (fun a' w'=>∃n',n' < n/\I n' a' w') Q) a w):(Code.loop c).wp P Q a w:=by
 intro b k cs
 have key:∀n a w,I n a w→∃e a' w',Q e a' w'/\Arrives P (lone (b.at a (.code c ::.inLoop c ::k)) cs w) b k cs e a' w':=by
  intro n
  induction n using Nat.strongRecOn with
  | _ n ih=>
   intro a w hI
   obtain ⟨e,a₁,w₁,hq,harr⟩:=round n a w hI b (.inLoop c ::k) cs
   cases e with
   | normal=>
    obtain ⟨m,hlt,hI₁⟩:=hq
    obtain ⟨e₂,a₂,w₂,hq₂,harr₂⟩:=ih m hlt a₁ w₁ hI₁
    exact ⟨e₂,a₂,w₂,hq₂,.of_steps (Steps.trans harr (.one step_inLoop)) harr₂⟩
   | exit id=>exact ⟨_,a₁,w₁,hq,.pass (x:=.inLoop c) rfl (fun _ _=>.inl (by simp)) harr⟩
   | goto l=>exact ⟨_,a₁,w₁,hq,.pass (x:=.inLoop c) rfl (fun _ _=>.inl (by simp)) harr⟩
   | ret=>exact ⟨_,a₁,w₁,hq,.pass (x:=.inLoop c) rfl (fun _ _=>.inl (by simp)) harr⟩
   | panic ch=>exact ⟨_,a₁,w₁,hq,.pass (x:=.inLoop c) rfl (fun _ _=>.inl (by simp)) harr⟩
   | outgrown=>exact ⟨_,a₁,w₁,hq,.pass (x:=.inLoop c) rfl (fun _ _=>.inl (by simp)) harr⟩
 obtain ⟨e,a₁,w₁,hq,harr⟩:=h₀ b (.inLoop c ::k) cs
 cases e with
 | normal=>
  obtain ⟨m,hI⟩:=hq
  obtain ⟨e₂,a₂,w₂,hq₂,harr₂⟩:=key m a₁ w₁ hI
  exact ⟨e₂,a₂,w₂,hq₂,.of_steps (.one step_loop) (.of_steps (Steps.trans harr (.one step_inLoop)) harr₂)⟩
 | exit id=>exact ⟨_,a₁,w₁,hq,.of_steps (.one step_loop) (.pass (x:=.inLoop c) rfl (fun _ _=>.inl (by simp)) harr)⟩
 | goto l=>exact ⟨_,a₁,w₁,hq,.of_steps (.one step_loop) (.pass (x:=.inLoop c) rfl (fun _ _=>.inl (by simp)) harr)⟩
 | ret=>exact ⟨_,a₁,w₁,hq,.of_steps (.one step_loop) (.pass (x:=.inLoop c) rfl (fun _ _=>.inl (by simp)) harr)⟩
 | panic ch=>exact ⟨_,a₁,w₁,hq,.of_steps (.one step_loop) (.pass (x:=.inLoop c) rfl (fun _ _=>.inl (by simp)) harr)⟩
 | outgrown=>exact ⟨_,a₁,w₁,hq,.of_steps (.one step_loop) (.pass (x:=.inLoop c) rfl (fun _ _=>.inl (by simp)) harr)⟩
def sW (F:Fr) (ann:An) (c:Code) (W:St→(SX→St→Prop)→Prop) (Q:SX→St→Prop) (k:Nat) (a:Act) (w:World):Prop:=
 ∃(s:St) (A:LA) (x:A.ι) (Ω:Om),(∀x,A.pre x→W (fO (cb c) s (A.t x) (A.b x)) fun
   | .normal,s'=>∃y,A.pre y/\A.m y < A.m x/\cS s' (fO (cb c) s (A.t y) (A.b y))
   | e,s'=>Q e s')/\A.pre x/\A.m x=k/\Ω.w=w/\Holds F (fO (cb c) s (A.t x) (A.b x)).abs a Ω
theorem mw {ann:An} {c:Code} {W:St→(SX→St→Prop)→Prop} {Q:SX→St→Prop} {s:St} {a:Act} {Ω:Om} (h:wO ann c W s Q) (hh:Holds F s.abs a Ω):∃k,sW F ann c W Q k a Ω.w:=by
 unfold wO at h
 split at h
 ·exact h.elim
 ·rename_i A hA
  simp only [cG] at h
  obtain ⟨⟨x0,hp0,hle0⟩,hround⟩:=h
  obtain ⟨Ω0,e0,hh0⟩:=cR hh (fv hle0)
  exact ⟨A.m x0,s,A,x0,Ω0,hround,hp0,rfl,e0,hh0⟩
theorem my {ann:An} {c:Code} {W:St→(SX→St→Prop)→Prop} {Q:SX→St→Prop} (hW:∀(s:St) (Q:SX→St→Prop) (a:Act) (Ω:Om),W s Q→Holds F s.abs a Ω→c.wp P (QL F Q) a Ω.w)
  {k:Nat} {a:Act} {w:World} (hI:sW F ann c W Q k a w):c.wp P (Exit.then (fun a' w'=>∃n',n' < k/\sW F ann c W Q n' a' w') (QL F Q)) a w:=by
 obtain ⟨s,A,x,Ω1,hround,hp,hmx,hw1,hh1⟩:=hI
 subst hw1
 refine wp_mono (hW (fO (cb c) s (A.t x) (A.b x)) _ a Ω1 (hround x hp) hh1) ?_
 intro e a' w' hq
 obtain ⟨z,s',Ω',h1,h2,h3,h4⟩:=hq
 subst h2
 cases z with
 | normal=>
  cases h1
  obtain ⟨y,hy1,hy2,hy3⟩:=h4
  obtain ⟨Ω2,e2,hh2⟩:=cR h3 (fv hy3)
  exact ⟨A.m y,by omega,s,A,y,Ω2,hround,hy1,rfl,e2,hh2⟩
 | exit id=>cases h1;exact ⟨.exit id,s',Ω',rfl,rfl,h3,h4⟩
 | ret=>cases h1;exact ⟨.ret,s',Ω',rfl,rfl,h3,h4⟩
 | pan pv=>obtain ⟨v,rfl,hv⟩:=h1;exact ⟨.pan pv,s',Ω',⟨v,rfl,hv⟩,rfl,h3,h4⟩
theorem jH (hm:P.follows .mixedOrders=true) (hT:aK P C.tbl) (hS:bu P C.spec) (keep:List Nat) (ann:An) :
  ∀(c:Code) (s:St) (Q:SX→St→Prop) (a:Act) (Ω:Om),swp C keep ann c s Q→bp F.n c=true→Holds F s.abs a Ω→c.wp P (QL F Q) a Ω.w:=by
 intro c
 induction c with
 | skip=>exact fun s Q a Ω h _ hh=>wp_skip ⟨.normal,s,Ω,rfl,rfl,hh,h⟩
 | region id ops draw=>
  intro s Q a Ω h hd hh
  simp only [swp] at h
  have hdst:∀(o:Oper),o∈ops.toList→∀d,o.dst=some d→d < F.n:=by
   intro o ho d hod
   simp only [bp,List.all_eq_true] at hd
   have:=hd o ho
   rw [hod] at this
   simpa using this
  split at h
  ·rename_i p f hn
   refine wp_mono (vn hT hn hdst hh) ?_
   rintro e a' w' ⟨z,s',Ω',h1,h2,h3,h4,b,h5,h6⟩
   subst h2 h4 h6
   have:=h b h5
   rw [cG] at this
   exact ⟨.normal,f b,Ω',h1,rfl,h3,this⟩
  split at h
  ·exact h.elim
  rename_i sr hr0
  obtain ⟨Ωr,er,hhr⟩:=kj _ hh hr0
  rw [←er]
  split at h
  ·exact h.elim
  ·rename_i s0 hp0
   obtain ⟨Ω0,e0,hh0⟩:=iz _ hhr hp0
   split at h
   ·exact h.elim
   ·rename_i s1 he
    obtain ⟨Ω1,e1,hh1⟩:=jc hh0 he
    rw [←e0,←e1]
    split at h
    ·exact jX hm hT hS keep hdst h hh1
    ·rename_i J hJ
     obtain ⟨h1,h2⟩:=h
     rw [cG] at h2
     refine wp_mono (jX hm hT hS keep hdst h1 hh1) ?_
     intro e a' w' hq
     obtain ⟨z,s',Ω',g1,g2,g3,g4⟩:=hq
     subst g2
     cases z with
     | normal=>
      cases g1
      obtain ⟨Ω2,e2,hh2⟩:=cR g3 (fv g4)
      exact ⟨.normal,_,Ω2,rfl,e2,hh2,h2⟩
     | exit id=>exact ⟨.exit id,s',Ω',g1,rfl,g3,g4⟩
     | ret=>exact ⟨.ret,s',Ω',g1,rfl,g3,g4⟩
     | pan pv=>exact ⟨.pan pv,s',Ω',g1,rfl,g3,g4⟩
 | seq x y ihx ihy=>
  intro s Q a Ω h hd hh
  have hd0:=hd
  simp only [bp,Bool.and_eq_true] at hd
  simp only [swp] at h
  split at h
  ·rename_i L hL
   refine wp_mono (vi hT hL h hd0 hh) ?_
   rintro e a' w' ⟨rfl,s',Ω',h2,h3,h4⟩
   rw [cG] at h4
   exact ⟨.normal,s',Ω',rfl,h2,h3,h4⟩
  split at h
  rotate_left
  ·rename_i J hJ
   obtain ⟨h1,h2⟩:=h
   rw [cG] at h2
   refine wp_seq (wp_mono (ihx s _ a Ω h1 hd.1 hh) ?_)
   intro e a' w' hq
   obtain ⟨z,s',Ω',g1,g2,g3,g4⟩:=hq
   subst g2
   cases z with
   | normal=>
    cases g1
    obtain ⟨Ω2,e2,hh2⟩:=cR g3 (fv g4)
    rw [←e2]
    exact ihy _ Q a' Ω2 h2 hd.2 hh2
   | exit id=>cases g1;exact ⟨.exit id,s',Ω',rfl,rfl,g3,g4⟩
   | ret=>cases g1;exact ⟨.ret,s',Ω',rfl,rfl,g3,g4⟩
   | pan pv=>obtain ⟨v,rfl,hv⟩:=g1;exact ⟨.pan pv,s',Ω',⟨v,rfl,hv⟩,rfl,g3,g4⟩
  refine wp_seq (wp_mono (ihx s _ a Ω h hd.1 hh) ?_)
  intro e a' w' hq
  obtain ⟨z,s',Ω',h1,h2,h3,h4⟩:=hq
  subst h2
  cases z with
  | normal=>cases h1;exact ihy s' Q a' Ω' h4 hd.2 h3
  | exit id=>cases h1;exact ⟨.exit id,s',Ω',rfl,rfl,h3,h4⟩
  | ret=>cases h1;exact ⟨.ret,s',Ω',rfl,rfl,h3,h4⟩
  | pan pv=>obtain ⟨v,rfl,hv⟩:=h1;exact ⟨.pan pv,s',Ω',⟨v,rfl,hv⟩,rfl,h3,h4⟩
 | cond c x y ihx ihy=>
  intro s Q a Ω h hd hh
  simp only [bp,Bool.and_eq_true] at hd
  simp only [swp] at h
  split at h
  ·rename_i b hb
   have hv:=aZ hh c
   have hb':opd s.abs.T c=.bool b:=hb
   rw [hb'] at hv
   have hv:=hv.bool_inv
   refine wp_cond hv ?_
   unfold sp at h
   have hset:Holds F (BE c b s).abs a Ω:=by
    cases c with
    | tmp t=>
     refine ⟨fun i=>?_,hh.size,hh.defers,hh.slots,hh.dom,hh.inj,hh.pubok,hh.keep,hh.frame⟩
     have e:(BE (.tmp t) b s).abs.T i=if t=i then .bool b else aL s.t i:=eG s.t t (.bool b) i
     rw [e]
     by_cases ht:t=i
     ·subst ht
      rw [if_pos rfl]
      have:=hh.tmps t
      rw [show s.abs.T t=.bool b from hb'] at this
      exact this
     ·rw [if_neg ht]
      exact hh.tmps i
    | _=>exact hh
   cases b with
   | true=>exact ihx _ Q a Ω (by simpa using h) hd.1 hset
   | false=>exact ihy _ Q a Ω (by simpa using h) hd.2 hset
  ·exact h.elim
 | block id c ih=>
  intro s Q a Ω h hd hh
  simp only [bp] at hd
  simp only [swp] at h
  refine wp_block (wp_mono (ih s _ a Ω h hd hh) ?_)
  intro e a' w' hq
  obtain ⟨z,s',Ω',h1,h2,h3,h4⟩:=hq
  subst h2
  cases z with
  | normal=>cases h1;exact ⟨.normal,s',Ω',rfl,rfl,h3,h4⟩
  | ret=>cases h1;exact ⟨.ret,s',Ω',rfl,rfl,h3,h4⟩
  | pan pv=>obtain ⟨v,rfl,hv⟩:=h1;exact ⟨.pan pv,s',Ω',⟨v,rfl,hv⟩,rfl,h3,h4⟩
  | exit j=>
   cases h1
   simp only [vm,Exit.inBlock]
   by_cases hj:j=id
   ·subst hj
    simp only [if_true]
    simp only [beq_self_eq_true,if_true] at h4
    exact ⟨.normal,s',Ω',rfl,rfl,h3,h4⟩
   ·rw [if_neg hj]
    simp only [beq_iff_eq,hj,if_false] at h4
    exact ⟨.exit j,s',Ω',rfl,rfl,h3,h4⟩
 | loop c ih=>
  intro s Q a Ω h hd hh
  simp only [bp] at hd
  simp only [swp] at h
  have hW:∀(s:St) (Q:SX→St→Prop) (a:Act) (Ω:Om),swp C keep ann c s Q→Holds F s.abs a Ω→c.wp P (QL F Q) a Ω.w:=fun s Q a Ω h hh=>ih s Q a Ω h hd hh
  split at h
  ·refine rv (sW F ann c (swp C keep ann c) Q) (wp_mono (hW s _ a Ω h hh) ?_) fun k a w hI=>my hW hI
   intro e a' w' hq
   obtain ⟨z,s',Ω',h1,h2,h3,h4⟩:=hq
   subst h2
   cases z with
   | normal=>
    cases h1
    simp only [cG] at h4
    split at h4
    ·rename_i s2 h5
     obtain ⟨Ω2,e2,hh2⟩:=kj _ h3 h5
     obtain ⟨k,hI⟩:=mw h4 hh2
     exact ⟨k,e2 ▸ hI⟩
    ·exact h4.elim
   | exit id=>cases h1;exact ⟨.exit id,s',Ω',rfl,rfl,h3,h4⟩
   | ret=>cases h1;exact ⟨.ret,s',Ω',rfl,rfl,h3,h4⟩
   | pan pv=>obtain ⟨v,rfl,hv⟩:=h1;exact ⟨.pan pv,s',Ω',⟨v,rfl,hv⟩,rfl,h3,h4⟩
  ·obtain ⟨k,hI⟩:=mw h hh
   exact wp_loop_ghost (sW F ann c (swp C keep ann c) Q) k hI fun k a w hI=>my hW hI
 | exit id=>exact fun s Q a Ω h _ hh=>wp_exit ⟨.exit id,s,Ω,rfl,rfl,hh,h⟩
 | ret=>exact fun s Q a Ω h _ hh=>wp_ret ⟨.ret,s,Ω,rfl,rfl,hh,h⟩
 | rangeFunc g ps x y _ _=>exact fun s Q a Ω h=>by simp [swp] at h
 | scope c ih=>
  intro s Q a Ω h hd hh
  simp only [bp] at hd
  simp only [swp] at h
  refine wp_scope_straight (wp_mono (ih s _ a Ω h hd hh) ?_)
  intro e a' w' hq
  obtain ⟨z,s',Ω',h1,h2,h3,h4⟩:=hq
  cases z with
  | normal=>cases h1;exact ⟨.normal,s',Ω',rfl,h2,h3,h4⟩
  | exit id=>cases h1;exact ⟨.exit id,s',Ω',rfl,h2,h3,h4⟩
  | ret=>cases h1;exact ⟨.ret,s',Ω',rfl,h2,h3,h4⟩
  | pan pv=>obtain ⟨v,rfl,hv⟩:=h1;exact ⟨.pan pv,s',Ω',⟨v,rfl,hv⟩,h2,h3,h4⟩
 | label l=>exact fun s Q a Ω h _ hh=>wp_label ⟨.normal,s,Ω,rfl,rfl,hh,h⟩
 | goto l=>exact fun s Q a Ω h=>by simp [swp] at h
 | refuse why=>exact fun s Q a Ω h=>by simp [swp] at h
theorem eI:∀(l:List AV) (i j:Nat),aL (cr i l) j=if i<=j then l.getD (j - i) .undef else .undef
 | [],i,j=>by simp [cr,cN,cu]
 | v ::r,i,j=>by
  simp only [cr,cN,cu,eI r (i+1) j]
  by_cases h:i=j
  ·subst h;simp
  ·simp only [beq_iff_eq,h,if_false]
   by_cases h2:i<=j
   ·have e:j - i=(j - (i+1))+1:=by omega
    rw [if_pos h2,if_pos (by omega),e]
    simp
   ·rw [if_neg h2,if_neg (by omega)]
theorem gQ {w:World} {pub:Nat→Nat→Prop} {e:Nat→Option CObj} {args:List AV} {vs:List Value} (k:Nat) (hv:VL ⟨e,w,pub⟩ args vs) (i:Nat) :
  V ⟨e,w,pub⟩ (aL (cr 0 args) i) ((vs.toArray++Array.replicate k undef).getD i undef):=by
 simp only [eI,Nat.zero_le,if_true,Nat.sub_zero]
 by_cases h:i < args.length
 ·have h':i < vs.length:=by rw [←hv.1];exact h
  have e1:args.getD i .undef=args[i]:=by simp [List.getD_eq_getElem?_getD,h]
  have e2:(vs.toArray++Array.replicate k undef).getD i undef=vs[i]:=by
   simp [Array.getD_eq_getD_getElem?,Array.getElem?_append,h']
  rw [e1,e2]
  exact hv.2 i _ _ (List.getElem?_eq_getElem h) (List.getElem?_eq_getElem h')
 ·have e1:args.getD i .undef=.undef:=by simp [List.getD_eq_getElem?_getD,h]
  rw [e1]
  exact .undef _
theorem iB {w:World} {pub:Nat→Nat→Prop} {e:Nat→Option CObj} {args:List AV} {vs:List Value} {n:Nat} {S:List (Nat × SObj)} (hp:j0 w pub) (ht:fQ w pub e) (hv:VL ⟨e,w,pub⟩ args vs) (hn:args.length<=n)
  (hs:∀id o,aj S id=some o→b9 ⟨e,w,pub⟩ (fun _ _=>True) id o) (hd:∀id,aj S id=none→e id=none) (hi:Inj e) (hl:∀id c,e id=some c→bc id=true) :
  Holds ⟨w,pub,n,e,hl,[],ht⟩ (St.abs ⟨cr 0 args,S⟩) {tmps:=vs.toArray++Array.replicate (n - vs.toArray.size) undef,defers:=[]} ⟨e,w,pub⟩:=
 ⟨fun i=>gQ _ hv i,by simp;have:=hv.1;omega,rfl,fun id o ho=>(hs id o ho).own_of (fun c b oo hc hoc=>Or.inr ⟨id,c,hc,hoc⟩),fun id hid=>hd id hid,hi,hp,fun id c hc=>⟨c,hc,CLe.refl c⟩,
  ⟨rfl,rfl,rfl,Nat.le_refl _,fun _ _ _=>rfl,fun _ _ _ _=>rfl,fun _ _ _=>⟨rfl,fun _=>rfl⟩,fun _ _ h=>Or.inl h,fun _ _ h=>h,fun _ _ _=>rfl⟩⟩
def lL (tmps:Array Value):ResultVar→Sem Value
 | .tmp t=>pure (tmps.getD t undef)
 | .cell a t=>do loadVar t (←asAddr (tmps.getD a undef))
theorem kl (fn:Func) (tmps:Array Value):results fn tmps=(do
  let vs ←fn.results.mapM (lL tmps)
  pure (if h:vs.size=1 then vs[0] else .tuple vs)):=by
 unfold results
 congr 1
theorem dN (hT:aK P C.tbl) {s:St} {a:Act} {Ω:Om} (hh:Holds F s.abs a Ω):∀(rs:List ResultVar) (l:List AV),iK C.tbl s rs=some l→
  ∃vs,(rs.mapM (lL a.tmps)).run P Ω.w=.ok vs Ω.w/\VL Ω l vs
 | [],l,h=>by
  simp [iK] at h
  subst h
  exact ⟨[],rfl,VL.nil⟩
 | .tmp t ::rs,l,h=>by
  simp only [iK] at h
  split at h
  ·rename_i l' hl'
   simp at h
   subst h
   obtain ⟨vs,k1,k2⟩:=dN hT hh rs l' hl'
   exact ⟨_,by rw [List.mapM_cons];simp only [lL,Sem.run_bind,Sem.run_pure,Result.andThen_ok,k1],VL.cons (hh.tmps t) k2⟩
  ·cases h
 | .cell b t ::rs,l,h=>by
  simp only [iK] at h
  split at h
  ·rename_i id off rt hb hrt
   have hv:=hh.tmps b
   have e:s.abs.T b=.ptr id off:=hb
   rw [e] at hv
   obtain ⟨g,o',len,hv1,hv2⟩:=hv.ptr_inv
   split at h
   ·rename_i c hcs
    split at h
    ·rename_i x l' hx hl'
     simp at h
     subst h
     obtain ⟨vs,k1,k2⟩:=dN hT hh rs l' hl'
     obtain ⟨b',off',e1,e2⟩:=hh.slots id _ hcs
     rw [hv2] at e1
     simp only [Xs,CObj.box.injEq] at e1
     obtain ⟨rfl,rfl,rfl⟩:=e1
     obtain ⟨v,w1,w2⟩:=gj (P:=P) (C:=C) (w:=Ω.w) hT hrt hx (b:=g) (o':=o') (fun j c' hc=>(e2 j c' hc).2.2.2)
     exact ⟨v ::vs,by rw [List.mapM_cons];simp only [lL,Sem.run_bind,hv1,asAddr,Sem.run_pure,Result.andThen_ok,w1,k1],VL.cons w2 k2⟩
    ·cases h
   ·cases h
  ·cases h
theorem Holds.retmp {s:AS} {a:Act} {Ω:Om} (h:Holds F s a Ω) {l:List AV} {vs:List Value} (hv:VL Ω l vs) :
  Holds ⟨F.w0,F.pub0,vs.length,F.e0,F.dom0,[],F.tab0⟩ ⟨aL (cr 0 l),s.B⟩ {tmps:=vs.toArray++Array.replicate 0 undef,defers:=[]} Ω:=
 ⟨fun i=>gQ 0 hv i,by simp,rfl,h.slots,h.dom,h.inj,h.pubok,h.keep,
  ⟨h.frame.os,h.frame.tape,h.frame.output,h.frame.size,h.frame.block,h.frame.cell,h.frame.kind,h.frame.pub,h.frame.old,h.frame.pcell⟩⟩
theorem fX {w:World} {pub:Nat→Nat→Prop} {e:Nat→Option CObj} {n:Nat} {hl:∀id c,e id=some c→bc id=true} {ht:fQ w pub e} {T:Nat→AV} {B:List (Nat × SObj)} {a:Act} {Ω:Om}
  (h:Holds ⟨w,pub,n,e,hl,[],ht⟩ ⟨T,aj B⟩ a Ω):After w pub e (aj B) Ω.w Ω.pub Ω.e:=by
 refine ⟨h.frame.os,h.frame.tape,h.frame.output,h.frame.size,h.frame.block,h.frame.cell,h.frame.kind,⟨h.keep,h.frame.old,h.frame.pcell⟩,fun b o hp=>?_,h.pubok,h.slots,h.dom,h.inj⟩
 rcases h.frame.pub b o hp with q | q | q
 ·exact Or.inl q
 ·exact Or.inr (Or.inl q)
 ·exact Or.inr (Or.inr q)
theorem gR {α:Type} {l:List α} (h:l.length=1):∃x,l=[x]:=by
 match l,h with
 | [x],_=>exact ⟨x,rfl⟩
theorem y9 (hm:P.follows .mixedOrders=true) (hT:aK P C.tbl) (hS:bu P C.spec) {ann:An} {f:Nat} {fn:Func} (hf:P.funcs[f]?=some fn)
  {args:List AV} {S:List (Nat × SObj)} {A:Ans} (h:fwp C ann fn args S A):ao P f args S A:=by
 intro w pub e vs hp ht hv hs hdom hinj
 unfold fwp at h
 split at h
 ·exact h.elim
 ·rename_i c hb
  split at h
  ·exact h.elim
  ·rename_i hck
   simp only [Bool.and_eq_true,List.all_eq_true] at hck
   obtain ⟨⟨hck1,hck2⟩,hck3⟩:=hck
   have hlen:=da _ _ hck2
   rw [fW,cG] at h
   have hlent:∀id c,e id=some c→bc id=true:=by
    intro id c hc
    cases hg:aj S id with
    | none=>rw [hdom id hg] at hc;cases hc
    | some o=>exact hck3 id (List.mem_map.2 ⟨(id,o),cd _ _ _ hg,rfl⟩)
   refine calls_of_wp hf hb ?_
   have hh:=iB (n:=fn.ntmps) hp ht hv hlen hs hdom hinj hlent
   refine wp_mono (jH (F:=⟨w,pub,fn.ntmps,e,hlent,[],ht⟩) hm hT hS _ ann c _ _ _ _ h hck1 hh) ?_
   intro en a' w' hq
   obtain ⟨z,s',Ω',h1,h2,h3,h4⟩:=hq
   subst h2
   have hmap:∀us,(fn.results.toList.mapM (lL a'.tmps)).run P Ω'.w=.ok us Ω'.w→
     (results fn a'.tmps).run P Ω'.w=.ok (if h:us.toArray.size=1 then us.toArray[0] else .tuple us.toArray) Ω'.w:=by
    intro us hus
    rw [kl,←Array.toArray_toList (xs:=fn.results),List.mapM_toArray]
    simp only [Sem.run_bind,Sem.run_map,hus,Result.andThen_ok,Sem.run_pure]
   have key:((match A.pan with | some (b,_,_)=>b=false | none=>True)/\pT (iK C.tbl s' fn.results.toList) s' A.val (bR S A.upd))→
     a'.defers=[]/\∃v,(results fn a'.tmps).run P Ω'.w=.ok v Ω'.w/\∃pub' e',(∀b pv u,A.pan=some (b,pv,u)→b=false)/\V ⟨e',Ω'.w,pub'⟩ A.val v/\After w pub e (aj (bR S A.upd)) Ω'.w pub' e':=by
    rintro ⟨hpan,hend⟩
    refine ⟨h3.defers,?_⟩
    have hpan':∀b pv u,A.pan=some (b,pv,u)→b=false:=by
     intro b pv u hpa
     rw [hpa] at hpan
     exact hpan
    unfold pT at hend
    split at hend
    ·rename_i x hres
     obtain ⟨us,k1,k2⟩:=dN hT h3 _ _ hres
     obtain ⟨u,rfl⟩:=gR (by rw [←k2.1];rfl)
     obtain ⟨Ω2,e2,hh2⟩:=cR (s:=⟨[(0,x)],s'.b⟩) (h3.retmp k2) (fv hend)
     refine ⟨u,by simpa using hmap [u] k1,Ω2.pub,Ω2.e,hpan',?_,?_⟩
     ·have:=hh2.tmps 0
      rw [←e2]
      exact this
     ·rw [←e2]
      exact fX hh2
    ·rename_i l hne hres
     split at hend
     ·rename_i rs hval
      split at hend
      ·rename_i hln
       have hl2:=bC _ _ hln
       obtain ⟨us,k1,k2⟩:=dN hT h3 _ _ hres
       obtain ⟨Ω2,e2,hh2⟩:=cR (s:=⟨cr 0 l,s'.b⟩) (h3.retmp k2) (fv hend)
       have hsz:¬us.toArray.size=1:=by
        intro h1
        obtain ⟨x,hx⟩:=gR (l:=l) (by rw [k2.1];simpa using h1)
        exact hne x hx
       refine ⟨.tuple us.toArray,?_,Ω2.pub,Ω2.e,hpan',?_,?_⟩
       ·rw [hmap us k1,dif_neg hsz]
       ·rw [hval]
        refine .tup rs us (by rw [←k2.1,←hl2]) (fun j c v hc hv=>?_)
        have:=hh2.tmps j
        simp only [St.abs,eI,Nat.zero_le,if_true,Nat.sub_zero,List.getD_eq_getElem?_getD,hc,Option.getD_some] at this
        have e3:(us.toArray++Array.replicate 0 undef).getD j undef=v:=by
         simp [Array.getD_eq_getD_getElem?,hv]
        rw [e3,] at this
        rw [←e2]
        exact this
       ·rw [←e2]
        exact fX hh2
      ·exact hend.elim
     ·exact hend.elim
    ·exact hend.elim
   cases z with
   | normal=>cases h1;exact key h4
   | exit id=>exact h4.elim
   | ret=>cases h1;exact key h4
   | pan pv=>
    obtain ⟨v,rfl,hv⟩:=h1
    simp only at h4
    split at h4
    ·rename_i b pv' pu hpa
     obtain ⟨hbt,hend⟩:=h4
     subst hbt
     obtain ⟨Ω2,e2,hh2⟩:=cR (s:=⟨[(0,pv)],s'.b⟩) (h3.retmp (VL.cons hv .nil)) (fv hend)
     refine ⟨h3.defers,Ω2.pub,Ω2.e,pv',pu,v,hpa,rfl,?_,?_⟩
     ·have:=hh2.tmps 0
      rw [←e2]
      exact this
     ·rw [←e2]
      exact fX hh2
    ·exact h4.elim
end
end Go.AL
end
noncomputable section
namespace Go.AL
variable [Tabs]
theorem TRok.mk' {P:Program} {t:Nat} {r:TR}
  (h1:(P.info? t).map (fun i=>(i.size,i.bytes,i.zero.map fun z=>z.cells.toList.map bH))=some (r.size,r.bytes,some r.zero))
  (h2:(P.underlying t).map (aE P r.ti)=some true)
  (h3:(dQ r.zero r.size && (Nat.beq r.size 0 || Nat.blt 0 r.bytes) && (match r.ty with | some τ=>Nat.beq (ae τ) r.size && (By τ ==r.isAgg) | none=>true))=true)
  (h8:(P.info? t).map (fun i=>i.zero.map fun z=>uO z ==r.isAgg)=some (some true))
  (h9:(match r.ti with | .strct true _=>!P.stoodInHeld t && !P.eqGuardType P.depth t | _=>true)=true):TRok P t r:=by
 simp only [Bool.and_eq_true,Bool.or_eq_true,Nat.beq_eq,Nat.blt_eq] at h3
 obtain ⟨⟨h5,h6⟩,h7⟩:=h3
 refine ⟨?_,bC _ _ h5,fun hz=>?_,?_,fun τ hτ=>?_,fun i z hi hz=>?_,fun fs hfs=>?_⟩
 ·cases hi:P.info? t with
  | none=>rw [hi] at h1;simp at h1
  | some i=>
   rw [hi] at h1
   simp only [Option.map_some,Xs,Prod.mk.injEq,Option.map_eq_some_iff] at h1
   obtain ⟨e1,e2,z,e3,e4⟩:=h1
   exact ⟨i,z,rfl,e1,e2,e3,e4⟩
 ·rcases h6 with h6 | h6
  ·omega
  ·exact h6
 ·cases hd:P.underlying t with
  | none=>rw [hd] at h2;simp at h2
  | some d=>
   rw [hd] at h2
   exact ⟨d,rfl,by simpa using h2⟩
 ·rw [hτ] at h7
  simpa using h7
 ·rw [hi] at h8
  simp [hz] at h8
  exact h8
 ·rw [hfs] at h9
  simpa using h9
theorem aK.nil {P:Program}:aK P []:=fun t r h=>by simp [pR,nk] at h
theorem aK.cons {P:Program} {t:Nat} {r:TR} {l:List (Nat × TR)} (h:TRok P t r) (hl:aK P l):aK P ((t,r) ::l):=by
 intro t' r' h'
 simp only [pR,nk] at h'
 by_cases e:t=t'
 ·subst e
  simp at h'
  subst h'
  exact h
 ·simp only [beq_iff_eq,e,if_false] at h'
  exact hl t' r' h'
theorem aq.mk' {P:Program} {f:Nat} {fn:Func} (h:P.funcs[f]?=some fn) (h2:(fn.body.isNone || (fn.name == "runtime.NumGoroutine"))=false):aq P f:=by
 simp only [Bool.or_eq_false_iff] at h2
 exact ⟨fn,h,h2.1,h2.2⟩
end Go.AL
end
noncomputable section
namespace Go.AL
def Wf (τ:Ty) (x:den τ):Prop:=∃Ω v,V Ω (inj τ x) v
def WfL (args:List AV):Prop:=∃Ω vs,VL Ω args vs
theorem Wf.str {s:Str} (h:Wf .str s):s.length<=9223372036854775807:=letI:=qU;let ⟨_,_,h⟩:=h;h.str_inv.2
theorem Wf.len {τ:Ty} {xs:List (den τ)} (h:Wf (.lst τ) xs):xs.length<=9223372036854775807:=by
 letI:=qU
 obtain ⟨Ω,v,h⟩:=h
 rcases h.lst_inv with ⟨h1,_,_⟩ | ⟨h1,_,_⟩ | ⟨b,off,cap,vals,hv,h1,h2,_⟩
 ·rw [h1];simp
 ·rw [h1];simp
 ·unfold bn at h2;omega
theorem VL.inj {Ω:Om} {τ:Ty} {x:den τ} {vs:List Value} (h:VL Ω (cells τ x) vs):∃v,V Ω (inj τ x) v:=by
 cases τ with
 | st n=>exact ⟨_,.st n x _ (V.of_agg h)⟩
 | int k=>match vs,h with | [v],h=>exact ⟨v,h.head⟩
 | bool=>match vs,h with | [v],h=>exact ⟨v,h.head⟩
 | str=>match vs,h with | [v],h=>exact ⟨v,h.head⟩
 | lst t=>match vs,h with | [v],h=>exact ⟨v,h.head⟩
 | pt n=>match vs,h with | [v],h=>exact ⟨v,h.head⟩
theorem Wf.mem {τ:Ty} {xs:List (den τ)} (h:Wf (.lst τ) xs) {x:den τ} (hx:x∈xs):Wf τ x:=by
 letI:=qU
 obtain ⟨Ω,v,h⟩:=h
 rcases h.lst_inv with ⟨h1,_,_⟩ | ⟨h1,_,_⟩ | ⟨b,off,cap,vals,hv,h1,h2,h3,h4,h5⟩
 ·rw [h1] at hx;simp at hx
 ·rw [h1] at hx;simp at hx
 ·obtain ⟨i,hi⟩:=List.getElem?_of_mem hx
  have:VL Ω (cells τ x) ((List.range (cells τ x).length).map (vals i)):=by
   refine ⟨by simp,fun j c v hc hv=>?_⟩
   have hj:j < (cells τ x).length:=by
    rcases Nat.lt_or_ge j (cells τ x).length with k | k
    ·exact k
    ·rw [List.getElem?_eq_none k] at hc;cases hc
   simp [hj] at hv
   subst hv
   exact h5 i x hi j c hc
  obtain ⟨v',hv'⟩:=this.inj
  exact ⟨Ω,v',hv'⟩
theorem Wf.cell {n:SN} {x:SD n} (h:Wf (.st n) x) (j:Nat) {τ:Ty} {y:den τ} (hc:(cells (.st n) x)[j]?=some (AL.inj τ y)):Wf τ y:=by
 obtain ⟨Ω,v,h⟩:=h
 cases h with
 | st _ _ v hv=>
  obtain ⟨vs,_,hl⟩:=hv.agg_inv
  have hj:j < vs.length:=by
   rw [←hl.1]
   rcases Nat.lt_or_ge j (cells (.st n) x).length with k | k
   ·exact k
   ·rw [List.getElem?_eq_none k] at hc;cases hc
  exact ⟨Ω,_,hl.2 j _ _ hc (List.getElem?_eq_getElem hj)⟩
theorem Wf.names {s:Shape} (h:Wf (.st .shape) s):Wf (.lst .str) s.names:=h.cell 3 (τ:=.lst .str) (y:=s.names) rfl
theorem Wf.parts {s:Shape} (h:Wf (.st .shape) s):Wf (.lst (.st .shape)) s.parts:=h.cell 4 (τ:=.lst (.st .shape)) (y:=s.parts) rfl
theorem Wf.term_parts {x:Trm} (h:Wf (.st .term) x):Wf (.lst (.st .term)) x.parts:=(h.cell 7 (τ:=.lst (.st .term)) (y:=x.parts) rfl)
theorem Wf.val_names {x:Vlu} (h:Wf (.st .val) x):Wf (.lst .str) x.names:=(h.cell 4 (τ:=.lst .str) (y:=x.names) rfl)
theorem Wf.val_parts {x:Vlu} (h:Wf (.st .val) x):Wf (.lst (.st .val)) x.parts:=(h.cell 5 (τ:=.lst (.st .val)) (y:=x.parts) rfl)
theorem Wf.thing_parts {x:Thg} (h:Wf (.st .thing) x):Wf (.lst (.st .thing)) x.parts:=(h.cell 5 (τ:=.lst (.st .thing)) (y:=x.parts) rfl)
theorem WfL.cons {a:AV} {l:List AV} (h:WfL (a ::l)):(∃Ω v,V Ω a v)/\WfL l:=by
 obtain ⟨Ω,vs,h⟩:=h
 rcases h.cases with ⟨e,_⟩ | ⟨c,cs,v,vs',e,_,h1,h2⟩
 ·cases e
 ·cases e;exact ⟨⟨Ω,v,h1⟩,Ω,vs',h2⟩
theorem WfL.one {τ:Ty} {x:den τ} {l:List AV} (h:WfL (inj τ x ::l)):Wf τ x:=h.cons.1
theorem WfL.two {a:AV} {τ:Ty} {x:den τ} {l:List AV} (h:WfL (a ::inj τ x ::l)):Wf τ x:=h.cons.2.cons.1
theorem WfL.three {a b:AV} {τ:Ty} {x:den τ} {l:List AV} (h:WfL (a ::b ::inj τ x ::l)):Wf τ x:=h.cons.2.cons.2.cons.1
section
variable [Tabs]
variable {P:Program}
theorem ao.wf {f:Nat} {args:List AV} {S:List (Nat × SObj)} {A:Ans} (h:WfL args→ao P f args S A):ao P f args S A:=
 fun w pub e vs hp ht hv hs hd hi=>h ⟨_,vs,hv⟩ w pub e vs hp ht hv hs hd hi
theorem ao.args {f:Nat} {args args':List AV} {S:List (Nat × SObj)} {A:Ans} (ha:RdL args args') (h:ao P f args' S A):ao P f args S A:=
 fun w pub e vs hp ht hv hs hd hi=>h w pub e vs hp ht (hv.rd ha) hs hd hi
abbrev Pat:=List AV→List (Nat × SObj)→Option Ans
def dt:List (Nat × Pat)→Nat→Pat
 | [],_=>fun _ _=>none
 | (i,g) ::l,f=>fun args S=>
  match Nat.beq i f with
  | true=>(match g args S with | some A=>some A | none=>dt l f args S)
  | false=>dt l f args S
def ag (P:Program) (f:Nat) (g:Pat):Prop:=
 ∀args S A,g args S=some A→(∀q,A.ob=some q→q)→(aD S).all bc=true→aq P f/\ao P f args S A
theorem jI:bu P (dt []):=fun f args S A h=>by simp [dt] at h
theorem iC {f:Nat} {g:Pat} {l:List (Nat × Pat)} (h:ag P f g) (hl:bu P (dt l)):bu P (dt ((f,g) ::l)):=by
 intro f' args S A hA ho hk
 simp only [dt] at hA
 split at hA
 ·rename_i hb
  have e:f=f':=Nat.eq_of_beq_eq_true hb
  subst e
  split at hA
  ·rename_i A' hg
   simp at hA
   subst hA
   exact h args S A' hg ho hk
  ·exact hl f args S A hA ho hk
 ·exact hl f' args S A hA ho hk
def p1 (τ:Ty) (F:den τ→Ans):Pat
 | [a],[]=>(match arg τ a with | some a=>some (F a) | none=>none)
 | _,_=>none
def p2 (τ σ:Ty) (F:den τ→den σ→Ans):Pat
 | [a,b],[]=>(match arg τ a,arg σ b with | some a,some b=>some (F a b) | _,_=>none)
 | _,_=>none
def pf (τ:Ty) (n:Nat) (F:den τ→Ans):Pat
 | [a,.fn f []],[]=>(match Nat.beq f n with | true=>(match arg τ a with | some a=>some (F a) | none=>none) | false=>none)
 | _,_=>none
def p3 (τ σ ρ:Ty) (F:den τ→den σ→den ρ→Ans):Pat
 | [a,b,c],[]=>(match arg τ a,arg σ b,arg ρ c with | some a,some b,some c=>some (F a b c) | _,_,_=>none)
 | _,_=>none
theorem Rd.arg {τ:Ty} {a:AV} {x:den τ} (h:AL.arg τ a=some x):Rd a (inj τ x):=fun _ _ hv=>zK hv h
theorem bO {f:Nat} {τ:Ty} {F:den τ→Ans} (he:aq P f) (h:∀x,Wf τ x→(∀q,(F x).ob=some q→q)→ao P f [inj τ x] [] (F x)):ag P f (p1 τ F):=by
 intro args S A hA ho _
 unfold p1 at hA
 split at hA
 ·split at hA
  ·rename_i x hx
   simp at hA
   subst hA
   exact ⟨he,ao.args (.cons (Rd.arg hx) .nil) (ao.wf fun hw=>h x hw.one ho)⟩
  ·cases hA
 ·cases hA
theorem fY {f:Nat} {τ σ:Ty} {F:den τ→den σ→Ans} (he:aq P f)
  (h:∀x y,Wf τ x→Wf σ y→(∀q,(F x y).ob=some q→q)→ao P f [inj τ x,inj σ y] [] (F x y)):ag P f (p2 τ σ F):=by
 intro args S A hA ho _
 unfold p2 at hA
 split at hA
 ·split at hA
  ·rename_i x y hx hy
   simp at hA
   subst hA
   exact ⟨he,ao.args (.cons (Rd.arg hx) (.cons (Rd.arg hy) .nil)) (ao.wf fun hw=>h x y hw.one hw.two ho)⟩
  ·cases hA
 ·cases hA
theorem jY {f:Nat} {τ:Ty} {n:Nat} {F:den τ→Ans} (he:aq P f) (h:∀x,Wf τ x→(∀q,(F x).ob=some q→q)→ao P f [inj τ x,.fn n []] [] (F x)):ag P f (pf τ n F):=by
 intro args S A hA ho _
 unfold pf at hA
 split at hA
 ·split at hA
  ·rename_i hb
   have e:=Nat.eq_of_beq_eq_true hb
   subst e
   split at hA
   ·rename_i x hx
    simp at hA
    subst hA
    exact ⟨he,ao.args (.cons (Rd.arg hx) (.cons (Rd.refl _) .nil)) (ao.wf fun hw=>h x hw.one ho)⟩
   ·cases hA
  ·cases hA
 ·cases hA
theorem zX {f:Nat} {τ σ ρ:Ty} {F:den τ→den σ→den ρ→Ans} (he:aq P f)
  (h:∀x y z,Wf τ x→Wf σ y→Wf ρ z→(∀q,(F x y z).ob=some q→q)→ao P f [inj τ x,inj σ y,inj ρ z] [] (F x y z)):ag P f (p3 τ σ ρ F):=by
 intro args S A hA ho _
 unfold p3 at hA
 split at hA
 ·split at hA
  ·rename_i x y z hx hy hz
   simp at hA
   subst hA
   exact ⟨he,ao.args (.cons (Rd.arg hx) (.cons (Rd.arg hy) (.cons (Rd.arg hz) .nil))) (ao.wf fun hw=>h x y z hw.one hw.two hw.three ho)⟩
  ·cases hA
 ·cases hA
end
end Go.AL
end
noncomputable section
namespace Go.AL
theorem bf {α:Type} (l:List α) (k:Nat) (d:α) (h:k < l.length):l.drop k=l.getD k d ::l.drop (k+1):=by
 rw [List.drop_eq_getElem_cons h]
 simp [List.getD_eq_getElem?_getD,h]
theorem de {α:Type} (l:List α) (k:Nat) (d:α) (h:k < l.length):l.getD k d∈l:=by
 simp [List.getD_eq_getElem?_getD,h]
theorem qd {α:Type} (l:List α) (k:Nat) (d:α) (h:k < l.length):l.take (k+1)=l.take k++[l.getD k d]:=by
 rw [List.take_succ_eq_append_getElem h]
 simp [List.getD_eq_getElem?_getD,h]
theorem bM {n:Int} (h1:-9223372036854775808<=n) (h2:n<=9223372036854775807):inR .i64 n:=by
 constructor <;> simp [IntKind.min,IntKind.max,IntKind.signed,IntKind.bits] <;> omega
theorem bV {n m:Nat} (h1:n < m) (h2:m<=9223372036854775807):inR .i64 ((n:Int)+1):=bM (by omega) (by omega)
theorem ji {p:Prop} [Decidable p]:(decide p=true)=p:=by simp
theorem a8 {c p q:Prop} [Decidable c] (h1:c→p) (h2:¬c→q):if c then p else q:=by
 by_cases h:c
 ·rw [if_pos h];exact h1 h
 ·rw [if_neg h];exact h2 h
abbrev bA (α:Type):List α:=[]
theorem zY [Tabs] {P:Program} {C:Cfg} (hm:P.follows .mixedOrders=true) (hT:aK P C.tbl) (hS:bu P C.spec) {ann:An} {f:Nat} {fn:Func} (hf:P.funcs[f]?=some fn)
  {args:List AV} {S:List (Nat × SObj)} {A:Ans} {Q:Prop} (q:Q) (h:fwp C ann fn args S A=Q):ao P f args S A:=y9 hm hT hS hf (h.mpr q)
end Go.AL
end
noncomputable section
namespace Go.AL
variable [Tabs]
open Go.ChangeShapes Go.WideShapes Go.RowKit
def wZ (w:World) (b o:Nat):Prop:=∃v,w.cell? ⟨b,o,none⟩=some v
def Om0 (w:World):Om:=⟨fun _=>none,w,wZ w⟩
theorem yb {P:Program} {f:Nat} {args:List AV} (h:ao P f args [] (.ret (.bool true))) {w:World} {vs:List Value} (htab:∀b o v,Tabs.tab b o v→w.cell? ⟨b,o,none⟩=some v) (hobj:∀b x,Tabs.obj b x→w.heap[b]?=some x) (hv:VL (Om0 w) args vs) :
  Calls P f vs.toArray w fun e w'=>e=.returned (.bool true)/\RowKit.Below w.heap.size w w':=by
 refine Calls.mono (h w (wZ w) (fun _=>none) vs (fun _ _ h=>h) ⟨fun b o v ht=>⟨⟨v,htab b o v ht⟩,htab b o v ht⟩,fun b x hx=>⟨hobj b x hx,fun o ⟨_,_,hc,_⟩=>by cases hc⟩⟩ hv (fun id o ho=>by simp [aH,aF] at ho) (fun _ _=>rfl) (fun i j c d b o hc=>by cases hc)) ?_
 intro e w' hq
 obtain ⟨pub',e',hq⟩:=hq
 cases e with
 | returned v=>
  obtain ⟨_,hv,ha⟩:=hq
  have:=hv.bool_inv
  subst this
  exact ⟨rfl,ha.os,ha.tape,ha.output,ha.size,fun b hb=>ha.block b hb fun o ⟨id,c,hc,_⟩=>by cases hc⟩
 | panicked ch=>
  obtain ⟨pv,u,v,hp,_⟩:=hq
  cases hp
 | outgrown=>exact hq.elim
section
variable {H:Type} {enc:TypeId × Value→H} {P:Program}
theorem jZ (hl:laidOutB P=true) {W W':World} (hb:Below W.heap.size W W') {sp:Nat→Bool}:∀{ts:List TypeId} {vs:List Value} {ds:List (DataW H)} {p:List MemPlace},
  (∀t∈ts,P.readableRec t=true/\t < P.types.size)→DataW.TrodAll enc P W 0 (fun _=>true) true ts vs ds p→(∀x∈p,x.block < W.heap.size)→(∀x∈p,sp x.block=true)→DataW.TrodAll enc P W' 0 sp true ts vs ds p
 | [],_,_,_,_,h,_,_=>by
  obtain ⟨rfl,rfl,rfl⟩:=trodAll_nil h
  exact h
 | t ::ts,_,_,_,hr,h,hlt,hsp=>by
  obtain ⟨v,vs,d,ds,p,q,rfl,rfl,rfl,h1,h2⟩:=trodAll_cons h
  obtain ⟨r1,r2⟩:=hr t (by simp)
  exact ⟨p,q,WideElems.Trod_stays hl r1 r2 h1 (fun x hx=>hb.same (hlt x (by simp [hx]))) (fun x hx=>hsp x (by simp [hx])),
   jZ hl hb (fun t ht=>hr t (by simp [ht])) h2 (fun x hx=>hlt x (by simp [hx])) (fun x hx=>hsp x (by simp [hx])),rfl⟩
theorem zZ (hl:laidOutB P=true) {f:Func} {s:ChangeSpec} {apart fresh handsOn again:Bool} {W W':World} {args:Array Value} {ds gs:List (DataW H)} {before:List MemPlace} {tb:TypeId}
  (hr:∀t∈f.params.toList,P.readableRec t=true/\t < P.types.size) (hvars:s.vars=[]) (hfn:∀ds:List (DataW H),ds.length=f.params.size→s.fn H ds={results:=[.lit (.bool true)],args:=ds}) (hrt:f.resultTypes=#[tb]) (htb:P.underlying tb=some .bool)
  (hW:DataW.Whole enc P f.params.toList s.vars apart W args.toList ds gs before) (hb:Below W.heap.size W W'):s.post enc P f apart fresh handsOn again W args (.bool true) W':=by
 have hlt:∀p∈before,p.block < W.heap.size:=fun p hp=>hW.lt p hp
 have hW0:=hW
 obtain ⟨p,q,hA,hV,e,hz,hn⟩:=hW
 rw [hvars] at hV
 obtain ⟨rfl,rfl⟩:=trodVars_none hV
 rw [List.append_nil] at e
 subst e
 have hlen:ds.length=f.params.size:=by
  have:∀{ts:List TypeId} {vs:List Value} {ds:List (DataW H)} {p:List MemPlace},DataW.TrodAll enc P W 0 (fun _=>true) true ts vs ds p→ds.length=ts.length:=by
   intro ts
   induction ts with
   | nil=>intro vs ds p h;obtain ⟨rfl,rfl,rfl⟩:=trodAll_nil h;rfl
   | cons t ts ih=>intro vs ds p h;obtain ⟨v,vs,d,ds,p,q,rfl,rfl,rfl,h1,h2⟩:=trodAll_cons h;simp [ih h2]
  simpa using this hA
 have hf:=hfn ds hlen
 have hs:∀sp:Nat→Bool,(∀x∈before,sp x.block=true)→DataW.TrodAll enc P W' 0 sp true f.params.toList args.toList ds before:=fun sp hsp=>jZ hl hb hr hA hlt hsp
 have hres:∀(b:Nat) (sp:Nat→Bool) (hd:Bool),DataW.TrodAll enc P W' b sp hd f.resultTypes.toList ((Value.bool true).resultList f.resultTypes.size) [.lit (.bool true)] []:=by
  intro b sp hd
  rw [hrt]
  exact trodAll_cons_mk (shut_bool htb true) trodAll_mk0
 have hvs:DataW.TrodVars enc P W' (fun b=>decide (b < W.heap.size)) s.vars [] []:=by rw [hvars];rfl
 refine ⟨ds,[],before,[],before,[],hW0,?_,?_,?_,World.keptBut_mono (fun x hx=>⟨hx,.inr (.inl hx)⟩) (hb.frame (·∈before)),fun _=>⟨?_,?_⟩⟩
 ·rw [List.append_nil,hf];exact hres _ _ _
 ·rw [List.append_nil,hf];exact hs _ fun x hx=>by simpa using hlt x hx
 ·rw [List.append_nil,hf];exact hvs
 ·intro j t r h1 h2
  rw [hrt] at h1 h2
  cases j with
  | zero=>
   simp at h1
   subst h1
   have:r=.bool true:=by
    simp [Value.resultList] at h2
    exact h2.symm
   subst this
   simp [Value.okWide,htb,Cell.okWide,Cell.ok]
  | succ j=>simp at h1
 ·refine ⟨[.lit (.bool true)]++ds,[],[]++before,⟨[]++before,[],trodAll_append (hs _ fun _ _=>rfl) (hres _ _ _),by rw [hvars];rfl,by simp,fun b off hp=>?_,fun ha=>by simpa using hn ha⟩,fun x hx _=>by simpa using hx⟩
  have hin:MemPlace.cell b off∈before:=by simpa using hp
  rw [hb.frozen (p:=⟨b,off,none⟩) (hlt _ hin)]
  exact hz b off hin
variable {w:World} {base:Nat} {sp:Nat→Bool} {held:Bool}
theorem CC {t:TypeId} {k:IntKind} {fuel:Nat} {cs:List Value} {x:DataW H × List MemPlace} (ht:P.underlying t=some (.int k)) (h:DataW.trod enc P w base sp held fuel t cs=some x) :
  ∃n:Int,cs=[.int k n]/\V (Om0 w) (.int k n) (.int k n):=by
 obtain ⟨n,rfl,_,hw⟩:=DataW.trod_int ht h
 simp only [Lit.wf,Bool.and_eq_true,decide_eq_true_eq] at hw
 exact ⟨n,rfl,.int k n hw.1 hw.2⟩
theorem A0 {t:TypeId} {fuel:Nat} {cs:List Value} {x:DataW H × List MemPlace} (ht:P.underlying t=some .string) (h:DataW.trod enc P w base sp held fuel t cs=some x) :
  ∃(s:Str) (v:Value),cs=[v]/\V (Om0 w) (.str s) v:=by
 obtain ⟨s,rfl,_,hw⟩:=DataW.trod_string ht h
 refine ⟨s.data.toList,_,rfl,?_⟩
 have e:s=⟨s.data.toList.toArray⟩:=by cases s;simp
 have hl:s.data.toList.length<=bn:=by
  have:s.data.size=s.size:=rfl
  unfold maxLen at hw
  unfold bn
  simp only [Array.length_toList,this]
  omega
 have:=V.str (Ω:=Om0 w) s.data.toList hl
 rw [←e] at this
 exact this
end
end Go.AL
end
noncomputable section
namespace Go.AL
variable [Tabs]
open Go.ChangeShapes Go.WideShapes Go.RowKit
variable {H:Type} {enc:TypeId × Value→H} {P:Program} {w:World} {base:Nat} {held:Bool}
structure ShapeAt (P:Program) (t:TypeId):Prop where
 ex:∃(f0 f1 f2 f3 f4:Field) (e:TypeId),P.underlying t=some (.struct #[f0,f1,f2,f3,f4])/\P.cellsOf t=5/\
  (f0.offset=0/\f1.offset=1/\f2.offset=2/\f3.offset=3/\f4.offset=4)/\
  (P.cellsOf f0.type=1/\P.cellsOf f1.type=1/\P.cellsOf f2.type=1/\P.cellsOf f3.type=1/\P.cellsOf f4.type=1)/\
  P.underlying f0.type=some (.int .i64)/\P.underlying f1.type=some .string/\P.underlying f2.type=some .string/\P.underlying f3.type=some (.slice e)/\P.underlying e=some .string/\P.cellsOf e=1/\P.underlying f4.type=some (.slice t)
structure ItemAt (P:Program) (t:TypeId):Prop where
 ex:∃(f0 f1 f2:Field),P.underlying t=some (.struct #[f0,f1,f2])/\P.cellsOf t=7/\(f0.offset=0/\f1.offset=1/\f2.offset=2)/\
  (P.cellsOf f0.type=1/\P.cellsOf f1.type=1/\P.cellsOf f2.type=5)/\P.underlying f0.type=some (.int .i64)/\P.underlying f1.type=some .string/\ShapeAt P f2.type
end Go.AL
end
noncomputable section
namespace Go.AL
open Go.ChangeShapes Go.WideShapes Go.RowKit
abbrev jj (w:World):Tabs:=⟨fun b o v=>b < 4/\w.cell? ⟨b,o,none⟩=some v,fun b x=>b < 4/\w.heap[b]?=some x⟩
variable [Tabs]
variable {H:Type} {enc:TypeId × Value→H} {P:Program} {w:World} {base:Nat} {held:Bool}
structure TokAt (P:Program) (t:TypeId):Prop where
 ex:∃(f0 f1 f2:Field),P.underlying t=some (.struct #[f0,f1,f2])/\P.cellsOf t=3/\(f0.offset=0/\f1.offset=1/\f2.offset=2)/\
  (P.cellsOf f0.type=1/\P.cellsOf f1.type=1/\P.cellsOf f2.type=1)/\P.underlying f0.type=some (.int .i64)/\P.underlying f1.type=some .string/\P.underlying f2.type=some (.int .i64)
end Go.AL
end
noncomputable section
namespace Go.AL
open Go.ChangeShapes Go.WideShapes Go.RowKit
variable [Tabs]
variable {H:Type} {enc:TypeId × Value→H} {P:Program} {w:World} {base:Nat} {held:Bool}
structure BindAt (P:Program) (t:TypeId):Prop where
 ex:∃(f0 f1 f2:Field),P.underlying t=some (.struct #[f0,f1,f2])/\P.cellsOf t=7/\(f0.offset=0/\f1.offset=1/\f2.offset=2)/\
  (P.cellsOf f0.type=1/\P.cellsOf f1.type=1/\P.cellsOf f2.type=5)/\P.underlying f0.type=some .string/\P.underlying f1.type=some .string/\ShapeAt P f2.type
structure EnvAt (P:Program) (t:TypeId):Prop where
 ex:∃(f0 f1 f2 f3:Field) (e:TypeId),P.underlying t=some (.struct #[f0,f1,f2,f3])/\P.cellsOf t=4/\(f0.offset=0/\f1.offset=1/\f2.offset=2/\f3.offset=3)/\
  (P.cellsOf f0.type=1/\P.cellsOf f1.type=1/\P.cellsOf f2.type=1/\P.cellsOf f3.type=1)/\P.underlying f0.type=some .string/\
  (P.underlying f1.type=some (.slice e)/\P.underlying f2.type=some (.slice e)/\P.underlying f3.type=some (.slice e))/\BindAt P e
end Go.AL
end
noncomputable section
namespace Go.AL
variable [Tabs]
theorem b9.blk {Ω:Om} {own:Nat→Nat→Prop} {id:Nat} {ob:SObj} (hs:b9 Ω own id ob) {c:CObj} (hc:Ω.e id=some c) {b o:Nat} (hb:occ c b o):b < Ω.w.heap.size:=by
 cases ob with
 | box x=>
  obtain ⟨b',off,he,hh⟩:=hs
  rw [he] at hc
  simp only [Xs] at hc
  subst hc
  obtain ⟨rfl,h1,h2⟩:=hb
  have hj:o - off < (aa x).length:=by omega
  obtain ⟨_,_,_,v,hv,_⟩:=hh (o - off) _ (List.getElem?_eq_getElem hj)
  exact aS hv
 | tail τ n=>
  obtain ⟨base,cap,he,_,_,_,hb'⟩:=hs
  rw [he] at hc
  simp only [Xs] at hc
  subst hc
  obtain ⟨_,vs,ty,fz,hh,_⟩:=hb' b hb
  exact cm hh
 | map κ τ m=>
  obtain ⟨r,he,_,es,clock,hh,_⟩:=hs
  rw [he] at hc
  simp only [Xs] at hc
  subst hc
  have:b=r:=hb
  subst this
  exact cm hh
 | bld t u l=>
  obtain ⟨b0,g,he,_,hh⟩:=hs
  rw [he] at hc
  simp only [Xs] at hc
  subst hc
  exact hh.lt hb
 | tailp τ n x=>
  obtain ⟨b0,cap,he,_,_,_,⟨vs,ty,fz,hh,_⟩,_⟩:=hs
  rw [he] at hc
  simp only [Xs] at hc
  subst hc
  have:b0=b:=by simpa [occ] using hb
  subst this
  exact cm hh
def ry (e:Nat→Option CObj) (k b o:Nat):Prop:=∃c,e k=some c/\occ c b o
theorem After.slot {w w':World} {pub:Nat→Nat→Prop} {e:Nat→Option CObj} {S:List (Nat × SObj)}
  (hp:j0 w pub) (hs:∀id o,aj S id=some o→b9 ⟨e,w,pub⟩ (fun _ _=>True) id o) (hd:∀id,aj S id=none→e id=none) (hi:Inj e)
  {k:Nat} {obj:SObj} {c:CObj} {Q:Nat→Nat→Prop}
  (os:w'.os=w.os) (tape:w'.tape=w.tape) (output:w'.output=w.output) (size:w.heap.size<=w'.heap.size)
  (block:∀b,b < w.heap.size→(∀o,¬ry e k b o)→w'.heap[b]?=w.heap[b]?)
  (cell:∀b o,b < w.heap.size→¬ry e k b o→w'.cell? ⟨b,o,none⟩=w.cell? ⟨b,o,none⟩)
  (kind:∀b,b < w.heap.size→¬(∀o,ry e k b o)→w'.shape? b=w.shape? b/\∀o,w'.frozen? ⟨b,o,none⟩=w.frozen? ⟨b,o,none⟩)
  (hpub:∀b o,pub b o→w'.cell? ⟨b,o,none⟩=w.cell? ⟨b,o,none⟩)
  (hQ:∀b o,Q b o→w.heap.size<=b/\∃v,w'.cell? ⟨b,o,none⟩=some v)
  (hle:∀c0,e k=some c0→CLe c0 c) (hnew:∀b o,occ c b o→w.heap.size<=b∨ry e k b o)
  (hobj:Ext ⟨e,w,pub⟩ ⟨fun i=>if k=i then some c else e i,w',fun b o=>pub b o∨Q b o⟩→
   b9 ⟨fun i=>if k=i then some c else e i,w',fun b o=>pub b o∨Q b o⟩ (fun b o=>w.heap.size<=b∨jO e b o) k obj) :
  After w pub e (aj (bR S [(k,obj)])) w' (fun b o=>pub b o∨Q b o) (fun i=>if k=i then some c else e i):=by
 have blk:∀{id c b o},e id=some c→occ c b o→b < w.heap.size:=by
  intro id c b o hc ho
  cases hg:aj S id with
  | none=>rw [hd id hg] at hc;cases hc
  | some ob=>exact (hs id ob hg).blk (Ω:=⟨e,w,pub⟩) hc ho
 have hx:Ext ⟨e,w,pub⟩ ⟨fun i=>if k=i then some c else e i,w',fun b o=>pub b o∨Q b o⟩:=by
  refine ⟨fun id c' hc'=>?_,fun b o h=>Or.inl h,fun b o h=>hpub b o h⟩
  by_cases hid:k=id
  ·subst hid;exact ⟨c,by simp,hle c' hc'⟩
  ·exact ⟨c',by simp only [if_neg hid];exact hc',CLe.refl _⟩
 have toL:∀{b o},ry e k b o→jO e b o:=fun ⟨c,h1,h2⟩=>⟨k,c,h1,h2⟩
 have stay:∀{id c' b o},k≠id→e id=some c'→occ c' b o→¬ry e k b o:=by
  rintro id c' b o hid hc ho ⟨c0,h1,h2⟩
  exact hid (hi k id c0 c' b o h1 hc h2 ho)
 refine ⟨os,tape,output,size,fun b hb h=>block b hb fun o ho=>h o (toL ho),fun b o hb h=>cell b o hb fun ho=>h (toL ho),
  fun b hb h=>kind b hb fun ho=>h fun o=>toL (ho o),hx,fun b o h=>?_,fun b o h=>?_,fun id o h=>?_,fun id h=>?_,?_⟩
 ·rcases h with h | h
  ·exact Or.inl h
  ·exact Or.inr (Or.inl (hQ b o h).1)
 ·rcases h with h | h
  ·obtain ⟨v,hv⟩:=hp b o h;exact ⟨v,(hpub b o h).trans hv⟩
  ·exact (hQ b o h).2
 ·rw [fV,fR] at h
  by_cases hid:k=id
  ·subst hid
   simp only [if_true] at h
   cases h
   exact hobj hx
  ·simp only [if_neg hid] at h
   have h0:=hs id o h
   refine b9.own_of (b9.keep h0 hx (by simp only [if_neg hid]) fun c' hc'=>?_) (fun c' b o hc ho=>?_)
   ·have hc':e id=some c':=hc'
    cases c' with
    | box b off len=>
     intro oo h1 h2
     have ho:occ (.box b off len) b oo:=⟨rfl,h1,h2⟩
     refine ⟨cell b oo (blk hc' ho) (stay hid hc' ho),(kind b (blk hc' ho) fun hall=>stay hid hc' ho (hall oo)).2 oo,fun hp'=>?_⟩
     rcases hp' with hp' | hp'
     ·exact hp'
     ·have:=(hQ _ _ hp').1;have:=blk hc' ho;omega
    | tail n base cap=>
     intro b hb
     have ho:∀oo,occ (.tail n base cap) b oo:=fun _=>hb
     refine ⟨block b (blk hc' (ho 0)) fun oo=>stay hid hc' (ho oo),fun oo hp'=>?_⟩
     rcases hp' with hp' | hp'
     ·exact hp'
     ·have:=(hQ _ _ hp').1;have:=blk hc' (ho 0);omega
    | obj r=>
     have ho:∀oo,occ (.obj r) r oo:=fun _=>rfl
     exact block r (blk hc' (ho 0)) fun oo=>stay hid hc' (ho oo)
    | bld b g=>
     intro b' hb'
     have ho:∀oo,occ (.bld b g) b' oo:=fun _=>hb'
     refine ⟨block b' (blk hc' (ho 0)) fun oo=>stay hid hc' (ho oo),fun oo hp'=>?_⟩
     rcases hp' with hp' | hp'
     ·exact hp'
     ·have:=(hQ _ _ hp').1;have:=blk hc' (ho 0);omega
   ·simp only [if_neg hid] at hc
    exact Or.inr ⟨id,c',hc,ho⟩
 ·rw [fV,fR] at h
  by_cases hid:k=id
  ·simp [hid] at h
  ·simp only [if_neg hid] at h ⊢
   exact hd id h
 ·intro i j ci cj b o hci hcj hoi hoj
  simp only at hci hcj
  by_cases h1:k=i <;> by_cases h2:k=j
  ·omega
  ·simp only [if_pos h1,if_neg h2,Xs] at hci hcj
   subst hci
   rcases hnew b o hoi with h | h
   ·have:=blk hcj hoj;omega
   ·exact absurd h (stay h2 hcj hoj)
  ·simp only [if_neg h1,if_pos h2,Xs] at hci hcj
   subst hcj
   rcases hnew b o hoj with h | h
   ·have:=blk hci hoi;omega
   ·exact absurd h (stay h1 hci hoi)
  ·simp only [if_neg h1,if_neg h2] at hci hcj
   exact hi i j ci cj b o hci hcj hoi hoj
theorem After.fresh1 {w w':World} {pub:Nat→Nat→Prop} {e:Nat→Option CObj} {S:List (Nat × SObj)}
  (hp:j0 w pub) (hs:∀id o,aj S id=some o→b9 ⟨e,w,pub⟩ (fun _ _=>True) id o) (hd:∀id,aj S id=none→e id=none) (hi:Inj e)
  {k:Nat} {obj:SObj} {c:CObj} (hb:RowKit.Below w.heap.size w w') (hk:aj S k=none) (hnew:∀b o,occ c b o→w.heap.size<=b)
  (hobj:b9 ⟨fun i=>if k=i then some c else e i,w',fun b o=>pub b o∨False⟩ (fun b o=>w.heap.size<=b∨jO e b o) k obj) :
  After w pub e (aj (bR S [(k,obj)])) w' (fun b o=>pub b o∨False) (fun i=>if k=i then some c else e i):=
 After.slot hp hs hd hi (Q:=fun _ _=>False) hb.os hb.tape hb.output hb.size (fun b h _=>hb.block b h) (fun b o h _=>ak (hb.block b h) o)
  (fun b h _=>⟨b7 (hb.block b h),fun o=>aO (hb.block b h) o⟩)
  (fun b o h=>by obtain ⟨v,hv⟩:=hp b o h;exact ak (hb.block b (aS hv)) o)
  (fun _ _ h=>h.elim) (fun c0 h=>by rw [hd k hk] at h;cases h) (fun b o h=>Or.inl (hnew b o h)) (fun _=>hobj)
theorem VL.one_inv {Ω:Om} {a:AV} {vs:List Value} (h:VL Ω [a] vs):∃v,vs=[v]/\V Ω a v:=by
 obtain ⟨hl,h⟩:=h
 match vs,hl,h with
 | [v],_,h=>exact ⟨v,rfl,h 0 a v rfl rfl⟩
theorem VL.two_inv {Ω:Om} {a b:AV} {vs:List Value} (h:VL Ω [a,b] vs):∃v u,vs=[v,u]/\V Ω a v/\V Ω b u:=by
 obtain ⟨hl,h⟩:=h
 match vs,hl,h with
 | [v,u],_,h=>exact ⟨v,u,rfl,h 0 a v rfl rfl,h 1 b u rfl rfl⟩
end Go.AL
end
noncomputable section
namespace Go.AL
variable [Tabs]
open Go.Proofs Go.Shelf Go.RowKit
variable {P:Program} {ρ:Ren}
structure But (w w':World) (b:Nat) (g:Option Nat):Prop where
 os:w'.os=w.os
 tape:w'.tape=w.tape
 output:w'.output=w.output
 size:w.heap.size<=w'.heap.size
 block:∀k,k < w.heap.size→k≠b→g≠some k→w'.heap[k]?=w.heap[k]?
structure WL (P:Program) (ρ:Ren):Prop where
 mixed:P.follows .mixedOrders=true
 f166:P.funcs[ρ.f 166]?=some (Body.n166 ρ)
 t3:P.underlying (ρ.t 3)=some (TypeDesc.int IntKind.i64)
 a3:∀w,(isAgg (ρ.t 3)).run P w=.ok false w
 z3:∀w,(Go.sizeOf (ρ.t 3)).run P w=.ok 1 w
 v3:∀w,(zeroValue (ρ.t 3)).run P w=.ok (Value.int IntKind.i64 0) w
 t9:P.underlying (ρ.t 9)=some (TypeDesc.string)
 a9:∀w,(isAgg (ρ.t 9)).run P w=.ok false w
 z9:∀w,(Go.sizeOf (ρ.t 9)).run P w=.ok 1 w
 v9:∀w,(zeroValue (ρ.t 9)).run P w=.ok (Value.string {data:=#[]}) w
 t37:P.underlying (ρ.t 37)=some (TypeDesc.slice (ρ.t 5))
 a37:∀w,(isAgg (ρ.t 37)).run P w=.ok false w
 z37:∀w,(Go.sizeOf (ρ.t 37)).run P w=.ok 1 w
 v37:∀w,(zeroValue (ρ.t 37)).run P w=.ok (Value.slice none 0 0) w
 t70:P.underlying (ρ.t 70)=some (TypeDesc.pointer (ρ.t 72))
 a70:∀w,(isAgg (ρ.t 70)).run P w=.ok false w
 z70:∀w,(Go.sizeOf (ρ.t 70)).run P w=.ok 1 w
 v70:∀w,(zeroValue (ρ.t 70)).run P w=.ok (Value.pointer none) w
 t72:P.underlying (ρ.t 72)=some (TypeDesc.struct #[{name:= "addr",type:=ρ.t 70,offset:=0,embedded:=false,tag:= "",pkgPath:= "strings",byteOffset:=0},{name:= "buf",type:=ρ.t 37,offset:=1,embedded:=false,tag:= "",pkgPath:= "strings",byteOffset:=8}])
 a72:∀w,(isAgg (ρ.t 72)).run P w=.ok true w
 z72:∀w,(Go.sizeOf (ρ.t 72)).run P w=.ok 2 w
 v72:∀w,(zeroValue (ρ.t 72)).run P w=.ok (Value.agg #[Value.pointer none,Value.slice none 0 0]) w
end Go.AL
end
noncomputable section
namespace Go.AL
variable [Tabs]
open Go.Proofs Go.RowKit Go.Maps Go.Sort Go.Shelf
variable {P:Program} {ρ:Ren}
def dj {α:Type} (F:Fence) (n:Nat) (P:Program) (g:Nat) (lb:Array Value) (enc:α→Value) (S:List α→Prop) (N:Nat) (w:World):Prop:=
 ∀(l:Nat) (J:List α→World→Prop) (W:World),Below w.heap.size w W→AbidesFrom W.heap.size J→(∀pre W1,J pre W1→Below w.heap.size w W1)→
  (∀pre x W1,J pre W1→pre.length < N→YieldAt F (n - 1) P l #[enc x] W1 fun e W'=>e=.returned (.bool true)/\J (pre++[x]) W'/\KeepsWalks W1 W')→
  J [] W→
  CallsIn F n P g (#[.func (.yield l) #[] #[]]++lb) W fun e W'=>(∃v,e=.returned v)/\∃xs,S xs/\J xs W'
theorem dj.bounded {α:Type} {F:Fence} {n:Nat} {g:Nat} {lb:Array Value} {enc:α→Value} {S:List α→Prop} {N:Nat} {w:World}
  (h:dj F n P g lb enc S N w):dj F n P g lb enc (fun xs=>S xs/\xs.length<=N) N w:=fun l J W hW hJ hB hY h0=>by
 refine (h l (fun xs W'=>J xs W'/\xs.length<=N) W hW (fun s A B row hs hg hr=>⟨hJ s A B row hs.1 hg hr,hs.2⟩) (fun pre W1 h=>hB pre W1 h.1)
  (fun pre x W1 hj hl=>(hY pre x W1 hj.1 hl).mono (fun e w' hr=>⟨hr.1,⟨hr.2.1,by simp;omega⟩,hr.2.2⟩)) ⟨h0,Nat.zero_le _⟩).mono ?_
 rintro e W' ⟨hv,xs,hS,hJ',hlen⟩
 exact ⟨hv,xs,⟨hS,hlen⟩,hJ'⟩
set_option maxRecDepth 100000 in
set_option maxHeartbeats 2000000 in
theorem vo (L:SlLaysZ.n11 P ρ) (F:Fence) (n:Nat) (h11:F.fn (ρ.f 11)) (hro:F.round=none) (hn:2<=n) (g:Nat) (lb:Array Value) (hFg:F.fn g) (eg:∀args w,(callFunc g args).run P w=.ok (.enter g args) w)
  (S:List (List UInt8)→Prop) (N:Nat) (hN:N<=maxLen) (hNb:N *16<=140737488355328) (w:World) (hseq:dj F (n - 1) P g lb encStr S N w) :
  CallsIn F n P (ρ.f 11) #[.slice none 0 0,.func (.func g) #[] lb] w fun e w'=>∃(v:Value) (ss:List (List UInt8)),e=.returned v/\S ss/\w'.ownsRow w.heap.size (ρ.t 26) 1 v ss.length (ss.map encStr)/\(v=.slice none 0 0↔ss=[])/\Below w.heap.size w w':=by
 have h1:1<=n:=by omega
 have mixed:=L.mixed;have t0:=L.t0;have a0:=L.a0;have z0:=L.z0;have v0:=L.v0;have t24:=L.t24;have a24:=L.a24;have z24:=L.z24;have v24:=L.v24;have t26:=L.t26;have a26:=L.a26;have z26:=L.z26;have v26:=L.v26;have t28:=L.t28;have a28:=L.a28;have z28:=L.z28;have v28:=L.v28
 have hne:ρ.t 24≠ρ.t 26:=fun e=>by have h:=L.t24;rw [e,L.t26] at h;cases h
 have u0:=run_underlying L.t0;have u24:=run_underlying L.t24;have u26:=run_underlying L.t26;have u28:=run_underlying L.t28
 obtain ⟨_,_,FG⟩:=L.f11
 refine callsIn_of_wp_marks FG rfl h11 ?_ hro
 simp only [SlBodyZ.n11_ntmps ρ,List.size_toArray,List.length_cons,List.length_nil,Nat.reduceAdd,Nat.reduceSub,Array.replicate_succ,Array.replicate_zero,List.push_toArray,List.append_toArray,List.nil_append,List.cons_append]
 gi_wp2
 refine wpIn_rangeFunc ?_
 intro fn hfn
 rw [hro]
 obtain ⟨W0,hW0⟩:∃W0,w.alloc (.cells #[.slice none 0 0] (ρ.t 24))=W0:=⟨_,rfl⟩
 have hs0:W0.heap.size=w.heap.size+1:=by rw [←hW0];simp
 have hv0:W0.heap[w.heap.size]?=some (.cells #[.slice none 0 0] (ρ.t 24) (0,0)):=by rw [←hW0];exact World.alloc_heap_new w _
 have hb0:Below w.heap.size w W0:=by rw [←hW0];exact (Below.refl _ w).alloc (Nat.le_refl _) _
 rw [hW0]
 obtain ⟨W1,hW1⟩:∃W1,(W0.alloc (.deferred (some []))).alloc (.loop (AnyZ.apRec ρ fn (.func (.func g) #[] lb) w.heap.size W0.heap.size .ready none))=W1:=⟨_,rfl⟩
 have hold:∀k,k < W0.heap.size→W1.heap[k]?=W0.heap[k]?:=fun k hk=>by
  rw [←hW1];exact (Below.heap_alloc _ _ k (by simp;omega)).trans (Below.heap_alloc _ _ k hk)
 have hb1:Below w.heap.size w W1:=by rw [←hW1];exact (hb0.alloc hb0.size _).alloc (by have:=hb0.size;simp;omega) _
 have hs1:W1.heap.size=W0.heap.size+2:=by rw [←hW1];simp
 have hM:AnyZ.ApAt ρ w fn (.func (.func g) #[] lb) w.heap.size (W0.heap.size+1) W0.heap.size [] W1:=
  ⟨⟨_,(hold w.heap.size (by omega)).trans hv0,⟨rfl,.inl ⟨rfl,rfl⟩⟩,by simp⟩,
   by rw [←hW1];have:=World.alloc_heap_new (W0.alloc (.deferred (some []))) (.loop (AnyZ.apRec ρ fn (.func (.func g) #[] lb) w.heap.size W0.heap.size .ready none));rwa [World.size_alloc] at this,
   by rw [←hW1];exact (Below.heap_alloc _ _ _ (by simp)).trans (World.alloc_heap_new W0 _),hb1⟩
 refine ⟨W0.heap.size+1,[{target:=.collected W0.heap.size,args:=#[]}],W1,{target:=.fn (.func g) lb,args:=#[.func (.yield (W0.heap.size+1)) #[] #[]]},W1,g,
  #[.func (.yield (W0.heap.size+1)) #[] #[]]++lb,W1,?_,?_,?_,?_,fun _=>h1,?_⟩
 ·rw [←hW1];exact run_enterLoop_outer _ _ _ _ _
 ·simp [resolve,go_sem]
 ·intro f' hf';simp [Target.leads] at hf';subst hf';exact hFg
 ·simp [invoke,go_sem,eg]
 ·refine (hseq (W0.heap.size+1) (AnyZ.ApAt ρ w fn (.func (.func g) #[] lb) w.heap.size (W0.heap.size+1) W0.heap.size) W1 hb1 (AnyZ.ap_abides ρ _ _ _ _ _ _ _ hb1.size) (fun _ _ h=>h.below)
   (fun pre x W hJ hl=>AnyZ.apYield {L with} F (n - 1 - 1) w fn hfn _ w.heap.size (W0.heap.size+1) W0.heap.size (by omega) (by omega) (by omega) (Nat.le_refl _) (by omega) N hN hNb pre x W hJ hl) hM).mono ?_
  rintro e W2 ⟨⟨v0,rfl⟩,ss,hS,h2⟩
  obtain ⟨v,hv,hrow,hnil⟩:=h2.box
  have hend:=run_endLoop (P:=P) h2.L (by simp [AnyZ.apRec])
  obtain ⟨W3,hW3⟩:∃W3,W2.putObj (W0.heap.size+1) (.loop {AnyZ.apRec ρ fn (.func (.func g) #[] lb) w.heap.size W0.heap.size .ready none with state:=.exhausted})=W3:=⟨_,rfl⟩
  rw [hW3] at hend
  have hg3:W2.grownBy W3 (some (W0.heap.size+1)):=by rw [←hW3];exact grownBy_putObj_a _ _ _
  have hv3:W3.heap[w.heap.size]?=some (.cells #[v] (ρ.t 24) (0,0)):=by rw [←hW3];exact (World.putObj_heap_other (by omega)).trans hv
  have hK3:W3.heap[W0.heap.size]?=some (.deferred (some [])):=by rw [←hW3];exact (World.putObj_heap_other (by omega)).trans h2.K
  have hrow3:=hrow.kept hg3 (ownsRow_ne_a hrow h2.L (fun cur e=>by first | cases e | exact hne (Obj.cells.inj e).2.1))
  have hb3:Below w.heap.size w W3:=h2.below.grown hg3 h2.below.size (fun k e=>by cases e;omega)
  obtain ⟨hc3,hf3⟩:=cell_of_box_a hv3
  clear hW3
  refine ⟨none,W3,hend,?_⟩
  gi_wp2
  rw [←hs0]
  refine ⟨by simp,.inl ⟨_,_,rfl,run_takeDeferred hK3,?_⟩⟩
  exact ⟨_,results_tmp rfl _ _ _,v,ss,rfl,hS,hrow3.kept (grownBy_putObj_a _ _ _) (ownsRow_ne_a hrow3 hK3 (fun cur e=>by first | cases e | exact hne (Obj.cells.inj e).2.1)),hnil,hb3.grown (grownBy_putObj_a _ _ _) hb3.size (fun k e=>by cases e;omega)⟩
set_option maxRecDepth 100000 in
set_option maxHeartbeats 2000000 in
theorem A1 (L:SlLaysZ.n8 P ρ) (F:Fence) (n:Nat) (h8:F.fn (ρ.f 8)) (h11:F.fn (ρ.f 11)) (hro:F.round=none) (hn:3<=n) (g:Nat) (lb:Array Value) (hFg:F.fn g) (eg:∀args w,(callFunc g args).run P w=.ok (.enter g args) w)
  (S:List (List UInt8)→Prop) (N:Nat) (hN:N<=maxLen) (hNb:N *16<=140737488355328) (w:World) (hseq:dj F (n - 1 - 1) P g lb encStr S N w) :
  CallsIn F n P (ρ.f 8) #[.func (.func g) #[] lb] w fun e w'=>∃(v:Value) (ss:List (List UInt8)),e=.returned v/\S ss/\w'.ownsRow w.heap.size (ρ.t 26) 1 v ss.length (ss.map encStr)/\(v=.slice none 0 0↔ss=[])/\Below w.heap.size w w':=by
 have h1:1<=n:=by omega
 have e11:∀args w,(callFunc (ρ.f 11) args).run P w=.ok (.enter (ρ.f 11) args) w:=L.f11.enters rfl
 have mixed:=L.mixed;have t0:=L.t0;have a0:=L.a0;have z0:=L.z0;have v0:=L.v0;have t24:=L.t24;have a24:=L.a24;have z24:=L.z24;have v24:=L.v24;have t26:=L.t26;have a26:=L.a26;have z26:=L.z26;have v26:=L.v26;have t28:=L.t28;have a28:=L.a28;have z28:=L.z28;have v28:=L.v28
 have u0:=run_underlying L.t0;have u24:=run_underlying L.t24;have u26:=run_underlying L.t26;have u28:=run_underlying L.t28
 obtain ⟨_,_,FG⟩:=L.f8
 refine callsIn_of_wp FG rfl h8 ?_ hro
 simp only [SlBodyZ.n8_ntmps ρ,List.size_toArray,List.length_cons,List.length_nil,Nat.reduceAdd,Nat.reduceSub,Array.replicate_succ,Array.replicate_zero,List.push_toArray,List.append_toArray,List.nil_append,List.cons_append]
 gi_wp2_with (gi_at_fn (ρ.f 11);refine (vo {L with} F (n - 1) h11 hro (by omega) g lb hFg eg S N hN hNb _ hseq).mono ?_;rintro e w' ⟨v,ss,rfl,hS,hrow,hnil,hb⟩)
 go_ret
 exact ⟨v,ss,rfl,hS,hrow,hnil,hb⟩
set_option maxRecDepth 100000 in
set_option maxHeartbeats 2000000 in
theorem BR (L:SlLaysZ.n6 P ρ) (F:Fence) (n:Nat) (h6:F.fn (ρ.f 6)) (h8:F.fn (ρ.f 8)) (h9:F.fn (ρ.f 9)) (h11:F.fn (ρ.f 11)) (hro:F.round=none) (hn:4<=n) (hsort:AnyZ.SortsIn P ρ F (n - 1)) (e9:∀args w,(callFunc (ρ.f 9) args).run P w=.ok (.enter (ρ.f 9) args) w) (g:Nat) (lb:Array Value) (hFg:F.fn g) (eg:∀args w,(callFunc g args).run P w=.ok (.enter g args) w)
  (S:List (List UInt8)→Prop) (N:Nat) (hN:N<=maxLen) (hNb:N *16<=140737488355328) (w:World) (hseq:dj F (n - 1 - 1 - 1) P g lb encStr S N w) :
  CallsIn F n P (ρ.f 6) #[.func (.func g) #[] lb] w fun e w'=>∃(v:Value) (ss:List (List UInt8)),e=.returned v/\S ss/\
   w'.ownsRow w.heap.size (ρ.t 26) 1 v ss.length ((ss.mergeSort (fun x y=>decide (x<=y))).map encStr)/\(v=.slice none 0 0↔ss=[])/\Below w.heap.size w w':=by
 have h1:1<=n:=by omega
 have e8:∀args w,(callFunc (ρ.f 8) args).run P w=.ok (.enter (ρ.f 8) args) w:=L.f8.enters rfl
 have mixed:=L.mixed;have t0:=L.t0;have a0:=L.a0;have z0:=L.z0;have v0:=L.v0;have t24:=L.t24;have a24:=L.a24;have z24:=L.z24;have v24:=L.v24;have t26:=L.t26;have a26:=L.a26;have z26:=L.z26;have v26:=L.v26;have t28:=L.t28;have a28:=L.a28;have z28:=L.z28;have v28:=L.v28
 have u0:=run_underlying L.t0;have u24:=run_underlying L.t24;have u26:=run_underlying L.t26;have u28:=run_underlying L.t28
 obtain ⟨_,_,FG⟩:=L.f6
 refine callsIn_of_wp FG rfl h6 ?_ hro
 simp only [SlBodyZ.n6_ntmps ρ,List.size_toArray,List.length_cons,List.length_nil,Nat.reduceAdd,Nat.reduceSub,Array.replicate_succ,Array.replicate_zero,List.push_toArray,List.append_toArray,List.nil_append,List.cons_append]
 gi_wp2_with (gi_at_fn (ρ.f 8);refine (A1 {L with} F (n - 1) h8 h11 hro (by omega) g lb hFg eg _ N hN hNb _ (dj.bounded hseq)).mono ?_;rintro e W ⟨v,ss,rfl,⟨hS,hlen⟩,hrow,hnil,hb⟩)
 rcases hrow.2 with ⟨rfl,hz⟩ | ⟨gb,cap,cur,rfl,hbase,hgb,r1,r2,r3,r4⟩
 ·
  have hss:ss=[]:=List.eq_nil_of_length_eq_zero hz
  subst hss
  gi_wp2_with (gi_at_fn (ρ.f 9);refine (hsort.2 none 0 W).mono ?_;rintro e w' ⟨rfl,rfl⟩)
  go_ret
  exact ⟨.slice none 0 0,[],rfl,hS,by simpa using hrow,by simp,hb⟩
 ·have hH:Go.Sort.Holds encStr W gb 0 ss.toArray:=holds_of_block hgb (by simpa using r4)
  have hgl:gb < W.heap.size:=(Array.getElem?_eq_some_iff.1 hgb).1
  have hsz:ss.length < 4611686018427387904:=by omega
  have cS:=hsort.1 gb 0 cap ss W hH hgl hsz
  gi_wp2_with (gi_at_fn (ρ.f 9);refine cS.mono ?_;rintro e w' ⟨rfl,nn,os,rfl⟩)
  go_ret
  exact ⟨_,ss,rfl,hS,ownsRow_sorted (by simp) hbase hgb r1 r2 r3,hnil,hb.grown (grownBy_sorted _) hb.size (fun j hj=>by cases hj;exact hbase)⟩
theorem ye {f:Nat} {args:List AV} {S:List (Nat × SObj)} {ob:Option Prop} {T:TypeId} {ss:List Str} (hk:aj S 0=none)
  (hC:∀w pub e vs,j0 w pub→VL ⟨e,w,pub⟩ args vs→(∀id o,aj S id=some o→b9 ⟨e,w,pub⟩ (fun _ _=>True) id o)→
   (∀s∈ss,s.length<=bn)/\Calls P f vs.toArray w fun en w'=>∃v,en=.returned v/\w'.ownsRow w.heap.size T 1 v ss.length (ss.map encStr)/\Below w.heap.size w w') :
  ao P f args S ⟨ob,none,.arr 0 ss.length 1,[(0,.box (.row .str ss))]⟩:=by
 intro w pub e vs hp ht hv hs hd hi
 obtain ⟨hlen,hC⟩:=hC w pub e vs hp hv hs
 refine hC.mono ?_
 rintro en w' ⟨v,rfl,⟨hl,hrow⟩,hb⟩
 have hpl:(aa (.row .str ss)).length=ss.length:=by
  have:=bh .str ss
  rw [show ae .str=1 from rfl,Nat.mul_one] at this
  exact this
 rcases hrow with ⟨rfl,hz⟩ | ⟨g,cap,cur,rfl,hbase,hg,h1,h2,h3,h4⟩
 ·have hss:ss=[]:=List.eq_nil_of_length_eq_zero hz
  subst hss
  refine ⟨_,_,fun _ _ _ h=>(by cases h),?_,After.fresh1 (c:=.box w.heap.size 0 0) hp hs hd hi hb hk (fun b o ho=>by obtain ⟨_,_,h⟩:=ho;omega) ⟨w.heap.size,0,by simp;rfl,fun j c' hc=>?_⟩⟩
  ·exact .arr 0 0 1 w.heap.size 0 0 none (by simp) (by omega) (by omega) (by unfold bn;omega) (.inr ⟨rfl,rfl,rfl⟩)
  ·simp [aa,aX] at hc
 ·refine ⟨_,_,fun _ _ _ h=>(by cases h),?_,After.fresh1 (c:=.box g 0 (aa (.row .str ss)).length) hp hs hd hi hb hk (fun b o ho=>by obtain ⟨rfl,_,_⟩:=ho;exact hbase) ⟨g,0,by simp,fun j c' hc=>?_⟩⟩
  ·exact .arr 0 ss.length 1 g (aa (.row .str ss)).length cap (some ⟨g,0,none⟩) (by simp) (by omega) h1 (by unfold maxLen at h2;unfold bn;omega) (.inl rfl)
  ·have hj:j < ss.length:=by
    rw [←hpl]
    rcases Nat.lt_or_ge j (aa (.row .str ss)).length with k | k
    ·exact k
    ·rw [List.getElem?_eq_none k] at hc;cases hc
   have hcx:=fP .str ss j ss[j] 0 (.str ss[j]) (by simp [hj]) rfl
   have hc0:(aa (.row .str ss))[j]?=some (.str ss[j]):=by rw [show j *ae .str+0=j by rw [show ae .str=1 from rfl];omega] at hcx;exact hcx
   rw [hc0] at hc
   cases hc
   have hcur:cur[j]?=some (encStr ss[j]):=by
    have:(cur.toList.take (ss.length *1))[j]?=some (encStr ss[j]):=by rw [h4];simp [hj]
    rw [List.getElem?_take] at this
    split at this
    ·simpa using this
    ·cases this
   refine ⟨.inl hbase,fun h=>?_,dA hg _,encStr ss[j],by rw [Nat.zero_add,ax hg];exact hcur,.str _ (hlen _ (List.getElem_mem hj))⟩
   rcases h with h | h
   ·obtain ⟨v,hv⟩:=hp _ _ h
    have:=aS hv
    omega
   ·exact h
def dO (l:List Str):List Str:=l.mergeSort fun x y=>decide (x<=y)
theorem kV (l:List Str):(dO l).length=l.length:=List.length_mergeSort _
theorem yf {l:List Str} {s:Str}:s∈dO l↔s∈l:=List.mem_mergeSort
structure SortL (P:Program) (ρ:Ren):Prop where
 lay:SlLaysZ.n6 P ρ
 sorts:AnyZ.SortsIn P ρ Fence.wide 4
 e9:∀args w,(callFunc (ρ.f 9) args).run P w=.ok (.enter (ρ.f 9) args) w
theorem rz (L:SortL P ρ) {g:Nat} {lb:Array Value} (eg:∀args w,(callFunc g args).run P w=.ok (.enter g args) w) {ks:List Str} (hN:ks.length *16<=140737488355328) {w:World}
  (hseq:dj Fence.wide 2 P g lb encStr (fun ss=>ss.Perm ks) ks.length w) :
  Calls P (ρ.f 6) #[.func (.func g) #[] lb] w fun en w'=>∃v,en=.returned v/\w'.ownsRow w.heap.size (ρ.t 26) 1 v (dO ks).length ((dO ks).map encStr)/\Below w.heap.size w w':=by
 refine callsIn_wide.1 ((BR L.lay Fence.wide 5 trivial trivial trivial trivial rfl (by omega) L.sorts L.e9 g lb trivial eg _ ks.length (by unfold maxLen;omega) hN w hseq).mono ?_)
 rintro en w' ⟨v,ss,rfl,hS,hrow,_,hb⟩
 have e:ss.mergeSort (fun x y=>decide (x<=y))=dO ks:=mergeSort_of_perm hS
 have hl:ss.length=(dO ks).length:=by rw [kV];exact hS.length_eq
 rw [e,hl] at hrow
 exact ⟨v,rfl,hrow,hb⟩
theorem V.fn_inv {Ω:Om} {f:Nat} {cs:List AV} {v:Value} (h:V Ω (.fn f cs) v):∃vs,v=.func (.func f) #[] vs.toArray/\VL Ω cs vs:=by
 cases h with
 | fn _ _ vs h1 h2=>exact ⟨vs,rfl,h1,h2⟩
def Strs (n₀:Nat) (W:World) (sv:Value) (zs:List Str):Prop:=
 ((∃a cap,sv=.slice a 0 cap)/\zs=[])∨∃b off cap,sv=.slice (some ⟨b,off,none⟩) zs.length cap/\b < n₀/\∀j,j < zs.length→W.cell? ⟨b,off+j,none⟩=some (encStr (zs[j]?.getD []))
def pr {α:Type} (f:Nat→α) (k:Nat):List α:=(List.range k).map f
theorem yg {α:Type} (f:Nat→α) (k:Nat):pr f (k+1)=pr f k++[f k]:=by simp [pr,List.range_succ]
theorem sX {α:Type} (f:Nat→α) (k:Nat):(pr f k).length=k:=by simp [pr]
theorem A2 (zs:List Str):pr (fun j=>zs[j]?.getD []) zs.length=zs:=by
 apply List.ext_getElem
 ·simp [pr]
 ·intro i h1 h2
  simp [pr,h2]
def rA (P:Program) (g:Nat):Prop:=
 ∀(w:World) (b o:Nat) (sv:Value) (zs:List Str),zs.length<=maxLen→w.cell? ⟨b,o,none⟩=some sv→Strs w.heap.size w sv zs→
  dj Fence.wide 2 P g #[.pointer (some ⟨b,o,none⟩)] encStr (fun ss=>ss=zs) zs.length w
theorem V.dropTok {Ω:Om} {τ:Ty} {xs:List (den τ)} {o:Option Nat} {v:Value} (h:V Ω (.lst τ xs o) v):V Ω (.lst τ xs none) v:=by
 cases h with
 | lstNil=>exact .lstNil τ none (fun _ h=>by cases h)
 | lstVoid _ a=>exact .lstVoid τ a
 | lst _ _ _ b off cap vals h1 h2 h3 h4 h5=>exact .lst τ xs none b off cap vals h1 h2 (fun _ h=>by cases h) h4 h5
theorem km (L:SortL P ρ) {g:Nat} (eg:∀args w,(callFunc g args).run P w=.ok (.enter g args) w) (K:rA P g) (zs:List Str) (hN:zs.length *16<=140737488355328) (tok:Option Nat) :
  ao P (ρ.f 6) [.fn g [.ptr 900 0]] [(900,.box (.lst .str zs tok))] ⟨some (zs.length *16<=140737488355328),none,.arr 0 (dO zs).length 1,[(0,.box (.row .str (dO zs)))]⟩:=by
 refine ye (T:=ρ.t 26) rfl fun w pub e vs hp hv hs=>?_
 obtain ⟨v1,rfl,h1⟩:=VL.one_inv hv
 obtain ⟨us,rfl,hus⟩:=h1.fn_inv
 obtain ⟨u,rfl,hu⟩:=VL.one_inv hus
 obtain ⟨b,o,len,rfl,he⟩:=hu.ptr_inv
 obtain ⟨b',o',he',hbox⟩:=hs 900 _ rfl
 rw [he] at he'
 cases he'
 obtain ⟨_,_,_,v,hcell,hvm⟩:=hbox 0 (.lst .str zs tok) rfl
 have hst:Strs w.heap.size w v zs:=by
  cases hvm with
  | lstNil=>exact .inl ⟨⟨_,_,rfl⟩,rfl⟩
  | lstVoid=>exact .inl ⟨⟨_,_,rfl⟩,rfl⟩
  | lst _ _ _ g0 off cap vals h1 h2 h3 h4 h5=>
   rcases Nat.eq_zero_or_pos zs.length with hz | hz
   ·have:=List.eq_nil_of_length_eq_zero hz
    subst this
    exact .inl ⟨⟨_,_,rfl⟩,rfl⟩
   ·have at_:∀j (hj:j < zs.length),w.cell? ⟨g0,off+j,none⟩=some (encStr zs[j]):=by
     intro j hj
     have q:=h4 j zs[j] (by simp [hj]) 0 (.str zs[j]) rfl
     have r:=h5 j zs[j] (by simp [hj]) 0 (.str zs[j]) rfl
     obtain ⟨r1,_⟩:=r.str_inv
     have:=q.2
     rw [r1] at this
     simpa [ae] using this
    exact .inr ⟨g0,off,cap,rfl,aS (at_ 0 hz),fun j hj=>by rw [at_ j hj];simp [hj]⟩
 refine ⟨fun s hs=>?_,?_⟩
 ·have hw:Wf (.lst .str) zs:=⟨_,_,V.dropTok hvm⟩
  exact (hw.mem (yf.1 hs)).str
 have hsq:=K w b (o+0) v zs (by unfold maxLen;omega) hcell hst
 refine rz L eg hN (w:=w) ?_
 intro l J W a1 a2 a3 a4 a5
 refine (hsq l J W a1 a2 a3 a4 a5).mono ?_
 rintro e W' ⟨h1,xs,rfl,h3⟩
 exact ⟨h1,xs,.refl _,h3⟩
end Go.AL
end
noncomputable section
namespace Go.AL
variable [Tabs]
open Go.Proofs Go.RowKit Go.Maps Go.Sort Go.Shelf
variable {P:Program} {ρ:Ren}
theorem After.row {w w':World} {pub:Nat→Nat→Prop} {e:Nat→Option CObj} {S:List (Nat × SObj)}
  (hp:j0 w pub) (hs:∀id o,aj S id=some o→b9 ⟨e,w,pub⟩ (fun _ _=>True) id o) (hd:∀id,aj S id=none→e id=none) (hi:Inj e)
  {k b:Nat} {c c':AV} (hk:aj S k=some (.box c)) (he:e k=some (.box b 0 (aa c).length)) (hl:(aa c').length=(aa c).length)
  (os:w'.os=w.os) (tape:w'.tape=w.tape) (output:w'.output=w.output) (size:w.heap.size<=w'.heap.size)
  (hblock:∀b',b' < w.heap.size→b'≠b∨(aa c).length=0→w'.heap[b']?=w.heap[b']?)
  (hcell:∀j,(aa c).length<=j→w'.cell? ⟨b,j,none⟩=w.cell? ⟨b,j,none⟩)
  (hkind:w'.shape? b=w.shape? b/\∀o,w'.frozen? ⟨b,o,none⟩=w.frozen? ⟨b,o,none⟩)
  (hval:∀(j:Nat) (c0:AV),(aa c')[j]?=some c0→∃v,w'.cell? ⟨b,j,none⟩=some v/\∀Ω',V Ω' c0 v) :
  After w pub e (aj (bR S [(k,.box c')])) w' (fun b o=>pub b o∨False) (fun i=>if k=i then some (.box b 0 (aa c).length) else e i):=by
 obtain ⟨b0,off0,he0,hbox⟩:=hs k _ hk
 have he0:e k=some (.box b0 off0 (aa c).length):=he0
 rw [he] at he0
 simp only [Xs,CObj.box.injEq] at he0
 obtain ⟨rfl,rfl,_⟩:=he0
 have inE:∀{o},o < (aa c).length→ry e k b o:=fun h=>⟨_,he,rfl,by omega,by omega⟩
 have outE:∀{b' o},¬ry e k b' o→b'≠b∨(aa c).length<=o:=by
  intro b' o h
  rcases Nat.lt_or_ge o (aa c).length with h' | h'
  ·exact .inl fun e=>h (e ▸ inE h')
  ·exact .inr h'
 have cell:∀b' o,b' < w.heap.size→¬ry e k b' o→w'.cell? ⟨b',o,none⟩=w.cell? ⟨b',o,none⟩:=by
  intro b' o h1 h2
  by_cases hb:b'=b
  ·subst hb
   rcases outE h2 with h | h
   ·exact absurd rfl h
   ·exact hcell o h
  ·exact ak (hblock b' h1 (.inl hb)) o
 refine After.slot hp hs hd hi (Q:=fun _ _=>False) os tape output size (fun b' h1 h2=>?_) cell (fun b' h1 h2=>?_) (fun b' o h=>?_) (fun _ _ h=>h.elim) (fun c0 h=>?_) (fun b' o h=>?_) (fun _=>?_)
 ·refine hblock b' h1 ?_
  rcases outE (h2 0) with h | h
  ·exact .inl h
  ·exact .inr (by omega)
 ·by_cases hb:b'=b
  ·subst hb;exact hkind
  ·have:=hblock b' h1 (.inl hb)
   exact ⟨b7 this,fun o=>aO this o⟩
 ·obtain ⟨v,hv⟩:=hp b' o h
  refine cell b' o (aS hv) ?_
  rintro ⟨c1,h1,h2⟩
  rw [he] at h1
  cases h1
  obtain ⟨rfl,_,h3⟩:=h2
  have hj:o < (aa c).length:=by omega
  have:=(hbox o _ (List.getElem?_eq_getElem hj)).2.1
  exact this (by simpa using h)
 ·rw [he] at h
  cases h
  exact ⟨rfl,rfl,rfl⟩
 ·exact .inr ⟨_,he,h⟩
 ·refine ⟨b,0,by simp [hl],fun j c0 hc=>?_⟩
  have hj:j < (aa c).length:=by
   rw [←hl]
   rcases Nat.lt_or_ge j (aa c').length with q | q
   ·exact q
   ·rw [List.getElem?_eq_none q] at hc;cases hc
  obtain ⟨_,q2,q3,_⟩:=hbox j _ (List.getElem?_eq_getElem hj)
  obtain ⟨v,hv,hV⟩:=hval j c0 hc
  rw [Nat.zero_add] at q2 q3 ⊢
  refine ⟨.inr ⟨k,_,he,rfl,by omega,by omega⟩,fun h=>?_,?_,v,hv,hV _⟩
  ·rcases h with h | h
   ·exact q2 h
   ·exact h
  ·exact (hkind.2 j).trans q3
theorem sY {α:Type} [Inhabited α] (enc:α→Value) (w:World) (b:Nat) (d:Array α) (k:Nat) (h:k≠b∨d.size=0):(putRow enc w b 0 d).heap[k]?=w.heap[k]?:=by
 unfold putRow mapBlock
 simp only [Array.getElem?_modify]
 by_cases hk:b=k
 ·subst hk
  rcases h with h | h
  ·exact absurd rfl h
  ·simp only [if_true]
   cases hw:w.heap[b]? with
   | none=>rfl
   | some o=>
    simp only [Option.map_some,Xs]
    cases o with
    | cells c e f=>
     simp only [onCells,Obj.cells.injEq,and_true,true_and]
     apply Array.ext
     ·simp [putCells]
     ·intro i h1 h2
      simp [putCells,h]
    | _=>rfl
 ·rw [if_neg hk]
theorem rB {α:Type} [Inhabited α] (enc:α→Value) (w:World) (b:Nat) (d:Array α):(putRow enc w b 0 d).shape? b=w.shape? b:=by
 unfold putRow mapBlock World.shape?
 simp only [Array.getElem?_modify,if_true]
 cases w.heap[b]? with
 | none=>rfl
 | some o=>cases o <;> simp [onCells,putCells]
theorem eJ {τ:Ty} (hw:ae τ=1) (xs:List (den τ)):(aa (.row τ xs)).length=xs.length:=by
 have:=bh τ xs
 rw [hw,Nat.mul_one] at this
 exact this
theorem jk {τ:Ty} (hw:ae τ=1) (xs:List (den τ)) (j:Nat) (x:den τ) (c:AV) (hx:xs[j]?=some x) (hc:(cells τ x)[0]?=some c):(aa (.row τ xs))[j]?=some c:=by
 have:=fP τ xs j x 0 c hx hc
 rw [hw,Nat.mul_one,Nat.add_zero] at this
 exact this
theorem strRow {Ω:Om} {own:Nat→Nat→Prop} {id b:Nat} {ss:List Str} (h:b9 Ω own id (.box (.row .str ss))) {len:Nat} (he:Ω.e id=some (.box b 0 len)) :
  len=ss.length/\Go.Sort.Holds encStr Ω.w b 0 ss.toArray/\∀s∈ss,s.length<=bn:=by
 obtain ⟨b',off,h1,h2⟩:=h
 rw [he] at h1
 simp only [Xs,CObj.box.injEq] at h1
 obtain ⟨rfl,rfl,h1⟩:=h1
 have at_:∀j (hj:j < ss.length),Ω.w.frozen? ⟨b,0+j,none⟩=false/\Ω.w.cell? ⟨b,0+j,none⟩=some (encStr ss[j])/\ss[j].length<=bn:=by
  intro j hj
  obtain ⟨_,_,q3,v,q4,q5⟩:=h2 j _ (jk (τ:=.str) rfl ss j ss[j] (.str ss[j]) (by simp [hj]) rfl)
  obtain ⟨rfl,q6⟩:=q5.str_inv
  exact ⟨q3,q4,q6⟩
 refine ⟨by rw [h1];exact eJ (τ:=.str) rfl ss,fun j hj=>?_,fun s hs=>?_⟩
 ·have hj':j < ss.length:=by simpa using hj
  obtain ⟨q1,q2,_⟩:=at_ j hj'
  exact ⟨by rw [q2];simp [hj'],q1⟩
 ·obtain ⟨j,hj,rfl⟩:=List.getElem_of_mem hs
  exact (at_ j hj).2.2
theorem sZ {ss:List Str} {s:Str} (h:s∈Lib.compact ss):s∈ss:=by
 unfold Lib.compact Lib.compactUpTo at h
 obtain ⟨j,hj,rfl⟩:=List.mem_map.1 h
 have:=(List.mem_filter.1 hj).1
 rw [List.mem_range] at this
 simp [this]
theorem After.strRow {w:World} {pub:Nat→Nat→Prop} {e:Nat→Option CObj} {S:List (Nat × SObj)}
  (hp:j0 w pub) (hs:∀id o,aj S id=some o→b9 ⟨e,w,pub⟩ (fun _ _=>True) id o) (hd:∀id,aj S id=none→e id=none) (hi:Inj e)
  {k b len q:Nat} {ss ts:List Str} {gs:Array Obj} (hk:aj S k=some (.box (.row .str ss))) (he:e k=some (.box b 0 len)) (hl:ts.length=ss.length) (hb:b < w.heap.size) (ht:∀s∈ts,s.length<=bn) :
  After w pub e (aj (bR S [(k,.box (.row .str ts))])) (grow (putRow encStr (Sort.ahead w q) b 0 ts.toArray) gs) (fun b o=>pub b o∨False) (fun i=>if k=i then some (.box b 0 (aa (.row .str ss)).length) else e i):=by
 obtain ⟨rfl,hH,_⟩:=AL.strRow (hs k _ hk) he
 have hsz:(putRow encStr (Sort.ahead w q) b 0 ts.toArray).heap.size=w.heap.size:=by simp
 have old:∀j,j < w.heap.size→(grow (putRow encStr (Sort.ahead w q) b 0 ts.toArray) gs).heap[j]?=(putRow encStr (Sort.ahead w q) b 0 ts.toArray).heap[j]?:=by
  intro j hj
  unfold grow
  simp only
  rw [Array.getElem?_append_left (by rw [hsz];exact hj)]
 have hpl:=eJ (τ:=.str) rfl ss
 refine After.row hp hs hd hi hk (by rw [he,hpl]) (by rw [eJ rfl,eJ rfl,hl]) rfl rfl rfl (by simp [grow]) (fun b' h1 h2=>?_) (fun j hj=>?_) ⟨?_,fun o=>?_⟩ (fun j c0 hc=>?_)
 ·rw [old b' h1,sY encStr (Sort.ahead w q) b ts.toArray b' (by rw [hpl] at h2;simpa [hl] using h2)]
  rfl
 ·rw [ak (old b hb) j,cell?_putRow_other encStr (Sort.ahead w q) b 0 ts.toArray ⟨b,j,none⟩ (.inr (.inr (by rw [hpl] at hj;simp;omega)))]
  rfl
 ·rw [b7 (old b hb),rB]
  rfl
 ·rw [aO (old b hb) o,frozen?_putRow]
  rfl
 ·have hj:j < ts.length:=by
   rw [←eJ (τ:=.str) rfl ts]
   rcases Nat.lt_or_ge j (aa (.row .str ts)).length with q | q
   ·exact q
   ·rw [List.getElem?_eq_none q] at hc;cases hc
  rw [jk (τ:=.str) rfl ts j ts[j] (.str ts[j]) (by simp [hj]) rfl] at hc
  cases hc
  refine ⟨encStr ts[j],?_,fun Ω'=>.str _ (ht _ (List.getElem_mem hj))⟩
  rw [ak (old b hb) j]
  have:=cell?_putRow encStr (Sort.ahead w q) b 0 ss.toArray ts.toArray hH (by simp [hl]) j (by simpa using hj)
  rw [Nat.zero_add] at this
  rw [this]
  simp [hj]
theorem pw (L:Lays.n194 P ρ) (n:Nat) (ss:List Str) (hn:n=ss.length) :
  ao P (ρ.f 194) [.arr 900 n 1] [(900,.box (.row .str ss))]
   ⟨some (n=ss.length),none,.arr 900 (Lib.compact ss).length 1,[(900,.box (.row .str (Lib.compact ss++List.replicate (ss.length - (Lib.compact ss).length) [])))]⟩:=by
 subst hn
 intro w pub e vs hp ht hv hs hd hi
 obtain ⟨v,rfl,h1⟩:=VL.one_inv hv
 have hcl:(Lib.compact ss).length<=ss.length:=by
  unfold Lib.compact Lib.compactUpTo
  rw [List.length_map]
  exact Nat.le_trans (List.length_filter_le _ _) (by simp)
 cases h1 with
 | arr _ _ _ b len cap a he h2 h3 h4 h5=>
  have he:e 900=some (.box b 0 len):=he
  obtain ⟨rfl,hH,hlen⟩:=strRow (hs 900 _ rfl) he
  have hpl:=eJ (τ:=.str) rfl ss
  rcases h5 with rfl | ⟨rfl,hz,rfl⟩
  ·by_cases h0:ss=[]
   ·subst h0
    refine (Any.slices_Compact_string_empty L (some ⟨b,0,none⟩) cap w).mono ?_
    rintro en w' ⟨rfl,rfl⟩
    refine ⟨_,_,fun _ _ _ h=>(by cases h),?_,After.row (c':=.row .str []) hp hs hd hi rfl (show e 900=some (.box b 0 (aa (.row .str [])).length) from he) rfl rfl rfl rfl (Nat.le_refl _) (fun _ _ _=>rfl) (fun _ _=>rfl) ⟨rfl,fun _=>rfl⟩ (fun j c0 hc=>by simp [aa,aX] at hc)⟩
    exact .arr 900 0 1 b (aa (.row .str [])).length cap _ (by simp) (by omega) (by omega) h4 (.inl rfl)
   ·have hpos:0 < ss.length:=List.length_pos_iff.2 h0
    have hb:b < w.heap.size:=aS (hH 0 (by simpa using hpos)).1
    refine (Any.slices_Compact_string L b 0 cap ss w hH (by unfold bn at h4;omega) h3).mono ?_
    rintro en w' ⟨rfl,q,rfl⟩
    have hA:=After.strRow (q:=q) (gs:=#[]) (ts:=Lib.compact ss++List.replicate (ss.length - (Lib.compact ss).length) []) hp hs hd hi rfl he (by simp;omega) hb (fun s hs'=>by
     rcases List.mem_append.1 hs' with h | h
     ·exact hlen s (sZ h)
     ·obtain ⟨_,rfl⟩:=List.mem_replicate.1 h;exact Nat.zero_le _)
    rw [grow_empty] at hA
    exact ⟨_,_,fun _ _ _ h=>(by cases h),.arr 900 (Lib.compact ss).length 1 b (aa (.row .str ss)).length cap _ (by simp) (by rw [hpl];omega) (by omega) h4 (.inl rfl),hA⟩
  ·have h0:ss=[]:=List.eq_nil_of_length_eq_zero hz
   subst h0
   refine (Any.slices_Compact_string_empty L none 0 w).mono ?_
   rintro en w' ⟨rfl,rfl⟩
   refine ⟨_,_,fun _ _ _ h=>(by cases h),?_,After.row (c':=.row .str []) hp hs hd hi rfl (show e 900=some (.box b 0 (aa (.row .str [])).length) from he) rfl rfl rfl rfl (Nat.le_refl _) (fun _ _ _=>rfl) (fun _ _=>rfl) ⟨rfl,fun _=>rfl⟩ (fun j c0 hc=>by simp [aa,aX] at hc)⟩
   exact .arr 900 0 1 b (aa (.row .str [])).length 0 _ (by simp) (by omega) (by omega) h4 (.inr ⟨rfl,rfl,rfl⟩)
end Go.AL
end
noncomputable section
namespace Go.AL
variable [Tabs]
open Go.Proofs Go.Shelf
variable {P:Program} {ρ:Ren}
def DF (gv gk:Nat):Pat:=fun args S=>
 match args,S with
 | [.fn g [.ptr 900 0]],[(900,.box (.lst .str zs _))]=>
  if g=gv then some ⟨some (zs.length *16<=140737488355328),none,.arr 0 (dO zs).length 1,[(0,.box (.row .str (dO zs)))]⟩ else none
 | [.fn g [.ptr 900 0]],[(900,.box (.map 901)),(901,.map .str _ m)]=>
  if g=gk then some ⟨some (m.length *16<=140737488355328),none,.arr 0 (dO (m.map (·.1))).length 1,[(0,.box (.row .str (dO (m.map (·.1)))))]⟩ else none
 | _,_=>none
def kn (gv:Nat):Pat:=fun args S=>
 match args,S with
 | [.fn g [.ptr 900 0]],[(900,.box (.lst .str zs _))]=>
  if g=gv then some ⟨some (zs.length *16<=140737488355328),none,.arr 0 (dO zs).length 1,[(0,.box (.row .str (dO zs)))]⟩ else none
 | _,_=>none
theorem px {f gv:Nat} (L:SortL P ρ) (hf:ρ.f 6=f) (eg:∀args w,(callFunc gv args).run P w=.ok (.enter gv args) w) (V:rA P gv) (he:aq P f):ag P f (kn gv):=by
 subst hf
 intro args S A h hob hkeys
 unfold kn at h
 split at h
 ·split at h
  ·rename_i e
   subst e
   cases h
   exact ⟨he,km L eg V _ (hob _ rfl) _⟩
  ·cases h
 ·cases h
def ko:Pat:=fun args S=>
 match args,S with
 | [.arr 900 n 1],[(900,.box (.row .str ss))]=>
  some ⟨some (n=ss.length),none,.arr 900 (Lib.compact ss).length 1,[(900,.box (.row .str (Lib.compact ss++List.replicate (ss.length - (Lib.compact ss).length) [])))]⟩
 | _,_=>none
theorem py {f:Nat} (L:Lays.n194 P ρ) (hf:ρ.f 194=f) (he:aq P f):ag P f ko:=by
 subst hf
 intro args S A h hob hkeys
 unfold ko at h
 split at h
 ·cases h
  exact ⟨he,pw L _ _ (hob _ rfl)⟩
 ·cases h
end Go.AL
end
section
namespace Go.Proofs
open Go.Shelf
def Tryz.lays190_ren:Go.Shelf.Ren:=⟨fun | 190=>179 | 125=>206 | 258=>205 | 128=>231 | 129=>208 | 302=>222 | 303=>223 | 304=>224 | 305=>225 | 306=>226 | 307=>227 | 308=>228 | 309=>229 | 310=>230 | 333=>238 | 329=>239 | 330=>240 | 334=>241 | 335=>242 | 336=>243 | 344=>244 | n=>n,fun | 31=>22 | 9=>9 | 3=>3 | 46=>205 | 0=>0 | 51=>232 | 53=>209 | 4=>4 | 183=>243 | 182=>242 | 131=>247 | 5=>5 | 218=>257 | 222=>81 | 228=>264 | 229=>74 | n=>n,fun | n=>n⟩
theorem Tryz.lays190:Go.Proofs.Lays.n190 Tryz.prog Tryz.lays190_ren:={
 mixed:=by kernel_rfl
 f125:=Xt Tryz.func206
 f128:=Xt Tryz.func231
 f129:=Xt Tryz.func208
 f190:=Xt Tryz.func179
 f258:=Xt Tryz.func205
 f302:=Xt Tryz.func222
 f303:=Xt Tryz.func223
 f304:=Xt Tryz.func224
 f305:=Xt Tryz.func225
 f306:=Xt Tryz.func226
 f307:=Xt Tryz.func227
 f308:=Xt Tryz.func228
 f309:=Xt Tryz.func229
 f310:=Xt Tryz.func230
 f329:=Xt Tryz.func239
 f330:=Xt Tryz.func240
 f333:=Xt Tryz.func238
 f334:=Xt Tryz.func241
 f335:=Xt Tryz.func242
 f336:=Xt Tryz.func243
 f344:=Xt Tryz.func244
 t0:=Tryz.underlying0
 a0:=Tryz.isAgg0
 z0:=Tryz.sizeOf0
 v0:=Tryz.zeroValue0
 t3:=Tryz.underlying3
 a3:=Tryz.isAgg3
 z3:=Tryz.sizeOf3
 v3:=Tryz.zeroValue3
 t4:=Tryz.underlying4
 a4:=Tryz.isAgg4
 z4:=Tryz.sizeOf4
 v4:=Tryz.zeroValue4
 t5:=Tryz.underlying5
 a5:=Tryz.isAgg5
 z5:=Tryz.sizeOf5
 v5:=Tryz.zeroValue5
 t9:=Tryz.underlying9
 a9:=Tryz.isAgg9
 z9:=Tryz.sizeOf9
 v9:=Tryz.zeroValue9
 t31:=Tryz.underlying22
 a31:=Tryz.isAgg22
 z31:=Tryz.sizeOf22
 v31:=Tryz.zeroValue22
 t46:=Tryz.underlying205
 a46:=Tryz.isAgg205
 z46:=Tryz.sizeOf205
 v46:=Tryz.zeroValue205
 t51:=Tryz.underlying232
 a51:=Tryz.isAgg232
 z51:=Tryz.sizeOf232
 v51:=Tryz.zeroValue232
 t53:=Tryz.underlying209
 a53:=Tryz.isAgg209
 z53:=Tryz.sizeOf209
 v53:=Tryz.zeroValue209
 t131:=Tryz.underlying247
 a131:=Tryz.isAgg247
 z131:=Tryz.sizeOf247
 v131:=Tryz.zeroValue247
 t182:=Tryz.underlying242
 a182:=Tryz.isAgg242
 z182:=Tryz.sizeOf242
 v182:=Tryz.zeroValue242
 t183:=Tryz.underlying243
 a183:=Tryz.isAgg243
 z183:=Tryz.sizeOf243
 v183:=Tryz.zeroValue243
 t218:=Tryz.underlying257
 a218:=Tryz.isAgg257
 z218:=Tryz.sizeOf257
 v218:=Tryz.zeroValue257
 t222:=Tryz.underlying81
 a222:=Tryz.isAgg81
 z222:=Tryz.sizeOf81
 v222:=Tryz.zeroValue81
 t228:=Tryz.underlying264
 a228:=Tryz.isAgg264
 z228:=Tryz.sizeOf264
 v228:=Tryz.zeroValue264
 t229:=Tryz.underlying74
 a229:=Tryz.isAgg74
 z229:=Tryz.sizeOf74
 v229:=Tryz.zeroValue74}
def Tryz.lays194_ren:Go.Shelf.Ren:=⟨fun | 194=>146 | n=>n,fun | 31=>22 | 9=>9 | 3=>3 | 4=>4 | 0=>0 | n=>n,fun | n=>n⟩
theorem Tryz.lays194:Go.Proofs.Lays.n194 Tryz.prog Tryz.lays194_ren:={
 mixed:=by kernel_rfl
 f194:=Xt Tryz.func146
 t0:=Tryz.underlying0
 a0:=Tryz.isAgg0
 z0:=Tryz.sizeOf0
 v0:=Tryz.zeroValue0
 t3:=Tryz.underlying3
 a3:=Tryz.isAgg3
 z3:=Tryz.sizeOf3
 v3:=Tryz.zeroValue3
 t4:=Tryz.underlying4
 a4:=Tryz.isAgg4
 z4:=Tryz.sizeOf4
 v4:=Tryz.zeroValue4
 t9:=Tryz.underlying9
 a9:=Tryz.isAgg9
 z9:=Tryz.sizeOf9
 v9:=Tryz.zeroValue9
 t31:=Tryz.underlying22
 a31:=Tryz.isAgg22
 z31:=Tryz.sizeOf22
 v31:=Tryz.zeroValue22}
def Tryz.lays172_ren:Go.Shelf.Ren:=⟨fun | 172=>123 | 244=>159 | 245=>160 | 247=>192 | 279=>193 | 280=>194 | 281=>195 | 282=>196 | 287=>218 | 316=>219 | 171=>221 | 205=>220 | 321=>235 | 322=>236 | 243=>237 | 246=>150 | 283=>182 | 284=>183 | 285=>184 | 286=>185 | 129=>208 | 317=>207 | 318=>209 | 319=>210 | 320=>211 | 337=>232 | 338=>233 | n=>n,fun | 9=>9 | 3=>3 | 75=>171 | 76=>172 | 4=>4 | 5=>5 | 167=>216 | 37=>175 | 0=>0 | 85=>217 | 2=>2 | 168=>219 | 53=>209 | 175=>235 | 46=>205 | 210=>239 | 127=>253 | 145=>256 | 143=>254 | 21=>21 | 171=>208 | 173=>212 | 212=>231 | 51=>232 | 20=>20 | 213=>233 | 232=>262 | 233=>263 | 80=>266 | n=>n,fun | 15=>4 | 16=>5 | 17=>2 | 18=>6 | 19=>7 | n=>n⟩
theorem Tryz.lays172:Go.Proofs.Lays.n172 Tryz.prog Tryz.lays172_ren:={
 mixed:=by kernel_rfl
 f129:=Xt Tryz.func208
 f171:=Xt Tryz.func221
 f172:=Xt Tryz.func123
 f205:=Xt Tryz.func220
 f243:=Xt Tryz.func237
 f244:=Xt Tryz.func159
 f245:=Xt Tryz.func160
 f246:=Xt Tryz.func150
 f247:=Xt Tryz.func192
 f279:=Xt Tryz.func193
 f280:=Xt Tryz.func194
 f281:=Xt Tryz.func195
 f282:=Xt Tryz.func196
 f283:=Xt Tryz.func182
 f284:=Xt Tryz.func183
 f285:=Xt Tryz.func184
 f286:=Xt Tryz.func185
 f287:=Xt Tryz.func218
 f316:=Xt Tryz.func219
 f317:=Xt Tryz.func207
 f318:=Xt Tryz.func209
 f319:=Xt Tryz.func210
 f320:=Xt Tryz.func211
 f321:=Xt Tryz.func235
 f322:=Xt Tryz.func236
 f337:=Xt Tryz.func232
 f338:=Xt Tryz.func233
 t0:=Tryz.underlying0
 a0:=Tryz.isAgg0
 z0:=Tryz.sizeOf0
 v0:=Tryz.zeroValue0
 t2:=Tryz.underlying2
 a2:=Tryz.isAgg2
 z2:=Tryz.sizeOf2
 v2:=Tryz.zeroValue2
 t3:=Tryz.underlying3
 a3:=Tryz.isAgg3
 z3:=Tryz.sizeOf3
 v3:=Tryz.zeroValue3
 t4:=Tryz.underlying4
 a4:=Tryz.isAgg4
 z4:=Tryz.sizeOf4
 v4:=Tryz.zeroValue4
 t5:=Tryz.underlying5
 a5:=Tryz.isAgg5
 z5:=Tryz.sizeOf5
 v5:=Tryz.zeroValue5
 t9:=Tryz.underlying9
 a9:=Tryz.isAgg9
 z9:=Tryz.sizeOf9
 v9:=Tryz.zeroValue9
 t20:=Tryz.underlying20
 a20:=Tryz.isAgg20
 z20:=Tryz.sizeOf20
 v20:=Tryz.zeroValue20
 t21:=Tryz.underlying21
 a21:=Tryz.isAgg21
 z21:=Tryz.sizeOf21
 v21:=Tryz.zeroValue21
 t37:=Tryz.underlying175
 a37:=Tryz.isAgg175
 z37:=Tryz.sizeOf175
 v37:=Tryz.zeroValue175
 t46:=Tryz.underlying205
 a46:=Tryz.isAgg205
 z46:=Tryz.sizeOf205
 v46:=Tryz.zeroValue205
 t51:=Tryz.underlying232
 a51:=Tryz.isAgg232
 z51:=Tryz.sizeOf232
 v51:=Tryz.zeroValue232
 t53:=Tryz.underlying209
 a53:=Tryz.isAgg209
 z53:=Tryz.sizeOf209
 v53:=Tryz.zeroValue209
 t75:=Tryz.underlying171
 a75:=Tryz.isAgg171
 z75:=Tryz.sizeOf171
 v75:=Tryz.zeroValue171
 t76:=Tryz.underlying172
 a76:=Tryz.isAgg172
 z76:=Tryz.sizeOf172
 v76:=Tryz.zeroValue172
 t85:=Tryz.underlying217
 a85:=Tryz.isAgg217
 z85:=Tryz.sizeOf217
 v85:=Tryz.zeroValue217
 t127:=Tryz.underlying253
 a127:=Tryz.isAgg253
 z127:=Tryz.sizeOf253
 v127:=Tryz.zeroValue253
 t143:=Tryz.underlying254
 a143:=Tryz.isAgg254
 z143:=Tryz.sizeOf254
 v143:=Tryz.zeroValue254
 t145:=Tryz.underlying256
 a145:=Tryz.isAgg256
 z145:=Tryz.sizeOf256
 v145:=Tryz.zeroValue256
 t167:=Tryz.underlying216
 a167:=Tryz.isAgg216
 z167:=Tryz.sizeOf216
 v167:=Tryz.zeroValue216
 t168:=Tryz.underlying219
 a168:=Tryz.isAgg219
 z168:=Tryz.sizeOf219
 v168:=Tryz.zeroValue219
 t171:=Tryz.underlying208
 a171:=Tryz.isAgg208
 z171:=Tryz.sizeOf208
 v171:=Tryz.zeroValue208
 t173:=Tryz.underlying212
 a173:=Tryz.isAgg212
 z173:=Tryz.sizeOf212
 v173:=Tryz.zeroValue212
 t175:=Tryz.underlying235
 a175:=Tryz.isAgg235
 z175:=Tryz.sizeOf235
 v175:=Tryz.zeroValue235
 t210:=Tryz.underlying239
 a210:=Tryz.isAgg239
 z210:=Tryz.sizeOf239
 v210:=Tryz.zeroValue239
 t212:=Tryz.underlying231
 a212:=Tryz.isAgg231
 z212:=Tryz.sizeOf231
 v212:=Tryz.zeroValue231
 t213:=Tryz.underlying233
 a213:=Tryz.isAgg233
 z213:=Tryz.sizeOf233
 t232:=Tryz.underlying262
 a232:=Tryz.isAgg262
 z232:=Tryz.sizeOf262
 v232:=Tryz.zeroValue262
 t233:=Tryz.underlying263
 a233:=Tryz.isAgg263
 z233:=Tryz.sizeOf263
 v233:=Tryz.zeroValue263
 g15:=by kernel_rfl
 g16:=by kernel_rfl
 g17:=by kernel_rfl
 g18:=by kernel_rfl
 g19:=by kernel_rfl}
def Tryz.sorted200_ren:Go.Shelf.Ren:=⟨fun | 6=>144 | 8=>178 | 9=>179 | 11=>204 | 13=>206 | 12=>205 | 23=>231 | 24=>208 | 14=>222 | 15=>223 | 16=>224 | 17=>225 | 18=>226 | 19=>227 | 20=>228 | 21=>229 | 22=>230 | 25=>238 | 26=>239 | 27=>240 | 28=>241 | 29=>242 | 30=>243 | 31=>244 | n=>n,fun | 26=>9 | 28=>185 | 24=>22 | 0=>0 | 3=>3 | 37=>205 | 48=>232 | 50=>209 | 4=>4 | 40=>243 | 39=>242 | 45=>247 | 5=>5 | 9=>9 | 51=>257 | 55=>81 | 57=>264 | 58=>74 | 33=>120 | n=>n,fun | n=>n⟩
theorem Tryz.sorted200:Go.Proofs.SlLaysZ.n6 Tryz.prog Tryz.sorted200_ren:={
 mixed:=by kernel_rfl
 f6:=⟨Tryz.f144.name,by decide,Xt Tryz.func144⟩
 f8:=⟨Tryz.f178.name,by decide,Xt Tryz.func178⟩
 f11:=⟨Tryz.f204.name,by decide,Xt Tryz.func204⟩
 t0:=Tryz.underlying0
 a0:=Tryz.isAgg0
 z0:=Tryz.sizeOf0
 v0:=Tryz.zeroValue0
 t24:=Tryz.underlying22
 a24:=Tryz.isAgg22
 z24:=Tryz.sizeOf22
 v24:=Tryz.zeroValue22
 t26:=Tryz.underlying9
 a26:=Tryz.isAgg9
 z26:=Tryz.sizeOf9
 v26:=Tryz.zeroValue9
 t28:=Tryz.underlying185
 a28:=Tryz.isAgg185
 z28:=Tryz.sizeOf185
 v28:=Tryz.zeroValue185
 i26:=by kernel_rfl}
end Go.Proofs
end
