/- The layer: Go code as conditions, and that they are sound. Plain facts. No condition. -/
import Derived.Test.YtkecedofomlppaaGreatDoorT02
import Derived.ChangeMaps
import Derived.Deep.LoopGhost
import Derived.JoinedCond
import Derived.KernelRfl
import Derived.Lib.FrozenHead2
import Derived.Maps.RangeRun
import Derived.OpenShut
import Derived.ProofKit
import Derived.Scope
import Derived.Shelf.SlIter.Sorted
import Derived.Shelf.SlSortCmp.Whole1
import Derived.Shelf.Slices.CompactS
import Derived.Shelf.Slices.In.SortNone
import Derived.Shelf.Small.Strs
import Derived.Shelf.Sort.Plain
import Derived.Shelf.Strings.BuilderF
import Derived.WalkKit
import Derived.WideKeyArgs
set_option linter.all false
set_option maxRecDepth 100000
noncomputable section
namespace Go.AL
variable [Tabs]
def fh (acc:List (List Nat)) (o:Oper):List Nat:=(o.after.toList.filter (Region.binds .any)).flatMap fun e=>e.on ::acc.getD e.on []
def cz (ops:List Oper):List (List Nat):=ops.foldl (fun acc o=>acc++[fh acc o]) []
theorem xC (ops:List Oper):cz ops=ops.foldl (fun acc o=>acc++[fh acc o]) []:=rfl
theorem xD {l:List Edge} {acc:List Nat} {i:Nat}:∀{m:Nat},(l.foldl (fun m e=>m ||| 2 ^ e.on ||| acc.getD e.on 0) m).testBit i=true→
  m.testBit i=true∨∃e∈l,e.on=i∨(acc.getD e.on 0).testBit i=true:=by
 induction l with
 | nil=>intro m h;exact Or.inl h
 | cons e r ih=>
  intro m h
  rcases ih h with h | ⟨x,hx,h⟩
  ·simp only [Nat.testBit_or,Bool.or_eq_true,Nat.testBit_two_pow,decide_eq_true_eq] at h
   rcases h with (h | h) | h
   ·exact Or.inl h
   ·exact Or.inr ⟨e,by simp,Or.inl h⟩
   ·exact Or.inr ⟨e,by simp,Or.inr h⟩
  ·exact Or.inr ⟨x,List.mem_cons_of_mem _ hx,h⟩
theorem uB (ops:List Oper):(sj ops).length=(cz ops).length/\∀j i,((sj ops).getD j 0).testBit i=true→i∈(cz ops).getD j []:=by
 suffices h:∀(ops:List Oper) (a:List Nat) (b:List (List Nat)),a.length=b.length→(∀j i,(a.getD j 0).testBit i=true→i∈b.getD j [])→
   (ops.foldl (fun acc o=>acc++[oO acc o]) a).length=(ops.foldl (fun acc o=>acc++[fh acc o]) b).length/\
   ∀j i,((ops.foldl (fun acc o=>acc++[oO acc o]) a).getD j 0).testBit i=true→i∈(ops.foldl (fun acc o=>acc++[fh acc o]) b).getD j [] by
  exact h ops [] [] rfl (by simp)
 intro ops
 induction ops with
 | nil=>exact fun a b hl h=>⟨hl,h⟩
 | cons o r ih=>
  intro a b hl h
  refine ih (a++[oO a o]) (b++[fh b o]) (by simp [hl]) fun j i hb=>?_
  rcases Nat.lt_trichotomy j a.length with hj | hj | hj
  ·rw [List.getD_eq_getElem?_getD,List.getElem?_append_left hj,←List.getD_eq_getElem?_getD] at hb
   rw [List.getD_eq_getElem?_getD,List.getElem?_append_left (by omega),←List.getD_eq_getElem?_getD]
   exact h j i hb
  ·subst hj
   rw [List.getD_eq_getElem?_getD,List.getElem?_append_right (Nat.le_refl _),Nat.sub_self] at hb
   rw [hl,List.getD_eq_getElem?_getD,List.getElem?_append_right (Nat.le_refl _),Nat.sub_self]
   simp only [List.getElem?_cons_zero,Option.getD_some] at hb ⊢
   unfold oO at hb
   rcases xD hb with hz | ⟨e,he,hz⟩
   ·simp at hz
   ·unfold fh
    rw [List.mem_flatMap]
    refine ⟨e,he,?_⟩
    rcases hz with rfl | hz
    ·simp
    ·exact List.mem_cons_of_mem _ (h _ _ hz)
  ·rw [List.getD_eq_getElem?_getD,List.getElem?_eq_none (by simp;omega)] at hb
   simp at hb
theorem iS (l:List Oper) (o:Oper):cz (l++[o])=cz l++[fh (cz l) o]:=by
 simp only [xC,List.foldl_append,List.foldl_cons,List.foldl_nil]
theorem nt:∀(r l:List Oper),∃t,cz (l++r)=cz l++t
 | [],l=>⟨[],by simp⟩
 | o ::r,l=>by
  obtain ⟨t,ht⟩:=nt r (l++[o])
  refine ⟨fh (cz l) o ::t,?_⟩
  rw [show l++o ::r=(l++[o])++r from by simp,ht,iS]
  simp
theorem pk (l:List Oper):(cz l).length=l.length:=by
 induction h:l.length generalizing l with
 | zero=>rw [List.eq_nil_of_length_eq_zero h];rfl
 | succ n ih=>
  have hne:l≠[]:=fun e=>by rw [e] at h;simp at h
  have hs:=List.dropLast_concat_getLast hne
  rw [←hs,iS]
  simp only [List.length_append,List.length_singleton]
  rw [ih l.dropLast (by simp [h])]
theorem xE {l:List Oper} {i:Nat} {o:Oper} (h:l[i]?=some o) :
  (cz l).getD i []=fh (cz (l.take i)) o/\∀m,m < i→(cz l).getD m []=(cz (l.take i)).getD m []:=by
 have hi:i < l.length:=by
  rcases Nat.lt_or_ge i l.length with k | k
  ·exact k
  ·rw [List.getElem?_eq_none k] at h;cases h
 have ho:l[i]=o:=by rw [List.getElem?_eq_getElem hi] at h;simpa using h
 have e:l=(l.take i++[o])++l.drop (i+1):=by
  rw [←ho,List.append_assoc,List.singleton_append,←List.drop_eq_getElem_cons hi,List.take_append_drop]
 obtain ⟨t,ht⟩:=nt (l.drop (i+1)) (l.take i++[o])
 rw [←e,iS] at ht
 have hl:(cz (l.take i)).length=i:=by rw [pk];simp;omega
 refine ⟨?_,fun m hm=>?_⟩
 ·rw [ht,List.getD_eq_getElem?_getD,List.append_assoc,List.getElem?_append_right (by omega),hl]
  simp
 ·rw [ht,List.getD_eq_getElem?_getD,List.append_assoc,List.getElem?_append_left (by omega),List.getD_eq_getElem?_getD]
theorem sP {l:List Oper} (he:∀(i:Nat) (o:Oper),l[i]?=some o→∀e∈o.after.toList,Region.binds .any e=true→e.on < i) {L:Nat→Prop}
  (hd:∀(i:Nat) (o:Oper),l[i]?=some o→L i→∀e∈o.after.toList,Region.binds .any e=true→L e.on) :
  ∀(n i:Nat) (o:Oper),i < n→l[i]?=some o→(∀e∈o.after.toList,Region.binds .any e=true→L e.on)→∀k∈(cz l).getD i [],L k:=by
 intro n
 induction n with
 | zero=>intro i o hi;omega
 | succ n ih=>
  intro i o hi ho hp k hk
  obtain ⟨h1,h2⟩:=xE ho
  rw [h1] at hk
  simp only [fh,List.mem_flatMap,List.mem_filter,List.mem_cons] at hk
  obtain ⟨e,⟨he1,he2⟩,hk⟩:=hk
  have hlt:=he i o ho e he1 he2
  rcases hk with rfl | hk
  ·exact hp e he1 he2
  ·rw [←h2 e.on hlt] at hk
   have hlen:e.on < l.length:=by
    have:i < l.length:=by
     rcases Nat.lt_or_ge i l.length with k | k
     ·exact k
     ·rw [List.getElem?_eq_none k] at ho;cases ho
    omega
   have ho':l[e.on]?=some l[e.on]:=List.getElem?_eq_getElem hlen
   exact ih e.on _ (by omega) ho' (hd e.on _ ho' (hp e he1 he2)) k hk
theorem qJ {l:List Oper} {fl:List cM} (h:dD l fl=true) :
  (∀(i:Nat) (o:Oper),l[i]?=some o→∀e∈o.after.toList,Region.binds .any e=true→e.on < i)/\
  ∀j i,i < j→j < l.length→i∈(cz l).getD j []∨Dt l (fun k=>fl.getD k ([],[])) i j:=by
 simp only [dD,Bool.and_eq_true,List.all_eq_true] at h
 obtain ⟨h1,h2⟩:=h
 refine ⟨fun i o ho e he hb=>?_,fun j i hij hj=>?_⟩
 ·have hm:(o,i)∈l.zipIdx:=by
   rw [List.mem_zipIdx_iff_getElem?]
   exact ho
  have:=h2 (o,i) hm
  simp only [Array.all_eq_true,Bool.or_eq_true,Bool.not_eq_true',Nat.blt_eq] at this
  obtain ⟨k,hk,hke⟩:=Array.mem_iff_getElem.1 (Array.mem_toList_iff.1 he)
  have:=this k hk
  rw [hke] at this
  rcases this with h | h
  ·rw [hb] at h;cases h
  ·exact h
 ·have:=h1 j (List.mem_range.2 hj) i (List.mem_range.2 hij)
  simp only [Bool.or_eq_true] at this
  rcases this with h | h
  ·left;exact (uB l).2 j i h
  ·right
   intro x y hx hy
   simp only [iI,hx,hy] at h
   split at h
   ·rename_i x' y' f g e1 e2 e3 e4
    simp at e1 e2
    subst e1 e2
    simp only [Bool.and_eq_true] at h
    simp only [List.getD_eq_getElem?_getD,e3,e4,Option.getD_some]
    exact h
   ·simp at h
section
variable {P:Program} {C:Cfg} {ops:Array Oper} {Q:Exit→Act→World→Prop} {F:Fr}
theorem any_sound (hT:aT P C.tbl) (hS:bH P C.spec) (hdst:∀(o:Oper),o∈ops.toList→∀d,o.dst=some d→d < F.n)
  {fs:Nat→cM} {sN:AS} (he:∀(i:Nat) (o:Oper),ops.toList[i]?=some o→∀e∈o.after.toList,Region.binds .any e=true→e.on < i)
  (hi:∀j i,i < j→j < ops.size→i∈(cz ops.toList).getD j []∨Dt ops.toList fs i j)
  (hQ:∀a' Ω',Holds F sN a' Ω'→Q .normal a' Ω'.w) :
  ∀(fuel:Nat) (R:List Nat) (listed:Array Bool) (s:AS) (a:Act) (Ω:Om),R.length=fuel→listed.size=ops.size→
   (∀i,i < ops.size→(listed.getD i true=false↔i∈R))→R.Pairwise (· < ·)→(∀i∈R,i < ops.size)→
   (∀(i:Nat) (o:Oper),ops.toList[i]?=some o→listed.getD i true=true→∀e∈o.after.toList,Region.binds .any e=true→listed.getD e.on true=true)→
   uA C ops.toList fs R s sN→Holds F s a Ω→wpAny P .any ops Q fuel listed a Ω.w:=by
 intro fuel
 have mem_ready:∀{listed:Array Bool} {i:Nat},i∈Region.ready .any ops listed↔
   i < ops.size/\listed.getD i true=false/\∃o,ops[i]?=some o/\∀e∈o.after.toList,Region.binds .any e=true→listed.getD e.on false=true:=by
  intro listed i
  unfold Region.ready
  simp only [List.mem_filter,List.mem_range,Bool.and_eq_true,Bool.not_eq_true']
  constructor
  ·rintro ⟨h1,h2,h3⟩
   refine ⟨h1,h2,?_⟩
   cases ho:ops[i]? with
   | none=>rw [ho] at h3;simp at h3
   | some o=>
    rw [ho] at h3
    refine ⟨o,rfl,fun e hem hb=>?_⟩
    simp only [Option.map_some,Option.getD_some,Array.all_eq_true,Bool.or_eq_true,Bool.not_eq_true'] at h3
    obtain ⟨k,hk,hke⟩:=Array.mem_iff_getElem.1 (Array.mem_toList_iff.1 hem)
    have:=h3 k hk
    rw [hke] at this
    rcases this with h | h
    ·rw [hb] at h;cases h
    ·exact h
  ·rintro ⟨h1,h2,o,ho,h3⟩
   refine ⟨h1,h2,?_⟩
   rw [ho]
   simp only [Option.map_some,Option.getD_some,Array.all_eq_true,Bool.or_eq_true,Bool.not_eq_true']
   intro k hk
   cases hb:Region.binds .any o.after[k] with
   | false=>exact Or.inl rfl
   | true=>exact Or.inr (h3 _ (Array.mem_toList_iff.2 (Array.getElem_mem hk)) hb)
 have two:∀{listed:Array Bool} {i:Nat},listed.size=ops.size→i < ops.size→listed.getD i true=listed.getD i false:=by
  intro listed i hs hi'
  simp [Array.getD_eq_getD_getElem?,hs,hi']
 have least:∀(R:List Nat) (listed:Array Bool),listed.size=ops.size→(∀i,i < ops.size→(listed.getD i true=false↔i∈R))→R.Pairwise (· < ·)→(∀i∈R,i < ops.size)→
   Region.ready .any ops listed=[]→R=[]:=by
  intro R listed hs hl hp hlt hr
  cases R with
  | nil=>rfl
  | cons m R=>
   have hm:=hlt m (by simp)
   have:m∈Region.ready .any ops listed:=by
    refine mem_ready.2 ⟨hm,(hl m hm).2 (by simp),ops[m],Array.getElem?_eq_getElem hm,fun e hem hb0=>?_⟩
    have hon:=he m ops[m] (by rw [Array.getElem?_toList];exact Array.getElem?_eq_getElem hm) e hem hb0
    rw [←two hs (by omega)]
    cases hb:listed.getD e.on true with
    | true=>rfl
    | false=>
     have hin:=(hl e.on (by omega)).1 hb
     simp only [List.mem_cons] at hin
     rcases hin with hin | hin
     ·omega
     ·have:=(List.pairwise_cons.1 hp).1 e.on hin
      omega
   rw [hr] at this
   cases this
 induction fuel with
 | zero=>
  intro R listed s a Ω hlen hs hl hp hlt hdc hrun h
  have hR:=List.eq_nil_of_length_eq_zero hlen
  subst hR
  have hsn:s=sN:=hrun
  subst hsn
  refine ⟨?_,hQ a Ω h⟩
  cases hr:Region.ready .any ops listed with
  | nil=>rfl
  | cons i r=>
   have:i∈Region.ready .any ops listed:=by rw [hr];simp
   obtain ⟨h1,h2,_⟩:=mem_ready.1 this
   have:=(hl i h1).1 h2
   cases this
 | succ fuel ih=>
  intro R listed s a Ω hlen hs hl hp hlt hdc hrun h
  refine ⟨fun hr=>?_,fun i hir=>?_⟩
  ·have hR:=least R listed hs hl hp hlt hr
   subst hR
   have hsn:s=sN:=hrun
   subst hsn
   exact hQ a Ω h
  ·obtain ⟨h1,h2,o,ho,h3⟩:=mem_ready.1 hir
   have hiR:=(hl i h1).1 h2
   obtain ⟨r1,r2,hR⟩:=List.append_of_mem hiR
   subst hR
   have hpre:∀e∈o.after.toList,Region.binds .any e=true→listed.getD e.on true=true:=by
    intro e hem hb
    have hon:=he i o (by rw [Array.getElem?_toList];exact ho) e hem hb
    rw [two hs (by omega)]
    exact h3 e hem hb
   have hal:=sP (l:=ops.toList) he (L:=fun k=>listed.getD k true=true) hdc (i+1) i o (by omega) (by rw [Array.getElem?_toList];exact ho) hpre
   have hp':=List.pairwise_append.1 hp
   have hfront:=uA.front r1 i r2 s sN hrun (fun j hj=>by
    have hji:j < i:=hp'.2.2 j hj i (by simp)
    rcases hi i j hji h1 with hk | hk
    ·have:=hal j hk
     have hjf:=(hl j (by omega)).2 (by simp [hj])
     rw [this] at hjf
     cases hjf
    ·exact hk)
   obtain ⟨o',s1,ho',hstep,hrest⟩:=hfront
   have hoo:o'=o:=by
    rw [Array.getElem?_toList,ho] at ho'
    simpa using ho'.symm
   subst hoo
   refine xz hT hS ho (hdst o' (List.mem_of_getElem? ho')) h hstep (fun a' Ω' h'=>?_)
   have hnd:i∉r1/\i∉r2:=by
    refine ⟨fun hm=>?_,fun hm=>?_⟩
    ·have:=hp'.2.2 i hm i (by simp);omega
    ·have:=(List.pairwise_cons.1 hp'.2.1).1 i hm;omega
   refine ih (r1++r2) (listed.setIfInBounds i true) s1 a' Ω' (by simp at hlen ⊢;omega) (by simpa using hs) (fun k hk=>?_) ?_ (fun k hk=>hlt k (by simp at hk ⊢;rcases hk with hk | hk <;> simp [hk])) (fun k ok hok hkl e hem hb=>?_) hrest h'
   ·by_cases hik:i=k
    ·subst hik
     simp [Array.getD_eq_getD_getElem?,hs,h1,hnd.1,hnd.2]
    ·have:(listed.setIfInBounds i true).getD k true=listed.getD k true:=by simp [Array.getD_eq_getD_getElem?,hik]
     rw [this,hl k hk]
     simp
     have:¬k=i:=fun e=>hik e.symm
     simp [this]
   ·refine List.pairwise_append.2 ⟨hp'.1,(List.pairwise_cons.1 hp'.2.1).2,fun x hx y hy=>hp'.2.2 x hx y (by simp [hy])⟩
   ·have key:∀m,listed.getD m true=true→(listed.setIfInBounds i true).getD m true=true:=by
     intro m hm
     by_cases him:i=m
     ·subst him
      simp [Array.getD_eq_getD_getElem?,hs,h1]
     ·have:(listed.setIfInBounds i true).getD m true=listed.getD m true:=by simp [Array.getD_eq_getD_getElem?,him]
      rw [this,hm]
    by_cases hik:i=k
    ·subst hik
     rw [Array.getElem?_toList,ho] at hok
     simp at hok
     subst hok
     exact key _ (hpre e hem hb)
    ·have:(listed.setIfInBounds i true).getD k true=listed.getD k true:=by simp [Array.getD_eq_getD_getElem?,hik]
     rw [this] at hkl
     exact key _ (hdc k ok hok hkl e hem hb)
theorem lL (hm:P.follows .mixedOrders=true) (hT:aT P C.tbl) (hS:bH P C.spec) {id:Nat} {draw:Bool}
  (hdst:∀(o:Oper),o∈ops.toList→∀d,o.dst=some d→d < F.n) {kp:AV→St→Prop} {k:St→List cM→Prop} {s:St} {a:Act} {Ω:Om}
  (hrun:bC C ops.toList draw kp ops.toList 0 s [] k) (hind:draw=true→∀s fs,k s fs→dD ops.toList fs=true) (h:Holds F s.abs a Ω)
  (hQ:∀s fs a' Ω',k s fs→Holds F s.abs a' Ω'→Q .normal a' Ω'.w) (hP:∀pv s a' Ω' v,kp pv s→Holds F s.abs a' Ω'→V Ω' pv v→Q (.panic [{v,recovered:=false}]) a' Ω'.w) :
  (Code.region id ops draw).wp P Q a Ω.w:=by
 cases draw with
 | false=>
  refine wp_region ?_
  have:=kb (Q:=Q) hT hS hdst hQ hP ops.toList 0 s [] a Ω rfl hrun h
  rw [List.range_eq_range']
  simpa using this
 | true=>
  obtain ⟨s',fl,hr0,hk⟩:=kP C ops.toList kp k ops.toList 0 s [] hrun
  simp only [List.reverse_nil,List.nil_append] at hk
  obtain ⟨h1,h2⟩:=qJ (hind rfl s' fl hk)
  refine wp_region_any hm ?_
  have hr:=nr C ops.toList ops.toList 0 s.abs s'.abs fl (fun k=>fl.getD k ([],[])) rfl hr0 (fun k=>by simp)
  have:=any_sound (Q:=Q) hT hS hdst (fs:=fun k=>fl.getD k ([],[])) h1 (fun j i hij hj=>h2 j i hij (by simpa using hj)) (fun a' Ω' h'=>hQ s' fl a' Ω' hk h') ops.size (List.range' 0 ops.toList.length)
   (Array.replicate ops.size false) s.abs a ⟨Ω.e,Ω.w.drew,Ω.pub⟩ (by simp) (by simp) (fun i hi=>by simp [Array.getD_eq_getD_getElem?,hi,List.mem_range'])
   (List.pairwise_lt_range') (fun i hi=>by simp [List.mem_range'] at hi;omega)
   (fun i o ho hl=>by
    have hi:i < ops.size:=by
     rw [Array.getElem?_toList] at ho
     rcases Nat.lt_or_ge i ops.size with k | k
     ·exact k
     ·rw [Array.getElem?_eq_none k] at ho;cases ho
    simp [Array.getD_eq_getD_getElem?,hi] at hl) hr h.drew
  exact this
end
end Go.AL
end
noncomputable section
namespace Go.AL
variable [Tabs]
theorem dq:∀{cs:List AV} {j:Nat} {c:AV},cs[j]?=some c→∀i∈ids c,i∈ids.idsL cs
 | [],j,c,h,_,_=>by simp at h
 | a ::r,0,c,h,i,hi=>by
  simp at h
  subst h
  simp [ids.idsL,hi]
 | a ::r,j+1,c,h,i,hi=>by
  simp only [ids.idsL,List.mem_append]
  exact Or.inr (dq (by simpa using h) i hi)
theorem eX (τ:Ty) (x:den τ):ids.idsL (cells τ x)=[]:=by
 cases τ with
 | st n=>cases n <;> rfl
 | _=>rfl
theorem Du (τ:Ty) (xs:List (den τ)):∀c∈aY τ xs,ids c=[]:=by
 intro c hc
 simp only [aY,List.mem_flatMap] at hc
 obtain ⟨x,_,hx⟩:=hc
 obtain ⟨j,hj⟩:=List.getElem?_of_mem hx
 cases hi:ids c with
 | nil=>rfl
 | cons a r=>
  have:=dq hj a (by rw [hi];simp)
  rw [eX] at this
  cases this
theorem mF {c:AV} {j:Nat} {c':AV} (hc:(ab c)[j]?=some c') (k:Nat) (hk:k∈ids c'):k∈ids c:=by
 cases c with
 | agg cs=>exact dq (cs:=cs) hc k hk
 | st n x=>
  have:=dq (cs:=cells (.st n) x) hc k hk
  rw [eX] at this
  cases this
 | row τ xs=>
  rw [Du τ xs c' (List.mem_of_getElem? hc)] at hk
  cases hk
 | _=>
  cases j with
  | zero=>simp [ab] at hc;subst hc;exact hk
  | succ j=>simp [ab] at hc
theorem V.agree {Ω:Om} {e':Nat→Option CObj} {a:AV} {v:Value} (h:V Ω a v):(∀i∈ids a,e' i=Ω.e i)→V ⟨e',Ω.w,Ω.pub⟩ a v:=by
 have tok:∀{o:Option Nat} {n:Nat} {v:Value},(∀i,o=some i→e' i=Ω.e i)→fo Ω o n v→fo ⟨e',Ω.w,Ω.pub⟩ o n v:=by
  intro o n v hi ht id hid
  obtain ⟨m,base,cap,h1,h2,h3⟩:=ht id hid
  exact ⟨m,base,cap,by simp only;rw [hi id hid,h1],h2,h3⟩
 induction h with
 | undef v=>exact fun _=>.undef v
 | int k n h1 h2=>exact fun _=>.int k n h1 h2
 | bool b=>exact fun _=>.bool b
 | str s h=>exact fun _=>.str s h
 | lstNil τ o ht=>exact fun hi=>.lstNil τ o (tok (fun i e=>hi i (by subst e;simp [ids])) ht)
 | lstVoid τ a=>exact fun _=>.lstVoid τ a
 | lst τ xs o b off cap vals h1 h2 h3 h4 h5 ih=>
  intro hi
  refine .lst τ xs o b off cap vals h1 h2 (tok (fun i e=>hi i (by subst e;simp [ids])) h3) h4 (fun i x hx j c hc=>ih i x hx j c hc (fun k hk=>?_))
  have:=dq hc k hk
  rw [eX] at this
  cases this
 | nils=>exact fun _=>.nils
 | ptr id off b o len hb=>exact fun hi=>.ptr id off b o len (by simp only;rw [hi id (by simp [ids]),hb])
 | ptNone n=>exact fun _=>.ptNone n
 | ptSome n x v _ ih=>exact fun _=>.ptSome n x v (ih (fun k hk=>by simp [ids] at hk))
 | arr id n w b len cap a he h1 h2 h3 h4=>exact fun hi=>.arr id n w b len cap a (by simp only;rw [hi id (by simp [ids]),he]) h1 h2 h3 h4
 | aptr id i w off b o len he=>exact fun hi=>.aptr id i w off b o len (by simp only;rw [hi id (by simp [ids]),he])
 | map id r he=>exact fun hi=>.map id r (by simp only;rw [hi id (by simp [ids]),he])
 | bptr id b g he=>exact fun hi=>.bptr id b g (by simp only;rw [hi id (by simp [ids]),he])
 | iface t a v _ ih=>exact fun hi=>.iface t a v (ih (fun k hk=>hi k (by simp only [ids];exact hk)))
 | nilif=>exact fun _=>.nilif
 | nilm=>exact fun _=>.nilm
 | lstp τ xs k b off cap vals h1 h2 h3 h4 h5 ih=>
  intro hi
  refine .lstp τ xs k b off cap vals h1 h2 (tok (fun i e=>hi i (by cases e;simp [ids])) h3) h4 (fun i x hx j c hc=>ih i x hx j c hc (fun k hk=>?_))
  have:=dq hc k hk
  rw [eX] at this
  cases this
 | tptr τ n k p hp=>
  intro hi
  obtain ⟨m,base,cap,h1,h2⟩:=hp
  exact .tptr τ n k p ⟨m,base,cap,by simp only;rw [hi k (by simp [ids]),h1],h2⟩
 | st n x v _ ih=>exact fun hi=>.st n x v (ih (fun k hk=>by
   have e:ids (.agg (cells (.st n) x))=[]:=eX (.st n) x
   rw [e] at hk
   cases hk))
 | cptr c b off vals h1 h2 ih=>exact fun hi=>.cptr c b off vals h1 (fun j c' hc=>ih j c' hc (fun k hk=>hi k (mF hc k hk)))
 | nilp=>exact fun _=>.nilp
 | agg cs vs hl _ ih=>exact fun hi=>.agg cs vs hl (fun j c v hc hv=>ih j c v hc hv (fun k hk=>hi k (by simp only [ids];exact dq hc k hk)))
 | tup cs vs hl _ ih=>exact fun hi=>.tup cs vs hl (fun j c v hc hv=>ih j c v hc hv (fun k hk=>hi k (by simp only [ids];exact dq hc k hk)))
 | fn f cs vs hl _ ih=>exact fun hi=>.fn f cs vs hl (fun j c v hc hv=>ih j c v hc hv (fun k hk=>hi k (by simp only [ids];exact dq hc k hk)))
theorem lM:∀(l:List (Nat × AV)) (i:Nat),aS l i=.undef∨(i,aS l i)∈l
 | [],i=>Or.inl rfl
 | (j,v) ::r,i=>by
  simp only [cY,cE]
  by_cases h:j=i
  ·subst h;simp
  ·simp only [beq_iff_eq,h,if_false]
   rcases lM r i with k | k
   ·exact Or.inl k
   ·exact Or.inr (List.mem_cons_of_mem _ k)
theorem ck:∀(l:List (Nat × SObj)) (i:Nat) (o:SObj),ak l i=some o→(i,o)∈l
 | [],i,o,h=>by simp [aM,aF] at h
 | (j,v) ::r,i,o,h=>by
  simp only [aM,aF] at h
  by_cases hj:j=i
  ·subst hj;simp at h;simp [h]
  ·simp only [beq_iff_eq,hj,if_false] at h
   exact List.mem_cons_of_mem _ (ck r i o h)
theorem ij:∀(l:List (Nat × SObj)) (i:Nat),ak l i=none→i∉l.map (·.1)
 | [],i,_=>by simp
 | (j,v) ::r,i,h=>by
  simp only [aM,aF] at h
  by_cases hj:j=i
  ·subst hj;simp at h
  ·simp only [beq_iff_eq,hj,if_false] at h
   have:=ij r i h
   simp only [List.map_cons,List.mem_cons,not_or]
   exact ⟨fun e=>hj e.symm,this⟩
theorem gJ (l:List (Nat × AV)) (p:Nat→Bool) (i:Nat):aS (l.filter fun x=>p x.1) i=if p i then aS l i else .undef:=by
 induction l with
 | nil=>simp [cY,cE]
 | cons x r ih=>
  obtain ⟨j,v⟩:=x
  by_cases hp:p j=true
  ·rw [List.filter_cons_of_pos (by simpa using hp)]
   simp only [cY,cE,ih]
   by_cases hj:j=i
   ·subst hj;simp [hp]
   ·simp [hj]
  ·rw [List.filter_cons_of_neg (by simpa using hp),ih]
   by_cases hj:j=i
   ·subst hj;simp [hp]
   ·simp [cY,cE,hj]
theorem gK (l:List (Nat × SObj)) (p:Nat→Bool) (i:Nat):ak (l.filter fun x=>p x.1) i=if p i then ak l i else none:=by
 induction l with
 | nil=>simp [aM,aF]
 | cons x r ih=>
  obtain ⟨j,v⟩:=x
  by_cases hp:p j=true
  ·rw [List.filter_cons_of_pos (by simpa using hp)]
   simp only [aM,aF,ih]
   by_cases hj:j=i
   ·subst hj;simp [hp]
   ·simp [hj]
  ·rw [List.filter_cons_of_neg (by simpa using hp),ih]
   by_cases hj:j=i
   ·subst hj;simp [hp]
   ·simp [aM,aF,hj]
theorem Holds.forget {F:Fr} {s:AS} {s':St} {a:Act} {Ω:Om} {A:List Nat} (h:Holds F s a Ω) (hT:∀i,s'.abs.T i=.undef∨s'.abs.T i=s.T i)
  (hB:∀i,i∈A→s'.abs.B i=none) (hB':∀i,i∉A→s'.abs.B i=s.B i) (hn:de A s'=true) (hA:∀i∈A,bp i=false) :
  ∃Ω',Ω'.w=Ω.w/\Holds F s'.abs a Ω':=by
 have hn':(∀x∈s'.t,∀i∈ids x.2,i∉A)/\(∀x∈s'.b,∀i∈xa x.2,i∉A):=by
  simp only [de,Bool.and_eq_true,List.all_eq_true] at hn
  exact ⟨fun x hx=>fZ (hn.1 x hx),fun x hx=>fZ (hn.2 x hx)⟩
 have he:∀i,i∉A→(fun i=>if i∈A then none else Ω.e i) i=Ω.e i:=fun i hi=>by simp [hi]
 refine ⟨⟨fun i=>if i∈A then none else Ω.e i,Ω.w,Ω.pub⟩,rfl,fun i=>?_,h.size,h.defers,fun id o ho=>?_,fun id hid=>?_,fun i j ci cj b o hi hj hbi hbj=>?_,h.pubok,fun id c hc=>?_,?_⟩
 ·rcases lM s'.t i with k | k
  ·have:s'.abs.T i=.undef:=k
   rw [this]
   exact .undef _
  ·rcases hT i with hu | hu
   ·rw [hu];exact .undef _
   ·refine V.agree (Ω:=Ω) ?_ (fun j hj=>he j (hn'.1 _ k j hj))
    have:=h.tmps i
    rw [←hu] at this
    exact this
 ·have hid:id∉A:=fun hm=>by rw [hB id hm] at ho;cases ho
  have hs:=h.slots id o (by rw [←hB' id hid];exact ho)
  have hm:=hn'.2 _ (ck _ _ _ ho)
  cases o with
  | box c=>
   obtain ⟨b,off,h1,h2⟩:=hs
   refine ⟨b,off,by simp only [if_neg hid,h1],fun j c' hc=>?_⟩
   obtain ⟨k1,k2,k3,v,k4,k5⟩:=h2 j c' hc
   exact ⟨k1,k2,k3,v,k4,k5.agree (fun j hj=>he j (hm j (mF hc j hj)))⟩
  | tail τ n=>
   obtain ⟨base,cap,h1,h2⟩:=hs
   exact ⟨base,cap,by simp only [if_neg hid,h1],h2⟩
  | map κ τ m=>
   obtain ⟨r,h1,h2,es,clock,h3,h4⟩:=hs
   exact ⟨r,by simp only [if_neg hid,h1],h2,es,clock,h3,h4.data⟩
  | bld t u l=>
   obtain ⟨b,g,h1,h2,h3⟩:=hs
   exact ⟨b,g,by simp only [if_neg hid,h1],h2,h3⟩
  | tailp τ n x=>
   obtain ⟨b,cap,h1,h2,h3,h4,h5,h6,h7⟩:=hs
   refine ⟨b,cap,by simp only [if_neg hid,h1],h2,h3,h4,h5,h6,fun j c hc=>?_⟩
   obtain ⟨v,g1,g2⟩:=h7 j c hc
   refine ⟨v,g1,g2.agree (fun i hi=>?_)⟩
   have:=dq hc i hi
   rw [eX] at this
   cases this
 ·by_cases hA:id∈A
  ·simp [hA]
  ·simp only [if_neg hA]
   exact h.dom id (by rw [←hB' id hA];exact hid)
 ·by_cases hi':i∈A
  ·simp [hi'] at hi
  ·by_cases hj':j∈A
   ·simp [hj'] at hj
   ·simp only [if_neg hi'] at hi
    simp only [if_neg hj'] at hj
    exact h.inj i j ci cj b o hi hj hbi hbj
 ·have hl:=F.dom0 id c hc
  have hid:id∉A:=fun hm=>by rw [hA id hm] at hl;cases hl
  obtain ⟨c',h1,h2⟩:=h.keep id c hc
  exact ⟨c',by simp only [if_neg hid];exact h1,h2⟩
 ·exact ⟨h.frame.os,h.frame.tape,h.frame.output,h.frame.size,h.frame.block,h.frame.cell,h.frame.kind,h.frame.pub,h.frame.old,h.frame.pcell⟩
theorem GX {A:List Nat} {i:Nat} (h:i∈A):¬((!A.contains i)=true):=by simp [h]
theorem FJ {A:List Nat} {i:Nat} (h:i∉A):(!A.contains i)=true:=by simp [h]
theorem jz {F:Fr} {ops:List Oper} {s s':St} {a:Act} {Ω:Om} (h:Holds F s.abs a Ω) (he:enter ops s=some s') :
  ∃Ω',Ω'.w=Ω.w/\Holds F s'.abs a Ω':=by
 simp only [enter] at he
 generalize hA:((s.b.map (·.1)).filter fun i=>A7 (oP ops) (sk ops) i && !bp i)=A at he
 have hAl:∀i∈A,bp i=false:=by
  intro i hi
  rw [←hA] at hi
  simp only [List.mem_filter,Bool.and_eq_true,Bool.not_eq_true'] at hi
  exact hi.2.2
 split at he
 ·simp at he;subst he;exact ⟨Ω,rfl,h⟩
 ·split at he
  ·rename_i hn
   simp only [Xs] at he
   subst he
   refine h.forget (A:=A) (fun i=>?_) (fun i hi=>?_) (fun i hi=>?_) hn hAl
   ·have:=gJ s.t (fun i=>!A.contains i) i
    simp only [St.abs]
    rw [this]
    split <;> simp
   ·have:=gK s.b (fun i=>!A.contains i) i
    simp only [St.abs]
    rw [this,if_neg (GX hi)]
   ·have:=gK s.b (fun i=>!A.contains i) i
    simp only [St.abs]
    rw [this,if_pos (FJ hi)]
  ·simp at he
theorem lN {G:List Nat}:∀{cs ds:List AV},LeL G cs ds→cs.length=ds.length/\∀(j:Nat) (c d:AV),cs[j]?=some c→ds[j]?=some d→LeV G c d
 | [],[],_=>⟨rfl,fun j c d h=>by simp at h⟩
 | [],_ ::_,h=>by simp [LeL] at h
 | _ ::_,[],h=>by simp [LeL] at h
 | a ::r,b ::s,h=>by
  simp only [LeL] at h
  obtain ⟨h1,h2⟩:=lN h.2
  refine ⟨by simp [h1],fun j c d hc hd=>?_⟩
  cases j with
  | zero=>simp at hc hd;subst hc hd;exact h.1
  | succ j=>exact h2 j c d (by simpa using hc) (by simpa using hd)
theorem jA {G:List Nat}:∀{cs ds:List AV},tR G cs ds→cs.length=ds.length/\∀(j:Nat) (c d:AV),cs[j]?=some c→ds[j]?=some d→LeF G c d
 | [],[],_=>⟨rfl,fun j c d h=>by simp at h⟩
 | [],_ ::_,h=>by simp [tR] at h
 | _ ::_,[],h=>by simp [tR] at h
 | a ::r,b ::s,h=>by
  simp only [tR] at h
  obtain ⟨h1,h2⟩:=jA h.2
  refine ⟨by simp [h1],fun j c d hc hd=>?_⟩
  cases j with
  | zero=>simp at hc hd;subst hc hd;exact h.1
  | succ j=>exact h2 j c d (by simpa using hc) (by simpa using hd)
theorem V.leF {Ω:Om} {G:List Nat} (hG:∀k∈G,Ω.e k=some (.tail 0 none 0)) {a:AV} {v:Value} (h:V Ω a v) {b:AV} (hb:LeF G a b):V Ω b v:=by
 cases b with
 | undef=>exact .undef v
 | int k n=>
  cases a <;> simp [LeF] at hb
  obtain ⟨rfl,rfl⟩:=hb
  exact h
 | bool b=>cases a <;> simp [LeF] at hb;subst hb;exact h
 | str b=>cases a <;> simp [LeF] at hb;subst hb;exact h
 | nilp=>cases a <;> simp [LeF] at hb;exact h
 | nilif=>cases a <;> simp [LeF] at hb;exact h
 | nilm=>cases a <;> simp [LeF] at hb;exact h
 | map i=>cases a <;> simp [LeF] at hb;subst hb;exact h
 | bptr i=>cases a <;> simp [LeF] at hb;subst hb;exact h
 | arr i n w=>cases a <;> simp [LeF] at hb;obtain ⟨⟨rfl,rfl⟩,rfl⟩:=hb;exact h
 | aptr i n w o=>cases a <;> simp [LeF] at hb;obtain ⟨⟨rfl,rfl,rfl⟩,rfl⟩:=hb;exact h
 | row τ xs=>cases h <;> simp [LeF] at hb
 | lstp τ xs k=>cases a <;> simp [LeF] at hb
 | tptr τ n k=>cases a <;> simp [LeF] at hb
 | iface t c=>cases a <;> simp [LeF] at hb
 | pt m y=>
  cases a with
  | pt n x=>
   simp only [LeF] at hb
   split at hb
   ·rename_i x' hx
    obtain ⟨e,e2⟩:=oY hx
    subst e
    simp only at e2
    subst e2
    subst hb
    exact h
   ·exact hb.elim
  | nilp=>
   simp [LeF] at hb
   subst hb
   cases h
   exact .ptNone m
  | _=>simp [LeF] at hb
 | nils=>cases a <;> simp [LeF] at hb;exact h
 | ptr i o=>cases a <;> simp [LeF] at hb;obtain ⟨rfl,rfl⟩:=hb;exact h
 | cptr c=>cases a <;> simp [LeF] at hb
 | agg c=>cases a <;> simp [LeF] at hb
 | tup c=>cases a <;> simp [LeF] at hb
 | fn f c=>cases a <;> simp [LeF] at hb
 | st m y=>
  cases a with
  | st n x=>
   simp only [LeF] at hb
   split at hb
   ·rename_i x' hx
    obtain ⟨e,e2⟩:=js hx
    subst e
    simp only at e2
    subst e2
    subst hb
    exact h
   ·exact hb.elim
  | _=>simp [LeF] at hb
 | lst σ ys p=>
  cases a with
  | lst τ xs o=>
   simp only [LeF] at hb
   obtain ⟨k1,k2⟩:=hb
   have hp:∀id,p=some id→o=some id:=by
    intro id hid
    have:p=none∨p=o:=by
     rcases Classical.em (p=none∨p=o) with k | k
     ·exact k
     ·rw [if_neg k] at k2;exact k2.elim
    rcases this with k | k
    ·rw [k] at hid;cases hid
    ·rw [←k];exact hid
   split at k1
   ·rename_i xs' hx
    obtain ⟨e,e2⟩:=hX hx
    subst e
    simp only at e2
    subst e2
    subst k1
    cases h with
    | lstNil _ _ ht=>exact .lstNil _ p (fun id hid=>ht id (hp id hid))
    | lstVoid _ a=>
     cases p with
     | none=>exact .lstVoid _ a
     | some k=>exact absurd (hp k rfl) (by simp)
    | lst _ _ _ b' off cap vals h1 h2 h3 h4 h5=>exact .lst _ _ p b' off cap vals h1 h2 (fun id hid=>h3 id (hp id hid)) h4 h5
   ·exact k1.elim
  | nils=>
   simp only [LeF] at hb
   obtain ⟨h1,h2⟩:=hb
   subst h2
   cases h
   refine .lstNil σ p (fun id hid=>?_)
   subst hid
   simp only at h1
   have hk:id∈G:=by
    rcases Classical.em (G.contains id=true) with k | k
    ·simpa using k
    ·rw [if_neg k] at h1;exact h1.elim
   exact ⟨0,none,0,hG id hk,Nat.le_refl _,fun _=>rfl⟩
  | _=>simp [LeF] at hb
theorem bN {G:List Nat} {a b:AV} (h:LeF G a b):LeV G a b:=by
 cases a <;> cases b <;> first | exact h | exact h.elim
theorem uC {G:List Nat} {c d:AV} (h0:rn c d) (h:LeV G c d):(ab c).length=(ab d).length/\
  ∀(j:Nat) (c' d':AV),(ab c)[j]?=some c'→(ab d)[j]?=some d'→(c'=d'∨LeV G c' d'):=by
 have one:∀{c d:AV},ab c=[c]→ab d=[d]→LeV G c d→(ab c).length=(ab d).length/\
   ∀(j:Nat) (c' d':AV),(ab c)[j]?=some c'→(ab d)[j]?=some d'→(c'=d'∨LeV G c' d'):=by
  intro c d hc hd h
  rw [hc,hd]
  refine ⟨rfl,fun j c' d' h1 h2=>?_⟩
  cases j with
  | zero=>simp at h1 h2;subst h1 h2;exact Or.inr h
  | succ j=>simp at h1
 cases c with
 | agg cs=>
  cases d with
  | agg ds=>
   obtain ⟨l1,l2⟩:=lN (cs:=cs) (ds:=ds) h
   exact ⟨l1,fun j c' d' h1 h2=>Or.inr (l2 j c' d' h1 h2)⟩
  | st m y=>
   obtain ⟨l1,l2⟩:=jA (cs:=cs) (ds:=cells (.st m) y) h
   exact ⟨l1,fun j c' d' h1 h2=>Or.inr (bN (l2 j c' d' h1 h2))⟩
  | undef=>exact h0.elim
  | _=>exact h.elim
 | st n x=>
  cases d with
  | agg ds=>
   obtain ⟨l1,l2⟩:=jA (cs:=cells (.st n) x) (ds:=ds) h
   exact ⟨l1,fun j c' d' h1 h2=>Or.inr (bN (l2 j c' d' h1 h2))⟩
  | st m y=>
   have h':(match jg n m x with | some x=>x=y | none=>False):=h
   split at h'
   ·rename_i x' hx
    obtain ⟨e,e2⟩:=js hx
    subst e
    simp only at e2
    subst e2
    subst h'
    exact ⟨rfl,fun j c' d' h1 h2=>Or.inl (by rw [h1] at h2;exact Option.some.inj h2)⟩
   ·exact h'.elim
  | undef=>exact h0.elim
  | _=>exact h.elim
 | row τ xs=>
  cases d with
  | row σ ys=>
   have h':(match fj τ σ xs with | some xs=>xs=ys | none=>False):=h
   split at h'
   ·rename_i x' hx
    obtain ⟨e,e2⟩:=hX hx
    subst e
    simp only at e2
    subst e2
    subst h'
    exact ⟨rfl,fun j c' d' h1 h2=>Or.inl (by rw [h1] at h2;exact Option.some.inj h2)⟩
   ·exact h'.elim
  | undef=>exact h0.elim
  | _=>exact h.elim
 | _=>
  cases d with
  | agg ds=>exact h.elim
  | st m y=>exact h.elim
  | row τ xs=>exact h.elim
  | _=>exact one rfl rfl h
theorem V.le {Ω:Om} {G:List Nat} (hG:∀k∈G,Ω.e k=some (.tail 0 none 0)) {a:AV} {v:Value} (h:V Ω a v):∀{b:AV},LeV G a b→V Ω b v:=by
 have part:∀{cs ds:List AV} {vs:List Value},cs.length=ds.length→(∀(j:Nat) (c:AV) (v:Value),cs[j]?=some c→vs[j]?=some v→∀{b:AV},LeV G c b→V Ω b v)→
   (∀(j:Nat) (c d:AV),cs[j]?=some c→ds[j]?=some d→LeV G c d)→∀(j:Nat) (d:AV) (v:Value),ds[j]?=some d→vs[j]?=some v→V Ω d v:=by
  intro cs ds vs hl ih l2 j d v hd hv
  have:j < cs.length:=by
   rw [hl]
   rcases Nat.lt_or_ge j ds.length with k | k
   ·exact k
   ·rw [List.getElem?_eq_none k] at hd;cases hd
  exact ih j _ v (List.getElem?_eq_getElem this) hv (l2 j _ d (List.getElem?_eq_getElem this) hd)
 induction h with
 | undef v=>intro b hb;exact (V.undef v).leF hG (by cases b <;> exact hb)
 | int k n h1 h2=>intro b hb;exact (V.int k n h1 h2).leF hG (by cases b <;> exact hb)
 | bool b'=>intro b hb;exact (V.bool b').leF hG (by cases b <;> exact hb)
 | str s h=>intro b hb;exact (V.str s h).leF hG (by cases b <;> exact hb)
 | lstNil τ o ht=>intro b hb;exact (V.lstNil τ o ht).leF hG (by cases b <;> exact hb)
 | lstVoid τ a=>intro b hb;exact (V.lstVoid τ a).leF hG (by cases b <;> exact hb)
 | lst τ xs o b' off cap vals h1 h2 h3 h4 h5 ih=>intro b hb;exact (V.lst τ xs o b' off cap vals h1 h2 h3 h4 h5).leF hG (by cases b <;> exact hb)
 | nils=>intro b hb;exact V.nils.leF hG (by cases b <;> exact hb)
 | ptr id off b' o len hb'=>intro b hb;exact (V.ptr id off b' o len hb').leF hG (by cases b <;> exact hb)
 | nilp=>intro b hb;exact V.nilp.leF hG (by cases b <;> exact hb)
 | ptNone n=>intro b hb;exact (V.ptNone n).leF hG (by cases b <;> exact hb)
 | ptSome n x v hv _=>intro b hb;exact (V.ptSome n x v hv).leF hG (by cases b <;> exact hb)
 | arr id n w b' len cap a he h1 h2 h3 h4=>intro b hb;exact (V.arr id n w b' len cap a he h1 h2 h3 h4).leF hG (by cases b <;> exact hb)
 | aptr id i w off b' o len he=>intro b hb;exact (V.aptr id i w off b' o len he).leF hG (by cases b <;> exact hb)
 | map id r he=>intro b hb;exact (V.map id r he).leF hG (by cases b <;> exact hb)
 | bptr id b' g he=>intro b hb;exact (V.bptr id b' g he).leF hG (by cases b <;> exact hb)
 | nilif=>intro b hb;exact V.nilif.leF hG (by cases b <;> exact hb)
 | nilm=>intro b hb;exact V.nilm.leF hG (by cases b <;> exact hb)
 | lstp τ xs k b' off cap vals h1 h2 h3 h4 h5 ih=>intro b hb;exact (V.lstp τ xs k b' off cap vals h1 h2 h3 h4 h5).leF hG (by cases b <;> exact hb)
 | tptr τ n k p hp=>intro b hb;exact (V.tptr τ n k p hp).leF hG (by cases b <;> exact hb)
 | iface t a v hv ih=>
  intro b hb
  cases b with
  | iface u d=>
   simp only [LeV] at hb
   obtain ⟨h0,hb⟩:=hb
   have htu:t=u:=by
    rcases Classical.em (t=u) with k | k
    ·exact k
    ·rw [if_neg k] at h0;exact h0.elim
   subst htu
   exact .iface t d v (ih hb)
  | undef=>exact .undef _
  | _=>exact hb.elim
 | st n x v hv ih=>
  intro b hb
  cases b with
  | agg ds=>
   obtain ⟨vs,rfl,hvl⟩:=hv.agg_inv
   obtain ⟨l1,l2⟩:=jA (cs:=cells (.st n) x) (ds:=ds) hb
   refine .agg ds vs (by rw [←l1,hvl.1]) (fun j d u hd hu=>?_)
   have:j < (cells (.st n) x).length:=by
    rw [l1]
    rcases Nat.lt_or_ge j ds.length with k | k
    ·exact k
    ·rw [List.getElem?_eq_none k] at hd;cases hd
   exact (hvl.2 j _ u (List.getElem?_eq_getElem this) hu).leF hG (l2 j _ d (List.getElem?_eq_getElem this) hd)
  | _=>exact (V.st n x v hv).leF hG hb
 | cptr c b' off vals h1 h2 ih=>
  intro b hb
  cases b with
  | cptr d=>
   simp only [LeV] at hb
   obtain ⟨l1,l2⟩:=uC hb.1 hb.2
   have hc:∀(j:Nat) (d':AV),(ab d)[j]?=some d'→∃c',(ab c)[j]?=some c':=by
    intro j d' hd
    have:j < (ab c).length:=by
     rw [l1]
     rcases Nat.lt_or_ge j (ab d).length with k | k
     ·exact k
     ·rw [List.getElem?_eq_none k] at hd;cases hd
    exact ⟨_,List.getElem?_eq_getElem this⟩
   refine .cptr d b' off vals (fun j d' hd=>?_) (fun j d' hd=>?_)
   ·obtain ⟨c',hcj⟩:=hc j d' hd
    exact h1 j c' hcj
   ·obtain ⟨c',hcj⟩:=hc j d' hd
    rcases l2 j c' d' hcj hd with rfl | k
    ·exact h2 j c' hcj
    ·exact ih j c' hcj k
  | pt m y=>
   cases c with
   | st n x=>
    have hb':(match jg n m x with | some x=>some x=y | none=>False):=hb
    split at hb'
    ·rename_i x' hx
     obtain ⟨e,e2⟩:=js hx
     subst e
     simp only at e2
     subst e2
     subst hb'
     exact .ptSome _ _ _ (.cptr _ b' off vals h1 h2)
    ·exact hb'.elim
   | _=>exact hb.elim
  | undef=>exact .undef _
  | _=>exact hb.elim
 | agg cs vs hl hv ih=>
  intro b hb
  cases b with
  | agg ds=>
   obtain ⟨l1,l2⟩:=lN (cs:=cs) (ds:=ds) hb
   exact .agg ds vs (by rw [←l1,hl]) (part l1 ih l2)
  | st m y=>
   obtain ⟨l1,l2⟩:=jA (cs:=cs) (ds:=cells (.st m) y) hb
   exact .st m y _ (.agg _ vs (by rw [←l1,hl]) (part l1 ih (fun j c d h1 h2=>bN (l2 j c d h1 h2))))
  | undef=>exact .undef _
  | _=>exact hb.elim
 | tup cs vs hl hv ih=>
  intro b hb
  cases b with
  | tup ds=>
   obtain ⟨l1,l2⟩:=lN (cs:=cs) (ds:=ds) hb
   exact .tup ds vs (by rw [←l1,hl]) (part l1 ih l2)
  | undef=>exact .undef _
  | _=>exact hb.elim
 | fn f cs vs hl hv ih=>
  intro b hb
  cases b with
  | fn g ds=>
   simp only [LeV] at hb
   obtain ⟨h0,hb⟩:=hb
   have hfg:f=g:=by
    rcases Classical.em (f=g) with k | k
    ·exact k
    ·rw [if_neg k] at h0;exact h0.elim
   subst hfg
   obtain ⟨l1,l2⟩:=lN hb
   exact .fn f ds vs (by rw [←l1,hl]) (part l1 ih l2)
  | undef=>exact .undef _
  | _=>exact hb.elim
theorem Dv {G:List Nat} {s:St}:∀{l:List (Nat × AV)},LeT G s l→∀i,aS l i=.undef∨LeV G (aS s.t i) (aS l i)
 | [],_,i=>Or.inl rfl
 | (j,v) ::r,h,i=>by
  simp only [LeT] at h
  simp only [cY,cE]
  by_cases hj:j=i
  ·subst hj;simp [h.1]
  ·simp only [beq_iff_eq,hj,if_false]
   exact Dv h.2 i
theorem pn {G:List Nat} {s:St}:∀{l:List (Nat × SObj)},LeB G s l→∀i o,ak l i=some o→
  (∃c d,o=.box d/\ak s.b i=some (.box c)/\rn c d/\LeV G c d)∨
  (∃τ n,o=.tail τ n/\(ak s.b i=some (.tail τ n)∨(ak s.b i=none/\n=0)))∨
  (∃κ τ m,o=.map κ τ m/\ak s.b i=some (.map κ τ m))∨
  (∃t u l,o=.bld t u l/\ak s.b i=some (.bld t u l))
 | [],_,i,o,ho=>by simp [aM,aF] at ho
 | (j,.box d) ::r,h,i,o,ho=>by
  simp only [LeB] at h
  simp only [aM,aF] at ho
  by_cases hj:j=i
  ·subst hj
   simp at ho
   subst ho
   have h1:=h.1
   split at h1
   ·rename_i c hc
    exact Or.inl ⟨c,d,rfl,hc,h1⟩
   ·exact h1.elim
  ·simp only [beq_iff_eq,hj,if_false] at ho
   exact pn h.2 i o ho
 | (j,.bld t u l) ::r,h,i,o,ho=>by
  simp only [LeB] at h
  simp only [aM,aF] at ho
  by_cases hj:j=i
  ·subst hj
   simp at ho
   subst ho
   have h1:=h.1
   split at h1
   ·rename_i t' u' l' hm
    split at h1
    ·rename_i e
     obtain ⟨rfl,rfl⟩:=e
     subst h1
     exact Or.inr (Or.inr (Or.inr ⟨_,_,_,rfl,hm⟩))
    ·exact h1.elim
   ·exact h1.elim
  ·simp only [beq_iff_eq,hj,if_false] at ho
   exact pn h.2 i o ho
 | (j,.map κ τ m) ::r,h,i,o,ho=>by
  simp only [LeB] at h
  simp only [aM,aF] at ho
  by_cases hj:j=i
  ·subst hj
   simp at ho
   subst ho
   have h1:=h.1
   split at h1
   ·rename_i κ' τ' m' hm
    split at h1
    ·rename_i m2 hc
     unfold A8 at hc
     split at hc
     ·rename_i e
      obtain ⟨rfl,rfl⟩:=e
      simp at hc
      subst hc
      subst h1
      exact Or.inr (Or.inr (Or.inl ⟨_,_,_,rfl,hm⟩))
     ·cases hc
    ·exact h1.elim
   ·exact h1.elim
  ·simp only [beq_iff_eq,hj,if_false] at ho
   exact pn h.2 i o ho
 | (j,.tail τ n) ::r,h,i,o,ho=>by
  simp only [LeB] at h
  simp only [aM,aF] at ho
  by_cases hj:j=i
  ·subst hj
   simp at ho
   subst ho
   have h1:=h.1
   split at h1
   ·rename_i σ m hm
    split at h1
    ·rename_i e
     subst e
     subst h1
     exact Or.inr (Or.inl ⟨_,_,rfl,Or.inl hm⟩)
    ·exact h1.elim
   ·rename_i hm
    exact Or.inr (Or.inl ⟨τ,n,rfl,Or.inr ⟨hm,h1⟩⟩)
   ·exact h1.elim
  ·simp only [beq_iff_eq,hj,if_false] at ho
   exact pn h.2 i o ho
theorem Holds.begin {F:Fr} {s:AS} {a:Act} {Ω:Om} (h:Holds F s a Ω) (G:List Nat) (hG:∀k∈G,s.B k=none) (ty:Nat→Ty) :
  ∃Ω',Ω'.w=Ω.w/\Holds F ⟨s.T,fun i=>if i∈G then some (.tail (ty i) 0) else s.B i⟩ a Ω'/\∀k∈G,Ω'.e k=some (.tail 0 none 0):=by
 have hx:Ext Ω ⟨fun i=>if i∈G then some (.tail 0 none 0) else Ω.e i,Ω.w,Ω.pub⟩:=by
  refine ⟨fun id c hc=>⟨c,?_,CLe.refl c⟩,fun _ _ p=>p,fun _ _ _=>rfl⟩
  have:id∉G:=fun hm=>by rw [h.dom id (hG id hm)] at hc;cases hc
  simp [this,hc]
 refine ⟨⟨fun i=>if i∈G then some (.tail 0 none 0) else Ω.e i,Ω.w,Ω.pub⟩,rfl,⟨fun i=>(h.tmps i).ext hx,h.size,h.defers,fun id o ho=>?_,fun id hid=>?_,fun i j ci cj b o hi hj hbi hbj=>?_,h.pubok,fun id c hc=>let ⟨c1,h1,l1⟩:=h.keep id c hc;let ⟨c2,h2,l2⟩:=hx.e id c1 h1;⟨c2,h2,l1.trans l2⟩,?_⟩,fun k hk=>by simp [hk]⟩
 ·by_cases hm:id∈G
  ·simp only [if_pos hm,Xs] at ho
   subst ho
   exact ⟨none,0,by simp [hm],Nat.le_refl _,by unfold b8;omega,fun _=>rfl,fun b hb=>by simp at hb⟩
  ·simp only [if_neg hm] at ho
   exact (h.slots id o ho).keep hx (by simp [hm]) (fun _ _=>kN.of_blocks fun _ _ _=>⟨rfl,fun _ p=>p⟩)
 ·by_cases hm:id∈G
  ·simp [hm] at hid
  ·simp only [if_neg hm] at hid ⊢
   exact h.dom id hid
 ·by_cases hi':i∈G
  ·simp only [if_pos hi',Xs] at hi
   subst hi
   cases hbi
  ·by_cases hj':j∈G
   ·simp only [if_pos hj',Xs] at hj
    subst hj
    cases hbj
   ·simp only [if_neg hi'] at hi
    simp only [if_neg hj'] at hj
    exact h.inj i j ci cj b o hi hj hbi hbj
 ·exact ⟨h.frame.os,h.frame.tape,h.frame.output,h.frame.size,h.frame.block,h.frame.cell,h.frame.kind,h.frame.pub,h.frame.old,h.frame.pcell⟩
theorem ct {b:Bool} {k:Prop} (h:chk b k):b=true/\k:=by
 cases b with
 | true=>exact ⟨rfl,h⟩
 | false=>exact h.elim
theorem Ah {G:List Nat} {a b:AV} {k:Prop} (h:cF G a b k):LeF G a b/\k:=by
 unfold cF at h
 split at h
 ·exact ⟨by cases a <;> trivial,h⟩
 ·obtain ⟨h1,h2,h3⟩:=ct h
  simp only [decide_eq_true_eq] at h1
  exact ⟨by simp only [LeF,h1,if_true];exact h2,h3⟩
 ·exact h
 ·exact h
 ·split at h
  ·rename_i hc
   obtain ⟨h1,h2,h3⟩:=ct h
   simp only [decide_eq_true_eq] at h1
   exact ⟨by simp only [LeF,hc];exact ⟨h2,by rw [if_pos h1];trivial⟩,h3⟩
  ·exact h.elim
 ·split at h
  ·exact ⟨by simp only [LeF];exact ⟨trivial,h.1⟩,h.2⟩
  ·obtain ⟨h1,h2,h3⟩:=ct h
   exact ⟨by simp only [LeF,h1,if_true];exact ⟨trivial,h2⟩,h3⟩
 ·exact ⟨trivial,h⟩
 ·exact ⟨trivial,h⟩
 ·obtain ⟨h1,h2⟩:=ct h
  simp only [decide_eq_true_eq] at h1
  exact ⟨by simp only [LeF];rw [if_pos h1];trivial,h2⟩
 ·split at h
  ·rename_i hc
   exact ⟨by simp only [LeF,hc];exact h.1,h.2⟩
  ·exact h.elim
 ·split at h
  ·rename_i hc
   exact ⟨by simp only [LeF,hc];exact h.1,h.2⟩
  ·exact h.elim
 ·obtain ⟨h1,h2,h3⟩:=ct h
  simp only [decide_eq_true_eq] at h1
  exact ⟨by simp only [LeF];rw [if_pos h1];exact h2,h3⟩
 ·obtain ⟨h1,h2,h3⟩:=ct h
  simp only [decide_eq_true_eq] at h1
  exact ⟨by simp only [LeF];rw [if_pos h1];exact h2,h3⟩
 ·obtain ⟨h1,h2⟩:=ct h
  simp only [decide_eq_true_eq] at h1
  exact ⟨by simp only [LeF];rw [if_pos h1];trivial,h2⟩
 ·obtain ⟨h1,h2⟩:=ct h
  simp only [decide_eq_true_eq] at h1
  exact ⟨by simp only [LeF];rw [if_pos h1];trivial,h2⟩
 ·split at h
  ·rename_i hc
   exact ⟨by simp only [LeF,hc];exact h.1,h.2⟩
  ·exact h.elim
 ·exact ⟨by simp only [LeF];exact h.1,h.2⟩
 ·exact ⟨trivial,h⟩
 ·exact ⟨trivial,h⟩
 ·exact h.elim
theorem po {G:List Nat} {k:Prop}:∀{cs ds:List AV},cFs G cs ds k→tR G cs ds/\k
 | [],[],h=>⟨trivial,h⟩
 | a ::r,b ::s,h=>let ⟨h1,h2⟩:=Ah (k:=cFs G r s k) h;let ⟨h3,h4⟩:=po h2;⟨⟨h1,h3⟩,h4⟩
 | [],_ ::_,h=>h.elim
 | _ ::_,[],h=>h.elim
theorem nu {c d:AV} (h:sq c d=true):rn c d:=by
 cases c <;> cases d <;> first | trivial | (simp [sq] at h)
mutual
theorem cV_spec {G:List Nat}:∀{a b:AV} {k:Prop},cV G a b k→LeV G a b/\k:=by
 intro a b k h
 unfold cV at h
 split at h
 ·rename_i c d
  obtain ⟨h1,h2⟩:=ct h
  obtain ⟨h3,h4⟩:=cV_spec (a:=c) (b:=d) h2
  exact ⟨by simp only [LeV];exact ⟨nu h1,h3⟩,h4⟩
 ·split at h
  ·rename_i hc
   exact ⟨by simp only [LeV,hc];exact h.1,h.2⟩
  ·exact h.elim
 ·rename_i t a u b
  obtain ⟨h1,h2⟩:=ct h
  obtain ⟨h3,h4⟩:=cV_spec (a:=a) (b:=b) h2
  exact ⟨by simp only [LeV];exact ⟨by rw [if_pos (Nat.eq_of_beq_eq_true h1)];trivial,h3⟩,h4⟩
 ·obtain ⟨h1,h2⟩:=po h
  exact ⟨by simp only [LeV];exact h1,h2⟩
 ·obtain ⟨h1,h2⟩:=po h
  exact ⟨by simp only [LeV];exact h1,h2⟩
 ·rename_i cs ds
  obtain ⟨h1,h2⟩:=cL_spec (cs:=cs) (ds:=ds) h
  exact ⟨by simp only [LeV];exact h1,h2⟩
 ·rename_i cs ds
  obtain ⟨h1,h2⟩:=cL_spec (cs:=cs) (ds:=ds) h
  exact ⟨by simp only [LeV];exact h1,h2⟩
 ·rename_i f cs g ds
  obtain ⟨h0,h⟩:=ct h
  obtain ⟨h1,h2⟩:=cL_spec (cs:=cs) (ds:=ds) h
  exact ⟨by simp only [LeV];exact ⟨by rw [if_pos (Nat.eq_of_beq_eq_true h0)];trivial,h1⟩,h2⟩
 ·obtain ⟨h1,h2⟩:=Ah h
  exact ⟨bN h1,h2⟩
theorem cL_spec {G:List Nat}:∀{cs ds:List AV} {k:Prop},cL G cs ds k→LeL G cs ds/\k
 | [],[],k,h=>by simp only [cL] at h;exact ⟨by simp only [LeL],h⟩
 | a ::r,b ::s,k,h=>by
  simp only [cL] at h
  obtain ⟨h1,h2⟩:=cV_spec (a:=a) (b:=b) h
  obtain ⟨h3,h4⟩:=cL_spec (cs:=r) (ds:=s) h2
  exact ⟨by simp only [LeL];exact ⟨h1,h3⟩,h4⟩
 | [],_ ::_,k,h=>by simp only [cL] at h
 | _ ::_,[],k,h=>by simp only [cL] at h
end
theorem Ai {G:List Nat} {s:St}:∀{l:List (Nat × AV)} {k:Prop},cT G s l k→LeT G s l/\k
 | [],k,h=>⟨trivial,h⟩
 | (i,a) ::r,k,h=>let ⟨h1,h2⟩:=cV_spec (k:=cT G s r k) h;let ⟨h3,h4⟩:=Ai h2;⟨⟨h1,h3⟩,h4⟩
theorem kc {G:List Nat} {s:St}:∀{l:List (Nat × SObj)},cB G s l→LeB G s l
 | [],_=>trivial
 | (i,.box d) ::r,h=>by
  simp only [cB] at h
  simp only [LeB]
  split at h
  ·rename_i c hc
   obtain ⟨h1,h2⟩:=ct h
   obtain ⟨h3,h4⟩:=cV_spec h2
   exact ⟨⟨nu h1,h3⟩,kc h4⟩
  ·exact h.elim
 | (i,.tail τ n) ::r,h=>by
  simp only [cB] at h
  simp only [LeB]
  split at h
  ·rename_i σ m hc
   obtain ⟨h1,h2,h3⟩:=ct h
   simp only [decide_eq_true_eq] at h1
   exact ⟨by rw [if_pos h1];exact h2,kc h3⟩
  ·exact ⟨h.1,kc h.2⟩
  ·exact h.elim
 | (i,.bld t u l) ::r,h=>by
  simp only [cB] at h
  simp only [LeB]
  split at h
  ·rename_i t' u' l' hc
   obtain ⟨h1,h2,h3⟩:=ct h
   simp only [decide_eq_true_eq] at h1
   exact ⟨by rw [if_pos h1];exact h2,kc h3⟩
  ·exact h.elim
 | (i,.map κ τ m) ::r,h=>by
  simp only [cB] at h
  simp only [LeB]
  split at h
  ·rename_i κ' τ' m' hc
   split at h
   ·exact ⟨h.1,kc h.2⟩
   ·exact h.elim
  ·exact h.elim
theorem fM {s s':St} (h:cS s s'):LeS s s':=by
 unfold cS at h
 obtain ⟨h1,h2⟩:=ct h
 obtain ⟨h3,h4⟩:=Ai h2
 exact ⟨by rw [if_pos h1];trivial,h3,kc h4⟩
def FK:Option SObj→Ty
 | some (.tail τ _)=>τ
 | _=>.bool
theorem df {F:Fr} {s s':St} {a:Act} {Ω:Om} (h:Holds F s.abs a Ω) (hle:LeS s s'):∃Ω',Ω'.w=Ω.w/\Holds F s'.abs a Ω':=by
 obtain ⟨h0,h1,h2⟩:=hle
 have hn2:(de ((aG s.b).filter fun i=>!(aG s'.b).contains i) s' && ((aG s.b).filter fun i=>!(aG s'.b).contains i).all (fun i=>!bp i))=true:=by
  rcases Classical.em ((de ((aG s.b).filter fun i=>!(aG s'.b).contains i) s' && ((aG s.b).filter fun i=>!(aG s'.b).contains i).all (fun i=>!bp i))=true) with k | k
  ·exact k
  ·rw [if_neg k] at h0;exact h0.elim
 obtain ⟨hn,hnl⟩:=Bool.and_eq_true_iff.1 hn2
 have hGs:∀k,k∈dK s s'↔(k∈aG s'.b/\ak s.b k=none):=by
  intro k
  simp [dK]
 obtain ⟨Ω1,e1,h1',hg⟩:=h.begin (dK s s') (fun k hk=>((hGs k).1 hk).2) (fun i=>FK (ak s'.b i))
 have hmid:Holds F ⟨s'.abs.T,fun i=>match ak s'.b i with | some o=>some o | none=>if i∈dK s s' then some (.tail (FK (ak s'.b i)) 0) else s.abs.B i⟩ a Ω1:=by
  refine ⟨fun i=>?_,h1'.size,h1'.defers,fun id o ho=>?_,fun id hid=>?_,h1'.inj,h1'.pubok,h1'.keep,h1'.frame⟩
  ·rcases Dv h1 i with k | k
   ·have:s'.abs.T i=.undef:=k
    rw [this]
    exact .undef _
   ·exact (h1'.tmps i).le hg k
  ·simp only at ho
   cases hb:ak s'.b id with
   | none=>
    rw [hb] at ho
    simp only at ho
    refine h1'.slots id o ?_
    simp only [hb]
    exact ho
   | some o'=>
    rw [hb] at ho
    simp at ho
    subst ho
    rcases pn h2 id o' hb with ⟨c,d,rfl,hcs,hl0,hl⟩ | ⟨τ,n,rfl,hcs⟩ | ⟨κ,τ,m,rfl,hcs⟩ | ⟨t,u,l,rfl,hcs⟩
    ·have hng:id∉dK s s':=fun hm=>by rw [((hGs id).1 hm).2] at hcs;cases hcs
     obtain ⟨b,off,k1,k2⟩:=h1'.slots id (.box c) (by simp only [if_neg hng];exact hcs)
     obtain ⟨l1,l2⟩:=uC hl0 hl
     refine ⟨b,off,by rw [←l1];exact k1,fun j d' hd=>?_⟩
     have hj:j < (ab c).length:=by
      rw [l1]
      rcases Nat.lt_or_ge j (ab d).length with k | k
      ·exact k
      ·rw [List.getElem?_eq_none k] at hd;cases hd
     obtain ⟨m1,m2,m3,v,m4,m5⟩:=k2 j _ (List.getElem?_eq_getElem hj)
     refine ⟨m1,m2,m3,v,m4,?_⟩
     rcases l2 j _ d' (List.getElem?_eq_getElem hj) hd with e | k
     ·rw [←e];exact m5
     ·exact m5.le hg k
    ·rcases hcs with hcs | ⟨hcs,rfl⟩
     ·have hng:id∉dK s s':=fun hm=>by rw [((hGs id).1 hm).2] at hcs;cases hcs
      exact h1'.slots id (.tail τ n) (by simp only [if_neg hng];exact hcs)
     ·have hin:id∈dK s s':=(hGs id).2 ⟨List.mem_map.2 ⟨(id,.tail τ 0),ck _ _ _ hb,rfl⟩,hcs⟩
      have:=h1'.slots id (.tail τ 0) (by simp only [if_pos hin,hb,FK])
      exact this
    ·have hng:id∉dK s s':=fun hm=>by rw [((hGs id).1 hm).2] at hcs;cases hcs
     exact h1'.slots id (.map κ τ m) (by simp only [if_neg hng];exact hcs)
    ·have hng:id∉dK s s':=fun hm=>by rw [((hGs id).1 hm).2] at hcs;cases hcs
     exact h1'.slots id (.bld t u l) (by simp only [if_neg hng];exact hcs)
  ·refine h1'.dom id ?_
   simp only at hid ⊢
   cases hb:ak s'.b id with
   | none=>rw [hb] at hid;simpa [hb] using hid
   | some o'=>rw [hb] at hid;simp at hid
 have f1:∀i,i∈((aG s.b).filter fun i=>!(aG s'.b).contains i)→s'.abs.B i=none:=by
  intro i hi
  simp at hi
  cases hb:ak s'.b i with
  | none=>exact hb
  | some o=>exact absurd (List.mem_map.2 ⟨(i,o),ck _ _ _ hb,rfl⟩) hi.2
 have f2:∀i,i∉((aG s.b).filter fun i=>!(aG s'.b).contains i)→
   s'.abs.B i=(match ak s'.b i with | some o=>some o | none=>if i∈dK s s' then some (.tail (FK (ak s'.b i)) 0) else s.abs.B i):=by
  intro i hi
  simp only [St.abs]
  cases hb:ak s'.b i with
  | some o=>rfl
  | none=>
   have hk:i∉aG s'.b:=ij _ _ hb
   have hng:i∉dK s s':=fun hm=>hk ((hGs i).1 hm).1
   simp only [if_neg hng]
   cases hsb:ak s.b i with
   | none=>rfl
   | some o=>
    exfalso
    apply hi
    simp only [List.mem_filter,Bool.not_eq_true',List.contains_eq_mem,decide_eq_false_iff_not]
    exact ⟨List.mem_map.2 ⟨(i,o),ck _ _ _ hsb,rfl⟩,hk⟩
 obtain ⟨Ω2,e2,h2'⟩:=hmid.forget (s':=s') (fun i=>Or.inr rfl) f1 f2 hn (fun i hi=>by
  have:=List.all_eq_true.1 hnl i hi
  simpa using this)
 exact ⟨Ω2,e2.trans e1,h2'⟩
end Go.AL
end
noncomputable section
namespace Go.AL
variable [Tabs]
section
variable {id:Nat} {c:AV}
theorem mG:∀(l:List AV) (j:Nat),(pubVs id c l)[j]?=(l[j]?).map (pubV id c)
 | [],j=>by simp [pubVs]
 | a ::r,0=>by simp [pubVs]
 | a ::r,j+1=>by simp only [pubVs,List.getElem?_cons_succ];exact mG r j
theorem iT:∀l:List AV,(pubVs id c l).length=l.length
 | []=>rfl
 | a ::r=>by simp [pubVs,iT r]
theorem pq (τ:Ty) (x:den τ):∀d∈cells τ x,pubV id c d=d:=by
 cases τ with
 | st n=>cases n <;> simp [cells,cX,fP,dU,eK,eL,eM,cG,eP,gS,fQ,fR,fS,gT,gU,gf,fT,jV,eQ,gV,fJ,gW,gX,fU,pubV]
 | _=>simp [cells,pubV]
theorem Be (τ:Ty) (xs:List (den τ)):∀d∈aY τ xs,pubV id c d=d:=by
 intro d hd
 simp only [aY,List.mem_flatMap] at hd
 obtain ⟨x,_,hx⟩:=hd
 exact pq τ x d hx
theorem pr (d:AV):(ab (pubV id c d)).length=(ab d).length/\∀(j:Nat) (a:AV),(ab d)[j]?=some a→(ab (pubV id c d))[j]?=some (pubV id c a):=by
 have one:∀{d:AV},ab d=[d]→ab (pubV id c d)=[pubV id c d]→(ab (pubV id c d)).length=(ab d).length/\
   ∀(j:Nat) (a:AV),(ab d)[j]?=some a→(ab (pubV id c d))[j]?=some (pubV id c a):=by
  intro d h1 h2
  rw [h1,h2]
  refine ⟨rfl,fun j a ha=>?_⟩
  cases j with
  | zero=>simp at ha;subst ha;rfl
  | succ j=>simp at ha
 cases d with
 | agg cs=>exact ⟨iT cs,fun j a ha=>by show (pubVs id c cs)[j]?=_;rw [mG];have:cs[j]?=some a:=ha;rw [this];rfl⟩
 | st n x=>exact ⟨rfl,fun j a ha=>by show (cells (.st n) x)[j]?=_;rw [pq (.st n) x a (List.mem_of_getElem? ha)];exact ha⟩
 | row τ xs=>exact ⟨rfl,fun j a ha=>by show (aY τ xs)[j]?=_;rw [Be τ xs a (List.mem_of_getElem? ha)];exact ha⟩
 | ptr i o=>
  refine one rfl ?_
  cases o with
  | zero=>simp only [pubV];split <;> rfl
  | succ o=>rfl
 | arr i n w=>
  refine one rfl ?_
  simp only [pubV]
  split
  ·split
   ·split <;> rfl
   ·rfl
  ·rfl
 | _=>exact one rfl rfl
structure Fast (Ω:Om) (id:Nat) (c:AV) (b off:Nat) (vals:Nat→Value):Prop where
 e:Ω.e id=some (.box b off (ab c).length)
 at_:∀(j:Nat) (c':AV),(ab c)[j]?=some c'→Ω.pub b (off+j)/\Ω.w.cell? ⟨b,off+j,none⟩=some (vals j)/\V Ω c' (vals j)
theorem V.pubV {Ω:Om} {b off:Nat} {vals:Nat→Value} (hf:Fast Ω id c b off vals) {a:AV} {v:Value} (h:V Ω a v):V Ω (AL.pubV id c a) v:=by
 have many:∀{cs:List AV} {vs:List Value},cs.length=vs.length→(∀(j:Nat) (d:AV) (v:Value),cs[j]?=some d→vs[j]?=some v→V Ω (AL.pubV id c d) v)→
   (pubVs id c cs).length=vs.length/\∀(j:Nat) (d:AV) (v:Value),(pubVs id c cs)[j]?=some d→vs[j]?=some v→V Ω d v:=by
  intro cs vs hl ih
  refine ⟨by rw [iT,hl],fun j d v hd hv=>?_⟩
  rw [mG] at hd
  simp only [Option.map_eq_some_iff] at hd
  obtain ⟨d0,hd0,rfl⟩:=hd
  exact ih j d0 v hd0 hv
 induction h with
 | ptr i o b' p len he=>
  cases o with
  | succ o=>exact .ptr i (o+1) b' p len he
  | zero=>
   simp only [AL.pubV]
   split
   ·rename_i hi
    subst hi
    rw [hf.e] at he
    simp at he
    obtain ⟨rfl,rfl,rfl⟩:=he
    exact .cptr c b off vals (fun j c' hc=>⟨(hf.at_ j c' hc).1,(hf.at_ j c' hc).2.1⟩) (fun j c' hc=>(hf.at_ j c' hc).2.2)
   ·exact .ptr i 0 b' p len he
 | arr i n w b' len cap a he h1 h2 h3 h4=>
  simp only [AL.pubV]
  split
  ·rename_i hi
   split
   ·rename_i τ xs
    split
    ·rename_i hw
     subst hi hw
     have hfe:=hf.e
     rw [hfe] at he
     simp only [Xs,CObj.box.injEq] at he
     obtain ⟨rfl,rfl,rfl⟩:=he
     have hn:n<=xs.length:=by
      have:(ab (.row τ xs)).length=xs.length *ae τ:=bg τ xs
      rw [this] at h1
      exact Nat.le_of_mul_le_mul_right h1 (hU τ)
     rcases h4 with rfl | ⟨rfl,rfl,rfl⟩
     ·have hl:(xs.take n).length=n:=by simp;omega
      have hx':∀{i:Nat} {x:den τ},(xs.take n)[i]?=some x→xs[i]?=some x:=by
       intro i x hx
       rw [List.getElem?_take] at hx
       split at hx
       ·exact hx
       ·cases hx
      have:=V.lst (Ω:=Ω) τ (xs.take n) none b 0 cap (fun i j=>vals (i *ae τ+j)) (by omega) h3 (fun id hid=>by simp at hid) (fun i x hx j c' hc=>by
       have:=hf.at_ _ c' (gj τ xs i x j c' (hx' hx) hc)
       exact ⟨this.1,this.2.1⟩) (fun i x hx j c' hc=>(hf.at_ _ c' (gj τ xs i x j c' (hx' hx) hc)).2.2)
      rw [hl] at this
      exact this
     ·simp only [List.take_zero]
      exact .lstNil τ none (fun id hid=>by simp at hid)
    ·exact .arr i n w b' len cap a he h1 h2 h3 h4
   ·exact .arr i n w b' len cap a he h1 h2 h3 h4
  ·exact .arr i n w b' len cap a he h1 h2 h3 h4
 | cptr d b' o vs h1 h2 ih=>
  obtain ⟨p1,p2⟩:=pr (id:=id) (c:=c) d
  have back:∀(j:Nat) (d':AV),(ab (AL.pubV id c d))[j]?=some d'→∃d0,(ab d)[j]?=some d0/\d'=AL.pubV id c d0:=by
   intro j d' hd'
   have hj:j < (ab d).length:=by
    rw [←p1]
    rcases Nat.lt_or_ge j (ab (AL.pubV id c d)).length with k | k
    ·exact k
    ·rw [List.getElem?_eq_none k] at hd';cases hd'
   have:=p2 j _ (List.getElem?_eq_getElem hj)
   rw [hd'] at this
   exact ⟨_,List.getElem?_eq_getElem hj,Option.some.inj this⟩
  refine .cptr _ b' o vs (fun j d' hd'=>?_) (fun j d' hd'=>?_)
  ·obtain ⟨d0,q1,_⟩:=back j d' hd'
   exact h1 j d0 q1
  ·obtain ⟨d0,q1,rfl⟩:=back j d' hd'
   exact ih j d0 q1
 | agg cs vs hl _ ih=>
  obtain ⟨q1,q2⟩:=many hl ih
  exact .agg _ vs q1 q2
 | tup cs vs hl _ ih=>
  obtain ⟨q1,q2⟩:=many hl ih
  exact .tup _ vs q1 q2
 | fn f cs vs hl _ ih=>
  obtain ⟨q1,q2⟩:=many hl ih
  exact .fn f _ vs q1 q2
 | iface t a v _ ih=>exact .iface t _ v ih
 | undef v=>exact .undef v
 | int k n h1 h2=>exact .int k n h1 h2
 | bool b=>exact .bool b
 | str s h=>exact .str s h
 | lstNil τ o ht=>exact .lstNil τ o ht
 | lstVoid τ a=>exact .lstVoid τ a
 | lst τ xs o b' off' cap vals' h1 h2 h3 h4 h5 _=>exact .lst τ xs o b' off' cap vals' h1 h2 h3 h4 h5
 | nils=>exact .nils
 | nilp=>exact .nilp
 | ptNone n=>exact .ptNone n
 | ptSome n x v hv _=>exact .ptSome n x v hv
 | aptr i n w o b' p len he=>exact .aptr i n w o b' p len he
 | map i r he=>exact .map i r he
 | bptr i b g he=>exact .bptr i b g he
 | nilif=>exact .nilif
 | nilm=>exact .nilm
 | lstp τ xs k b' off' cap vals' h1 h2 h3 h4 h5 _=>exact .lstp τ xs k b' off' cap vals' h1 h2 h3 h4 h5
 | tptr τ n k p hp=>exact .tptr τ n k p hp
 | st n x v hv _=>exact .st n x v hv
end
theorem lO (f:AV→AV) (hf:f .undef=.undef):∀(l:List (Nat × AV)) (i:Nat),aS (l.map fun x=>(x.1,f x.2)) i=f (aS l i)
 | [],i=>hf.symm
 | (j,v) ::r,i=>by
  simp only [List.map_cons,cY,cE,lO f hf r i]
  by_cases h:j=i <;> simp [h]
theorem jB (f:SObj→SObj):∀(l:List (Nat × SObj)) (i:Nat),ak (l.map fun x=>(x.1,f x.2)) i=(ak l i).map f
 | [],i=>rfl
 | (j,v) ::r,i=>by
  simp only [List.map_cons,aM,aF,jB f r i]
  by_cases h:j=i <;> simp [h]
theorem xF {F:Fr} {s s':St} {a:Act} {Ω:Om} {id:Nat} (h:Holds F s.abs a Ω) (hp:GO id s=some s'):∃Ω',Ω'.w=Ω.w/\Holds F s'.abs a Ω':=by
 unfold GO at hp
 split at hp
 ·rename_i c hb
  simp only at hp
  split at hp
  ·rename_i hck
   simp only [Bool.and_eq_true,Bool.not_eq_true'] at hck
   obtain ⟨⟨hnn,hcid⟩,hnl⟩:=hck
   simp only [Xs] at hp
   subst hp
   simp only [de,Bool.and_eq_true,List.all_eq_true] at hnn
   obtain ⟨b,off,e1,e2⟩:=h.slots id _ hb
   let Ω1:Om:=⟨Ω.e,Ω.w,fun b' o=>Ω.pub b' o∨(b'=b/\off<=o/\o < off+(ab c).length)⟩
   have hx1:Ext Ω Ω1:=⟨fun i c hc=>⟨c,hc,CLe.refl c⟩,fun _ _ p=>Or.inl p,fun _ _ _=>rfl⟩
   have hfast:Fast Ω1 id c b off (fun j=>(Ω.w.cell? ⟨b,off+j,none⟩).getD undef):=by
    refine ⟨e1,fun j c' hc=>?_⟩
    obtain ⟨k1,k2,k3,v,k4,k5⟩:=e2 j c' hc
    have hj:j < (ab c).length:=by
     rcases Nat.lt_or_ge j (ab c).length with k | k
     ·exact k
     ·rw [List.getElem?_eq_none k] at hc;cases hc
    refine ⟨Or.inr ⟨rfl,by omega,by omega⟩,?_,?_⟩
    ·show Ω.w.cell? _=_
     rw [k4];rfl
    ·simp only [k4,Option.getD_some]
     exact k5.ext hx1
   have hag:∀{x:AV} {v:Value},V Ω1 x v→(∀i∈ids x,i≠id)→V ⟨fun i=>if i=id then none else Ω.e i,Ω1.w,Ω1.pub⟩ x v:=
    fun hv hi=>V.agree hv (fun i him=>by simp [hi i him,Ω1])
   have hin:∀b' o,(b'=b/\off<=o/\o < off+(ab c).length)→occ (.box b off (ab c).length) b' o:=fun b' o k=>k
   refine ⟨⟨fun i=>if i=id then none else Ω.e i,Ω.w,Ω1.pub⟩,rfl,⟨fun i=>?_,h.size,h.defers,fun id' o ho=>?_,fun id' hid=>?_,fun i j ci cj b' o hi hj=>?_,fun b' o hp=>?_,fun i x hx=>?_,?_⟩⟩
   ·simp only [St.abs]
    have e:=lO (pubV id c) rfl s.t i
    rw [e]
    refine hag (V.pubV hfast ((h.tmps i).ext hx1)) (fun k hk=>?_)
    rcases lM s.t i with hu | hm
    ·rw [hu] at hk;simp [pubV,ids] at hk
    ·have:=fZ (hnn.1 (i,pubV id c (aS s.t i)) (List.mem_map.2 ⟨_,hm,rfl⟩)) k hk
     simpa using this
   ·simp only [St.abs] at ho
    have e:=jB (D6 id c) (s.b.filter fun x=>!(x.1 ==id)) id'
    rw [e] at ho
    have e':=gK s.b (fun i=>!(i ==id)) id'
    rw [e'] at ho
    by_cases hid:id'=id
    ·subst hid;simp at ho
    ·simp only [beq_iff_eq,hid,Bool.not_false,if_true,Option.map_eq_some_iff] at ho
     rw [if_pos (by simp [hid])] at ho
     obtain ⟨o0,ho0,rfl⟩:=ho
     have hs:=h.slots id' o0 ho0
     have apart:∀c0,Ω.e id'=some c0→∀b' o,occ c0 b' o→¬(b'=b/\off<=o/\o < off+(ab c).length):=by
      intro c0 hc0 b' o hoc hk
      exact hid (h.inj id' id c0 _ b' o hc0 e1 hoc (hin b' o hk))
     cases o0 with
     | box d=>
      obtain ⟨b2,off2,g1,g2⟩:=hs
      obtain ⟨p1,p2⟩:=pr (id:=id) (c:=c) d
      refine ⟨b2,off2,by simp only [if_neg hid];rw [g1,p1],fun j d' hd'=>?_⟩
      have hj:j < (ab d).length:=by
       rw [←p1]
       rcases Nat.lt_or_ge j (ab (pubV id c d)).length with k | k
       ·exact k
       ·rw [List.getElem?_eq_none k] at hd';cases hd'
      have hd2:=p2 j _ (List.getElem?_eq_getElem hj)
      rw [hd'] at hd2
      obtain ⟨m1,m2,m3,v,m4,m5⟩:=g2 j _ (List.getElem?_eq_getElem hj)
      refine ⟨m1,fun hp=>?_,m3,v,m4,?_⟩
      ·rcases hp with hp | hp
       ·exact m2 hp
       ·exact apart _ g1 b2 (off2+j) ⟨rfl,by omega,by omega⟩ hp
      ·rw [Option.some.inj hd2]
       refine hag (V.pubV hfast (m5.ext hx1)) (fun k hk=>?_)
       have hmem:(id',D6 id c (.box d))∈((s.b.filter fun x=>!(x.1 ==id)).map fun x=>(x.1,D6 id c x.2)):=
        List.mem_map.2 ⟨(id',.box d),List.mem_filter.2 ⟨ck _ _ _ ho0,by simp [hid]⟩,rfl⟩
       have:=fZ (hnn.2 _ hmem) k (mF (c:=pubV id c d) (by rw [←Option.some.inj hd2];exact hd') k hk)
       simpa using this
     | tail τ n=>
      obtain ⟨base,cap,g1,g2,g3,g4,g5⟩:=hs
      refine ⟨base,cap,by simp only [if_neg hid];exact g1,g2,g3,g4,fun b2 hb2=>?_⟩
      obtain ⟨m1,vs,ty,fz,m2,m3,m4,m5⟩:=g5 b2 hb2
      refine ⟨m1,vs,ty,fz,m2,m3,m4,fun o ho hp=>?_⟩
      rcases hp with hp | hp
      ·exact m5 o ho hp
      ·exact apart _ g1 b2 o hb2 hp
     | map κ τ m=>
      obtain ⟨r,g1,g2,es,clock,g3,g4⟩:=hs
      exact ⟨r,by simp only [if_neg hid];exact g1,g2,es,clock,g3,(g4.ext hx1).data⟩
     | bld t u l=>
      obtain ⟨b2,g,g1,g2,g3⟩:=hs
      refine ⟨b2,g,by simp only [if_neg hid];exact g1,fun b3 hb3 o=>⟨(g2 b3 hb3 o).1,fun hp=>?_⟩,g3⟩
      rcases hp with hp | hp
      ·exact (g2 b3 hb3 o).2 hp
      ·exact apart _ g1 b3 o hb3 hp
     | tailp τ n x=>
      obtain ⟨b2,cap,g1,g2,g3,g4,g5,g6,g7⟩:=hs
      refine ⟨b2,cap,by simp only [if_neg hid];exact g1,g2,g3,g4,g5,fun o ho hp=>?_,fun j c' hc=>?_⟩
      ·rcases hp with hp | hp
       ·exact g6 o ho hp
       ·exact apart _ g1 b2 o rfl hp
      ·obtain ⟨v,k1,k2⟩:=g7 j c' hc
       refine ⟨v,k1,hag (k2.ext hx1) (fun i hi=>?_)⟩
       have:=dq hc i hi
       rw [eX] at this
       cases this
   ·simp only [St.abs] at hid
    by_cases hii:id'=id
    ·simp [hii]
    ·have e:=jB (D6 id c) (s.b.filter fun x=>!(x.1 ==id)) id'
     rw [e] at hid
     have e':=gK s.b (fun i=>!(i ==id)) id'
     rw [e',if_pos (by simp [hii])] at hid
     simp only [if_neg hii]
     exact h.dom id' (by show ak s.b id'=none;simpa using hid)
   ·intro h1 h2
    simp only at hi hj
    split at hi
    ·cases hi
    ·split at hj
     ·cases hj
     ·exact h.inj i j ci cj b' o hi hj h1 h2
   ·rcases hp with hp | ⟨rfl,hp1,hp2⟩
    ·exact h.pubok b' o hp
    ·have hj:o - off < (ab c).length:=by omega
     obtain ⟨_,_,_,v,hv,_⟩:=e2 (o - off) _ (List.getElem?_eq_getElem hj)
     exact ⟨v,by rw [show off+(o - off)=o by omega] at hv;exact hv⟩
   ·have hl:=F.dom0 i x hx
    have hne:i≠id:=fun e=>by subst e;rw [hnl] at hl;cases hl
    obtain ⟨x',q1,q2⟩:=h.keep i x hx
    exact ⟨x',by simp only [if_neg hne];exact q1,q2⟩
   ·refine ⟨h.frame.os,h.frame.tape,h.frame.output,h.frame.size,h.frame.block,h.frame.cell,h.frame.kind,fun b' o hp=>?_,fun b' o hp=>Or.inl (h.frame.old b' o hp),h.frame.pcell⟩
    rcases hp with hp | ⟨rfl,hp1,hp2⟩
    ·exact h.frame.pub b' o hp
    ·have hj:o - off < (ab c).length:=by omega
     have:=(e2 (o - off) _ (List.getElem?_eq_getElem hj)).1
     rw [show off+(o - off)=o by omega] at this
     exact Or.inr this
  ·cases hp
 ·cases hp
theorem iU {F:Fr} {a:Act}:∀(l:List Nat) {s s':St} {Ω:Om},Holds F s.abs a Ω→mu l s=some s'→∃Ω',Ω'.w=Ω.w/\Holds F s'.abs a Ω'
 | [],s,s',Ω,h,hp=>by simp [mu] at hp;subst hp;exact ⟨Ω,rfl,h⟩
 | i ::r,s,s',Ω,h,hp=>by
  simp only [mu] at hp
  split at hp
  ·rename_i s1 h1
   obtain ⟨Ω1,e1,k1⟩:=xF h h1
   obtain ⟨Ω2,e2,k2⟩:=iU r k1 hp
   exact ⟨Ω2,e2.trans e1,k2⟩
  ·cases hp
end Go.AL
end
noncomputable section
namespace Go.AL
theorem mH {K V:Type} [DecidableEq K]:∀(m:List (K × V)) (k k':K) (v:V),dJ (jl m k v) k'=if k'=k then some v else dJ m k'
 | [],k,k',v=>by simp [jl,dJ]
 | (a,u) ::r,k,k',v=>by
  simp only [jl]
  by_cases h:k=a
  ·subst h
   rw [if_pos rfl]
   by_cases h':k'=k <;> simp [dJ,h']
  ·rw [if_neg h]
   simp only [dJ,mH r k k' v]
   by_cases h1:k'=a
   ·subst h1
    simp [Ne.symm h]
   ·simp [h1]
variable [Tabs]
open Go.ChangeMaps (setBlock)
theorem Holds.aside {F:Fr} {s:AS} {a:Act} {Ω:Om} (h:Holds F s a Ω) {w':World} {r:Nat} (os:w'.os=Ω.w.os) (tape:w'.tape=Ω.w.tape) (output:w'.output=Ω.w.output) (size:Ω.w.heap.size<=w'.heap.size)
  (hb:∀b,b < Ω.w.heap.size→b≠r→w'.heap[b]?=Ω.w.heap[b]?) (hr:F.w0.heap.size<=r) (hnp:∀o,¬Ω.pub r o) (hno:∀id c o,Ω.e id=some c→¬occ c r o):Holds F s a ⟨Ω.e,w',Ω.pub⟩:=by
 have pne:∀b o,Ω.pub b o→b < Ω.w.heap.size/\b≠r:=fun b o hp=>⟨let ⟨_,hv⟩:=h.pubok b o hp;aE hv,fun e=>hnp o (e ▸ hp)⟩
 have hx:Ext Ω ⟨Ω.e,w',Ω.pub⟩:=⟨fun _ c hc=>⟨c,hc,CLe.refl c⟩,fun _ _ p=>p,fun b o p=>ah (hb b (pne b o p).1 (pne b o p).2) o⟩
 have old:∀b,b < F.w0.heap.size→w'.heap[b]?=Ω.w.heap[b]?:=fun b hlt=>hb b (Nat.lt_of_lt_of_le hlt h.frame.size) (by omega)
 refine ⟨fun i=>(h.tmps i).ext hx,h.size,h.defers,fun id o ho=>(h.slots id o ho).keep hx rfl (fun c hc=>kN.of_blocks fun b o hbo=>⟨hb b (h.blk hc hbo) (fun e=>hno id c o hc (e ▸ hbo)),fun _ p=>p⟩),h.dom,h.inj,
  fun b o p=>let ⟨v,hv⟩:=h.pubok b o p;⟨v,by rw [←hv];exact hx.cell b o p⟩,h.keep,?_⟩
 refine ⟨os.trans h.frame.os,tape.trans h.frame.tape,output.trans h.frame.output,Nat.le_trans h.frame.size size,fun b hlt hn=>(old b hlt).trans (h.frame.block b hlt hn),fun b o hlt hn=>(ah (old b hlt) o).trans (h.frame.cell b o hlt hn),
  fun b hlt hn=>⟨(aR (old b hlt)).trans (h.frame.kind b hlt hn).1,fun o=>(aK (old b hlt) o).trans ((h.frame.kind b hlt hn).2 o)⟩,h.frame.pub,h.frame.old,fun b o p=>(hx.cell b o (h.frame.old b o p)).trans (h.frame.pcell b o p)⟩
theorem Holds.weak {F:Fr} {s s':AS} {a:Act} {Ω:Om} (h:Holds F s a Ω) (hT:∀i,s'.T i=.undef∨s'.T i=s.T i) (hB:s'.B=s.B):Holds F s' a Ω:=
 ⟨fun i=>by
  rcases hT i with e | e
  ·rw [e];exact .undef _
  ·rw [e];exact h.tmps i,h.size,h.defers,by rw [hB];exact h.slots,by rw [hB];exact h.dom,h.inj,h.pubok,h.keep,h.frame⟩
theorem nv {K V:Type} [DecidableEq K]:∀(m:List (K × V)) (k:K),(dJ m k).isSome=true↔∃x∈m,x.1=k
 | [],k=>by simp [dJ]
 | (a,u) ::r,k=>by
  simp only [dJ]
  by_cases h:k=a
  ·subst h;simp
  ·rw [if_neg h,nv r k]
   constructor
   ·rintro ⟨x,hx,e⟩;exact ⟨x,by simp [hx],e⟩
   ·rintro ⟨x,hx,e⟩
    rcases List.mem_cons.1 hx with rfl | hx
    ·exact absurd e.symm h
    ·exact ⟨x,hx,e⟩
section
variable {P:Program} {C:Cfg} {F:Fr}
theorem cm {ops:Array Oper} {Q:Exit→Act→World→Prop} {i:Nat} {rest:List Nat} {o:Oper} {a:Act} {w:World} (hi:ops[i]?=some o) (hg:o.guard=none)
  (h:o.wp P a w (wpOps P ops Q rest) Q):wpOps P ops Q (i ::rest) a w:=by
 unfold wpOps
 rw [hi]
 have:Region.wanted o (yielded ops a.tmps)=true:=by unfold Region.wanted;rw [hg]
 simp only [this,if_true]
 exact .inl h
structure KLcode (L:KL) (a b:Code):Prop where
 code:∃i1 i2 i3 i4 x y ty1 ps1 af1 ty2 ps2 af2 ty3 ps3 af3 ty4 ps4 af4 ty5 ps5 af5 ty6 ps6 af6 ty7 ps7 af7 ty8 ps8 af8 ty9 ps9 af9 ty10 ps10 af10,
  a=.region i1 #[⟨some L.m1,.move L.src,ty1,ps1,af1,none⟩,⟨some L.it,.range L.t (.tmp L.m1),ty2,ps2,af2,none⟩] false/\
  b=.block x (.loop (.seq (.region i2 #[⟨some L.nx,.next (.tmp L.it) false,ty3,ps3,af3,none⟩,⟨some L.c,.extract (.tmp L.nx) 0,ty4,ps4,af4,none⟩] false) (.seq (.cond (.tmp L.c) .skip (.exit x)) (.block y (.seq
   (.region i3 #[⟨some L.en,.entry (.tmp L.it),ty5,ps5,af5,none⟩,⟨some L.k1,.extract (.tmp L.en) 0,ty6,ps6,af6,none⟩,⟨some L.kv,.assign (.tmp L.k1),ty7,ps7,af7,none⟩] false)
   (.region i4 #[⟨some L.d1,.move (.tmp L.dst),ty8,ps8,af8,none⟩,⟨some L.k2,.move (.tmp L.kv),ty9,ps9,af9,none⟩,⟨none,.mapUpdate L.t2 (.tmp L.d1) (.tmp L.k2) (.const (.int .i64 L.n)),ty10,ps10,af10,none⟩] false))))))
 rng:okC .i64 L.n=true
 dis:aX [L.m1,L.it,L.nx,L.c,L.en,L.k1,L.kv,L.d1,L.k2,L.dst]=true
theorem Bf {a b:Code} {L:KL} (h:oQ a b=some L):KLcode L a b:=by
 unfold oQ at h
 split at h
 ·rename_i i1 r1 x i2 r2 c x2 y i3 r3 i4 r4
  split at h
  ·rename_i h1 h2 h3 h4
   split at h
   ·rename_i hc
    simp only [Bool.and_eq_true,beq_iff_eq] at hc
    obtain ⟨⟨⟨⟨⟨⟨⟨⟨⟨⟨⟨⟨rfl,rfl⟩,rfl⟩,rfl⟩,rfl⟩,rfl⟩,rfl⟩,rfl⟩,rfl⟩,rfl⟩,rfl⟩,hr⟩,hd⟩:=hc
    simp only [Xs] at h
    subst h
    have e1:=congrArg List.toArray h1
    have e2:=congrArg List.toArray h2
    have e3:=congrArg List.toArray h3
    have e4:=congrArg List.toArray h4
    simp only [Array.toArray_toList] at e1 e2 e3 e4
    subst e1 e2 e3 e4
    exact ⟨⟨_,_,_,_,_,_,_,_,_,_,_,_,_,_,_,_,_,_,_,_,_,_,_,_,_,_,_,_,_,_,_,_,_,_,_,_,rfl,rfl⟩,hr,hd⟩
   ·cases h
  ·cases h
 ·cases h
theorem bZ {a:Act} {n d i:Nat} {v:Value} (hs:a.tmps.size=n) (hd:d < n):(a.put (some d) v).tmps.getD i undef=if d=i then v else a.tmps.getD i undef:=by
 simp only [Act.put]
 by_cases h:d=i
 ·subst h;rw [if_pos rfl];simp [Array.getD_eq_getD_getElem?,hs,hd]
 ·rw [if_neg h];simp [Array.getD_eq_getD_getElem?,h]
structure KInv (F:Fr) (L:KL) (s:St) (i j bm r:Nat) (es:Array MapEntry) (clock:Nat) (md:List (Str × Int)) (seen:Array Nat) (a:Act) (Ω:Om) (d:List (Str × Int)):Prop where
 hh:Holds F ⟨fun k=>if L.wr.contains k then .undef else aS s.t k,fun k=>if j=k then some (.map .str (.int .i64) d) else ak s.b k⟩ a Ω
 it:a.tmps.getD L.it undef=.pointer (some ⟨r,0,none⟩)
 iter:∃c0,clock<=c0/\Ω.w.heap[r]?=some (.mapIter (some bm) clock seen c0)
 map:Ω.w.heap[bm]?=some (.map es clock)
 own:F.w0.heap.size<=r
 np:∀o,¬Ω.pub r o
 no:∀id c o,Ω.e id=some c→¬occ c r o
 ei:Ω.e i=some (.obj bm)
 ne:i≠j
 yes:∀k,(∃e∈es.toList,e.key=.string ⟨k.toArray⟩/\seen.contains e.born=true)→dJ d k=some L.n
 not:∀k,(¬∃e∈es.toList,e.key=.string ⟨k.toArray⟩/\seen.contains e.born=true)→dJ d k=dJ md k
theorem Bg {es:Array MapEntry} {seen:Array Nat} {e:MapEntry} (he:e∈(leftOf es seen).toList):(leftOf es (seen.push e.born)).size < (leftOf es seen).size:=by
 unfold leftOf at he ⊢
 have key:∀p:MapEntry→Bool,(es.filter p).size=(es.toList.filter p).length:=fun p=>congrArg List.length Array.toList_filter
 rw [key,key]
 simp only [Array.toList_filter,List.mem_filter,Bool.not_eq_true'] at he
 exact filter_lt (fun x=>!seen.contains x.born) (fun x=>!(seen.push e.born).contains x.born) (fun x hx=>by
  simp only [Bool.not_eq_true'] at hx ⊢
  rw [Array.contains_push,Bool.or_eq_false_iff] at hx
  first | exact hx.1 | exact hx.2) e (by simpa using he.2) (by simp) es.toList he.1
theorem KInv.done {L:KL} {s:St} {i j bm r:Nat} {es:Array MapEntry} {clock:Nat} {md:List (Str × Int)} {seen:Array Nat} {a:Act} {Ω:Om} {d:List (Str × Int)} {τ:Ty} {m:List (Str × den τ)}
  (hK:KInv F L s i j bm r es clock md seen a Ω d) (hm:ak s.b i=some (.map .str τ m)) (h0:(leftOf es seen).size=0)
  {a':Act} (h':Holds F ⟨fun k=>if L.wr.contains k then .undef else aS s.t k,fun k=>if j=k then some (.map .str (.int .i64) d) else ak s.b k⟩ a' Ω) :
  Holds F (St.abs ⟨s.t.filter fun x=>!L.wr.contains x.1,nR s.b j (.map .str (.int .i64) d)⟩) a' Ω/\(d.map (·.1)).Nodup/\(∀k,dJ d k=if (dJ m k).isSome=true then some L.n else dJ md k):=by
 refine ⟨?_,?_,fun k=>?_⟩
 ·have e1:(fun k=>if L.wr.contains k then AV.undef else aS s.t k)=aS (s.t.filter fun x=>!L.wr.contains x.1):=by
   funext k
   rw [gJ s.t (fun i=>!L.wr.contains i) k]
   cases L.wr.contains k <;> simp
  have e2:(fun k=>if j=k then some (SObj.map .str (.int .i64) d) else ak s.b k)=ak (nR s.b j (.map .str (.int .i64) d)):=by
   funext k
   rw [fY]
  have h2:=h'
  rw [e1,e2] at h2
  exact h2
 ·obtain ⟨_,_,_,_,_,_,hm⟩:=h'.slots j (.map .str (.int .i64) d) (by simp)
  exact hm.keys
 ·obtain ⟨r',k1,_,es',clock',k3,k4⟩:=hK.hh.slots i (.map .str τ m) (by simp only [if_neg (Ne.symm hK.ne)];exact hm)
  rw [hK.ei] at k1
  cases k1
  rw [hK.map] at k3
  cases k3
  have all:∀e∈es.toList,seen.contains e.born=true:=by
   intro e he
   rcases Bool.eq_false_or_eq_true (seen.contains e.born) with h | h
   ·exact h
   ·have:e∈(leftOf es seen).toList:=by unfold leftOf;simp only [Array.toList_filter,List.mem_filter];exact ⟨he,by rw [h];rfl⟩
    rw [←Array.length_toList] at h0
    rw [List.length_eq_zero_iff.1 h0] at this
    cases this
  have key:(dJ m k).isSome=true↔∃e∈es.toList,e.key=.string ⟨k.toArray⟩/\seen.contains e.born=true:=by
   rw [nv]
   constructor
   ·rintro ⟨x,hx,rfl⟩
    obtain ⟨q,hq⟩:=List.getElem?_of_mem hx
    have hl:q < es.size:=by
     rw [k4.size]
     rcases Nat.lt_or_ge q m.length with h | h
     ·exact h
     ·rw [List.getElem?_eq_none h] at hq;cases hq
    have hv:=(k4.ent q es[q] x (Array.getElem?_eq_getElem hl) hq).1
    have hmem:es[q]∈es.toList:=by simp
    exact ⟨es[q],hmem,V.str_inv hv |>.1,all _ hmem⟩
   ·rintro ⟨e,he,hk,_⟩
    obtain ⟨q,hq⟩:=List.getElem?_of_mem he
    rw [Array.getElem?_toList] at hq
    have hl:q < m.length:=by
     rw [←k4.size]
     rcases Nat.lt_or_ge q es.size with h | h
     ·exact h
     ·rw [Array.getElem?_eq_none h] at hq;cases hq
    have hv:=(k4.ent q e m[q] hq (List.getElem?_eq_getElem hl)).1
    refine ⟨m[q],List.getElem_mem hl,?_⟩
    have:=(V.str_inv hv).1
    rw [hk] at this
    simp at this
    exact this.symm
  by_cases h:(dJ m k).isSome=true
  ·rw [if_pos h];exact hK.yes k (key.1 h)
  ·rw [if_neg h];exact hK.not k (fun e=>h (key.2 e))
theorem xG (hT:aT P C.tbl) {x y:Code} {L:KL} (hL:oQ x y=some L) {s:St} {Q:SX→St→Prop} {a:Act} {Ω:Om} (h:D9 C L s Q) (hds:bu F.n (.seq x y)=true) (hh:Holds F s.abs a Ω) :
  (Code.seq x y).wp P (fun e a' w'=>e=.normal/\∃s' Ω',Ω'.w=w'/\Holds F s'.abs a' Ω'/\Q .normal s') a Ω.w:=by
 obtain ⟨⟨i1,i2,i3,i4,bx,by_,ty1,ps1,af1,ty2,ps2,af2,ty3,ps3,af3,ty4,ps4,af4,ty5,ps5,af5,ty6,ps6,af6,ty7,ps7,af7,ty8,ps8,af8,ty9,ps9,af9,ty10,ps10,af10,rfl,rfl⟩,hrng,hdis⟩:=Bf hL
 have hnd:¬L.wr.contains L.dst=true:=by
  intro hc
  simp only [KL.wr,List.contains_eq_mem,List.mem_cons,List.not_mem_nil,or_false,decide_eq_true_eq] at hc
  clear hL hh h hds
  rcases hc with e | e | e | e | e | e | e | e | e <;> rw [e] at hdis <;> simp [aX] at hdis
 have hne:L.nx≠L.it/\L.c≠L.it/\L.en≠L.it/\L.k1≠L.it/\L.kv≠L.it/\L.d1≠L.it/\L.k2≠L.it/\L.d1≠L.kv/\L.d1≠L.k2:=by
  clear hL hh h hds
  simp [aX] at hdis
  refine ⟨?_,?_,?_,?_,?_,?_,?_,?_,?_⟩ <;> (intro e;simp_all)
 simp [bu] at hds
 obtain ⟨⟨d1,d2⟩,⟨d3,d4⟩,⟨d5,d6,d7⟩,d8,d9⟩:=hds
 unfold D9 at h
 split at h
 ·rename_i i j hsrc hdst
  split at h
  ·rename_i τ m d0 kt0 e0 _ _ _ _ kt e1 _ _ _ _ hbi hbj ht1 ht2
   split at h
   ·rename_i rk hrk
    split at h
    ·rename_i hc
     simp only [Bool.and_eq_true,Bool.not_eq_true',beq_eq_false_iff_ne,ne_eq] at hc
     obtain ⟨hko,hij⟩:=hc
     have hv:=b5 hh L.src
     rw [show opd s.abs.T L.src=.map i from hsrc] at hv
     generalize hsv:a.eval L.src=sv at hv
     cases hv with
     | map _ bm hei=>
      obtain ⟨r',g1,g2,es,clock,g3,g4⟩:=hh.slots i _ hbi
      rw [hei] at g1
      cases g1
      obtain ⟨dd,u1,u2⟩:=aC hT ht1 rfl
      cases dd <;> simp [aH] at u2
      obtain ⟨rfl,rfl⟩:=u2
      refine wp_seq (wp_region ?_)
      show wpOps P _ _ [0,1] a Ω.w
      refine cm (o:=⟨some L.m1,.move L.src,ty1,ps1,af1,none⟩) rfl rfl (az (v:=.map (some bm)) (w':=Ω.w) (by simp [execOp,hsv]) ?_)
      have hsz:=hh.size
      have hm1:(a.put (some L.m1) (.map (some bm))).eval (.tmp L.m1)=.map (some bm):=by
       show (a.put (some L.m1) (.map (some bm))).tmps.getD L.m1 undef=_
       rw [bZ hsz d1,if_pos rfl]
      refine cm (o:=⟨some L.it,.range L.t (.tmp L.m1),ty2,ps2,af2,none⟩) rfl rfl (az (v:=.pointer (some ⟨Ω.w.heap.size,0,none⟩)) (w':=Ω.w.alloc (.mapIter (some bm) clock #[] clock)) (by simp [execOp,hm1,run_range_map Ω.w _ _ _ bm es clock u1 g3]) ?_)
      show (Code.block bx _).wp P _ _ _
      refine wp_block ?_
      have hT0:∀k,(if L.wr.contains k=true then AV.undef else aS s.t k)=.undef∨(if L.wr.contains k=true then AV.undef else aS s.t k)=bR (bR s.abs.T (some L.m1) .undef) (some L.it) .undef k:=by
       intro k
       by_cases hk:L.wr.contains k=true
       ·left;rw [if_pos hk]
       ·right
        simp only [KL.wr,List.contains_eq_mem,List.mem_cons,List.not_mem_nil,or_false,decide_eq_true_eq,not_or] at hk
        rw [if_neg (by simp [KL.wr];exact hk)]
        simp only [bR]
        rw [if_neg (Ne.symm hk.2.1),if_neg (Ne.symm hk.1)]
        rfl
      have hB0:(fun k=>if j=k then some (SObj.map .str (.int .i64) d0) else ak s.b k)=s.abs.B:=by
       funext k
       by_cases hjk:j=k
       ·subst hjk;rw [if_pos rfl];exact hbj.symm
       ·rw [if_neg hjk];rfl
      have hK0:KInv F L s i j bm Ω.w.heap.size es clock d0 #[] ((a.put (some L.m1) (.map (some bm))).put (some L.it) (.pointer (some ⟨Ω.w.heap.size,0,none⟩))) ⟨Ω.e,Ω.w.alloc (.mapIter (some bm) clock #[] clock),Ω.pub⟩ d0:=by
       have hp1:=hh.pure (dst:=some L.m1) (val:=.undef) (v:=.map (some bm)) (.undef _) (fun d e=>by cases e;exact d1)
       have hp2:=hp1.pure (dst:=some L.it) (val:=.undef) (v:=.pointer (some ⟨Ω.w.heap.size,0,none⟩)) (.undef _) (fun d e=>by cases e;exact d2)
       have nopub:∀o,¬Ω.pub Ω.w.heap.size o:=fun o hp=>by
        obtain ⟨v,hv⟩:=hh.pubok _ o hp
        have:=aE hv
        omega
       have noocc:∀id c o,Ω.e id=some c→¬occ c Ω.w.heap.size o:=fun id c o hc ho=>by
        have:=hh.blk hc ho
        omega
       have hbm:=cq g3
       refine ⟨?_,?_,⟨clock,Nat.le_refl _,heap_alloc_new _ _⟩,by rw [←g3];exact heap_alloc_old _ _ hbm,hh.frame.size,nopub,noocc,hei,hij,fun k ⟨e,_,_,he⟩=>by simp at he,fun k _=>rfl⟩
       ·rw [hB0]
        exact (hp2.weak (s':=⟨fun k=>if L.wr.contains k then .undef else aS s.t k,s.abs.B⟩) hT0 rfl).aside (r:=Ω.w.heap.size) rfl rfl rfl (by show _<=(Ω.w.heap.push _).size;simp) (fun b hb _=>heap_alloc_old _ _ hb) hh.frame.size nopub noocc
       ·rw [bZ (by simp [Act.put,hsz]) d2,if_pos rfl]
      generalize Ω.w.heap.size=r at hK0 ⊢
      refine wp_loop_ghost (fun n a w=>∃seen d Ω,Ω.w=w/\KInv F L s i j bm r es clock d0 seen a Ω d/\(leftOf es seen).size=n) _ ⟨_,_,_,rfl,hK0,rfl⟩ ?_
      intro n a1 w1 hI
      obtain ⟨seen,d,Ω1,rfl,hK,rfl⟩:=hI
      obtain ⟨c0,hc0,hit⟩:=hK.iter
      have hz1:=hK.hh.size
      obtain ⟨rb,k1,_,es',clock',k3,k4⟩:=hK.hh.slots i (.map .str τ m) (by simp only [if_neg (Ne.symm hij)];exact hbi)
      rw [hK.ei] at k1
      cases k1
      rw [hK.map] at k3
      cases k3
      have hold:∀e∈es.toList,e.born < clock:=fun e he=>by
       obtain ⟨q,hq⟩:=List.getElem?_of_mem he
       exact k4.born q e (by rw [←Array.getElem?_toList];exact hq)
      have weakT:∀{a':Act} {Ω':Om} {T:Nat→AV} {dst:Option Nat},(∀d,dst=some d→L.wr.contains d=true)→Holds F ⟨bR (fun k=>if L.wr.contains k then .undef else aS s.t k) dst .undef,fun k=>if j=k then some (.map .str (.int .i64) d) else ak s.b k⟩ a' Ω'→
        Holds F ⟨fun k=>if L.wr.contains k then .undef else aS s.t k,fun k=>if j=k then some (.map .str (.int .i64) d) else ak s.b k⟩ a' Ω':=by
       intro a' Ω' T dst hd hh'
       refine hh'.weak (fun k=>?_) rfl
       cases dst with
       | none=>exact .inr rfl
       | some d'=>
        by_cases hk:d'=k
        ·subst hk;left;show (if _ then _ else _)=_;rw [if_pos (hd d' rfl)]
        ·right;simp only [bR,if_neg hk]
      have w_nx:L.wr.contains L.nx=true:=by simp [KL.wr]
      have w_c:L.wr.contains L.c=true:=by simp [KL.wr]
      have w_en:L.wr.contains L.en=true:=by simp [KL.wr]
      have w_k1:L.wr.contains L.k1=true:=by simp [KL.wr]
      have w_kv:L.wr.contains L.kv=true:=by simp [KL.wr]
      have putU:∀{a':Act} {Ω':Om} {t:Nat} (v:Value),L.wr.contains t=true→t < F.n→Holds F ⟨fun k=>if L.wr.contains k then .undef else aS s.t k,fun k=>if j=k then some (.map .str (.int .i64) d) else ak s.b k⟩ a' Ω'→
        Holds F ⟨fun k=>if L.wr.contains k then .undef else aS s.t k,fun k=>if j=k then some (.map .str (.int .i64) d) else ak s.b k⟩ (a'.put (some t) v) Ω':=
       fun v ht hl hh'=>weakT (T:=fun _=>.undef) (fun d e=>by cases e;exact ht) (hh'.pure (dst:=some _) (val:=.undef) (v:=v) (.undef _) (fun d e=>by cases e;exact hl))
      have hit':a1.eval (.tmp L.it)=.pointer (some ⟨r,0,none⟩):=hK.it
      rcases run_next_at (P:=P) Ω1.w ty3 r bm clock c0 seen es clock hit hK.map hold hc0 with ⟨h0,hrun⟩ | ⟨e,he,w2,hw2,hrun⟩
      ·refine wp_seq (wp_region ?_)
       show wpOps P _ _ [0,1] a1 Ω1.w
       refine cm (o:=⟨some L.nx,.next (.tmp L.it) false,ty3,ps3,af3,none⟩) rfl rfl (az (v:=.tuple #[.bool false]) (w':=Ω1.w) (by simp [execOp,hit',hrun]) ?_)
       have hnx:(a1.put (some L.nx) (.tuple #[.bool false])).eval (.tmp L.nx)=.tuple #[.bool false]:=by
        show (a1.put (some L.nx) _).tmps.getD L.nx undef=_
        rw [bZ hz1 d3,if_pos rfl]
       refine cm (o:=⟨some L.c,.extract (.tmp L.nx) 0,ty4,ps4,af4,none⟩) rfl rfl (az (v:=.bool false) (w':=Ω1.w) (by simp [execOp,hnx,Instr.extract]) ?_)
       have h1:=putU (.tuple #[.bool false]) w_nx d3 hK.hh
       have h2:=putU (.bool false) w_c d4 h1
       refine wp_seq (wp_cond (t:=false) (by show (Act.put _ (some L.c) _).tmps.getD L.c undef=_;rw [bZ h1.size d4,if_pos rfl]) (wp_exit ?_))
       simp only [Exit.then,Exit.inBlock,if_true]
       obtain ⟨q1,q2,q3⟩:=hK.done hbi h0 h2
       exact ⟨trivial,_,Ω1,rfl,q1,h d q2 q3⟩
      ·refine wp_seq (wp_region ?_)
       show wpOps P _ _ [0,1] a1 Ω1.w
       refine cm (o:=⟨some L.nx,.next (.tmp L.it) false,ty3,ps3,af3,none⟩) rfl rfl (az (v:=.tuple #[.bool true,e.key,e.val]) (w':=setBlock w2 r (.mapIter (some bm) clock (seen.push e.born) clock)) (by simp [execOp,hit',hrun]) ?_)
       have hnx:(a1.put (some L.nx) (.tuple #[.bool true,e.key,e.val])).eval (.tmp L.nx)=.tuple #[.bool true,e.key,e.val]:=by
        show (a1.put (some L.nx) _).tmps.getD L.nx undef=_
        rw [bZ hz1 d3,if_pos rfl]
       refine cm (o:=⟨some L.c,.extract (.tmp L.nx) 0,ty4,ps4,af4,none⟩) rfl rfl (az (v:=.bool true) (w':=setBlock w2 r (.mapIter (some bm) clock (seen.push e.born) clock)) (by simp [execOp,hnx,Instr.extract]) ?_)
       have hlt1:r < Ω1.w.heap.size:=cq hit
       have hwh:w2.heap=Ω1.w.heap:=by rcases hw2 with rfl | rfl <;> rfl
       have hoth:∀b,b≠r→(setBlock w2 r (.mapIter (some bm) clock (seen.push e.born) clock)).heap[b]?=Ω1.w.heap[b]?:=by
        intro b hb
        show (w2.heap.setIfInBounds r _)[b]?=_
        rw [hwh,Array.getElem?_setIfInBounds_ne (Ne.symm hb)]
       have hrr:(setBlock w2 r (.mapIter (some bm) clock (seen.push e.born) clock)).heap[r]?=some (.mapIter (some bm) clock (seen.push e.born) clock):=by
        show (w2.heap.setIfInBounds r _)[r]?=_
        rw [hwh]
        simp [hlt1]
       have hA:=hK.hh.aside (r:=r) (w':=setBlock w2 r (.mapIter (some bm) clock (seen.push e.born) clock)) (by rcases hw2 with rfl | rfl <;> rfl) (by rcases hw2 with rfl | rfl <;> rfl) (by rcases hw2 with rfl | rfl <;> rfl)
        (by show _<=(w2.heap.setIfInBounds r _).size;rw [hwh];simp) (fun b _ hb=>hoth b hb) hK.own hK.np hK.no
       have h1:=putU (.tuple #[.bool true,e.key,e.val]) w_nx d3 hA
       have h2:=putU (.bool true) w_c d4 h1
       refine wp_seq (wp_cond (t:=true) (by show (Act.put _ (some L.c) _).tmps.getD L.c undef=_;rw [bZ h1.size d4,if_pos rfl]) (wp_skip ?_))
       refine wp_block (wp_seq (wp_region ?_))
       have hes:e∈es.toList:=by
        unfold leftOf at he
        simp only [Array.toList_filter,List.mem_filter] at he
        exact he.1
       obtain ⟨q,hq⟩:=List.getElem?_of_mem hes
       rw [Array.getElem?_toList] at hq
       have hql:q < m.length:=by
        rw [←k4.size]
        exact (Array.getElem?_eq_some_iff.1 hq).1
       have hkv:V Ω1 (.str m[q].1) e.key:=(k4.ent q e m[q] hq (List.getElem?_eq_getElem hql)).1
       have hks:=(V.str_inv hkv).1
       have hbn:(es.toList.map (·.born)).Nodup:=by
        rw [List.nodup_iff_pairwise_ne,List.pairwise_map,List.pairwise_iff_getElem]
        intro u v hu hv huv
        have:=k4.rise u v es.toList[u] es.toList[v] (by rw [←Array.getElem?_toList];exact List.getElem?_eq_getElem hu) (by rw [←Array.getElem?_toList];exact List.getElem?_eq_getElem hv) huv
        omega
       have hbm3:=hoth bm (fun e=>by subst e;exact hK.no i _ 0 hK.ei rfl)
       have hen:=run_entry_at (P:=P) _ r bm clock seen es clock e hrr (hbm3.trans hK.map) hes hbn
       show wpOps P _ _ [0,1,2] _ _
       have hit2:((a1.put (some L.nx) (.tuple #[.bool true,e.key,e.val])).put (some L.c) (.bool true)).eval (.tmp L.it)=.pointer (some ⟨r,0,none⟩):=by
        show (Act.put _ (some L.c) _).tmps.getD L.it undef=_
        rw [bZ h1.size d4,if_neg hne.2.1,bZ hz1 d3,if_neg hne.1]
        exact hK.it
       refine cm (o:=⟨some L.en,.entry (.tmp L.it),ty5,ps5,af5,none⟩) rfl rfl (az (v:=.tuple #[e.key,e.val]) (w':=setBlock w2 r (.mapIter (some bm) clock (seen.push e.born) clock)) (by simp [execOp,hit2,hen]) ?_)
       have h3:=putU (.tuple #[e.key,e.val]) w_en d5 h2
       refine cm (o:=⟨some L.k1,.extract (.tmp L.en) 0,ty6,ps6,af6,none⟩) rfl rfl (az (v:=e.key) (w':=setBlock w2 r (.mapIter (some bm) clock (seen.push e.born) clock)) ?_ ?_)
       ·have:(Act.put ((a1.put (some L.nx) (.tuple #[.bool true,e.key,e.val])).put (some L.c) (.bool true)) (some L.en) (.tuple #[e.key,e.val])).eval (.tmp L.en)=.tuple #[e.key,e.val]:=by
         show (Act.put _ (some L.en) _).tmps.getD L.en undef=_
         rw [bZ h2.size d5,if_pos rfl]
        simp [execOp,this,Instr.extract]
       have h4:=putU e.key w_k1 d6 h3
       refine cm (o:=⟨some L.kv,.assign (.tmp L.k1),ty7,ps7,af7,none⟩) rfl rfl (az (v:=e.key) (w':=setBlock w2 r (.mapIter (some bm) clock (seen.push e.born) clock)) ?_ ?_)
       ·have:(Act.put (Act.put ((a1.put (some L.nx) (.tuple #[.bool true,e.key,e.val])).put (some L.c) (.bool true)) (some L.en) (.tuple #[e.key,e.val])) (some L.k1) e.key).eval (.tmp L.k1)=e.key:=by
         show (Act.put _ (some L.k1) _).tmps.getD L.k1 undef=_
         rw [bZ h3.size d6,if_pos rfl]
        simp [execOp,this]
       have h5:=putU e.key w_kv d7 h4
       generalize ha5:Act.put (Act.put (Act.put ((a1.put (some L.nx) (.tuple #[.bool true,e.key,e.val])).put (some L.c) (.bool true)) (some L.en) (.tuple #[e.key,e.val])) (some L.k1) e.key) (some L.kv) e.key=a5 at h5
       have hkv5:a5.tmps.getD L.kv undef=e.key:=by
        rw [←ha5,bZ h4.size d7,if_pos rfl]
       have hit5:a5.tmps.getD L.it undef=.pointer (some ⟨r,0,none⟩):=by
        rw [←ha5,bZ h4.size d7,if_neg hne.2.2.2.2.1,bZ h3.size d6,if_neg hne.2.2.2.1,bZ h2.size d5,if_neg hne.2.2.1]
        exact hit2
       have hdst5:=h5.tmps L.dst
       simp only [if_neg hnd,hdst] at hdst5
       show Code.wp P (.region i4 _ false) _ a5 _
       refine wp_region ?_
       show wpOps P _ _ [0,1,2] a5 _
       generalize hdv:a5.tmps.getD L.dst undef=dv at hdst5
       have hdv':a5.eval (.tmp L.dst)=dv:=hdv
       refine cm (o:=⟨some L.d1,.move (.tmp L.dst),ty8,ps8,af8,none⟩) rfl rfl (az (v:=dv) (w':=setBlock w2 r (.mapIter (some bm) clock (seen.push e.born) clock)) (by simp [execOp,hdv']) ?_)
       have hk2:(a5.put (some L.d1) dv).eval (.tmp L.kv)=e.key:=by
        show (a5.put (some L.d1) dv).tmps.getD L.kv undef=_
        rw [bZ h5.size d8,if_neg hne.2.2.2.2.2.2.2.1]
        exact hkv5
       refine cm (o:=⟨some L.k2,.move (.tmp L.kv),ty9,ps9,af9,none⟩) rfl rfl (az (v:=e.key) (w':=setBlock w2 r (.mapIter (some bm) clock (seen.push e.born) clock)) (by simp [execOp,hk2]) ?_)
       have hkv3:V ⟨Ω1.e,setBlock w2 r (.mapIter (some bm) clock (seen.push e.born) clock),Ω1.pub⟩ (.str m[q].1) e.key:=by
        rw [hks]
        exact .str _ (V.str_inv hkv).2
       have h6a:=h5.pure (dst:=some L.d1) (val:=.map j) (v:=dv) hdst5 (fun d e=>by cases e;exact d8)
       have h6:=h6a.pure (dst:=some L.k2) (val:=.str m[q].1) (v:=e.key) hkv3 (fun d e=>by cases e;exact d9)
       have hTd1:bR (bR (fun k=>if L.wr.contains k then AV.undef else aS s.t k) (some L.d1) (.map j)) (some L.k2) (.str m[q].1) L.d1=.map j:=by
        simp only [bR]
        rw [if_neg (Ne.symm hne.2.2.2.2.2.2.2.2),if_pos trivial]
       refine cm (o:=⟨none,.mapUpdate L.t2 (.tmp L.d1) (.tmp L.k2) (.const (.int .i64 L.n)),ty10,ps10,af10,none⟩) rfl rfl ?_
       refine pa hT (.inl rfl) h6 (fun d e=>by cases e) (eff:=⟨none,.undef,[(j,.map .str (.int .i64) (jl d m[q].1 L.n))]⟩) ?_ (fun a' Ω' hh' ha' hheap he' hpub'=>?_)
       ·simp only [au,iG,opd,hTd1,ht2,hrk,if_true]
        have:bR (bR (fun k=>if L.wr.contains k then AV.undef else aS s.t k) (some L.d1) (.map j)) (some L.k2) (.str m[q].1) L.k2=.str m[q].1:=by simp only [bR,if_true]
        rw [this]
        simp [lB,bM,hrng,arg,qB,asInt,gN,hko]
       ·cases hdst5 with
        | map _ rj hej=>
         have hej1:Ω1.e j=some (.obj rj):=hej
         have hhp:=hheap j hTd1 rj hej
         have hrj:r≠rj:=fun e=>hK.no j _ 0 hej1 e
         have hbj':bm≠rj:=fun e=>hij (hK.hh.inj i j _ _ bm 0 hK.ei hej1 rfl e)
         refine ⟨_,Bg he,seen.push e.born,jl d m[q].1 L.n,Ω',rfl,⟨?_,?_,⟨clock,Nat.le_refl _,(hhp r hrj).trans hrr⟩,(hhp bm hbj').trans (hbm3.trans hK.map),hK.own,fun o hp=>hK.np o ((hpub' r o).1 hp),
          fun id c o hc=>hK.no id c o (by rw [←he' id];exact hc),by rw [he' i];exact hK.ei,hij,fun k' hex=>?_,fun k' hex=>?_⟩,rfl⟩
         ·refine hh'.weak (fun k'=>?_) ?_
          ·by_cases hk:L.wr.contains k'=true
           ·left;exact if_pos hk
           ·right
            have n1:L.d1≠k':=fun e=>hk (by rw [←e];simp [KL.wr])
            have n2:L.k2≠k':=fun e=>hk (by rw [←e];simp [KL.wr])
            show _=bR (bR (fun k=>if L.wr.contains k then AV.undef else aS s.t k) (some L.d1) (.map j)) (some L.k2) (.str m[q].1) k'
            simp only [bR,if_neg n1,if_neg n2]
          ·funext k'
           show (if j=k' then _ else _)=(if j=k' then _ else (if j=k' then _ else _))
           by_cases hk:j=k'
           ·rw [if_pos hk,if_pos hk]
           ·rw [if_neg hk,if_neg hk,if_neg hk]
         ·rw [ha']
          show (Act.put _ (some L.k2) _).tmps.getD L.it undef=_
          rw [bZ h6a.size d9,if_neg hne.2.2.2.2.2.2.1,bZ h5.size d8,if_neg hne.2.2.2.2.2.1]
          exact hit5
         ·rw [mH]
          by_cases hkk:k'=m[q].1
          ·rw [if_pos hkk]
          ·rw [if_neg hkk]
           obtain ⟨f,hf1,hf2,hf3⟩:=hex
           rw [Array.contains_push,Bool.or_eq_true] at hf3
           have nb:f.born≠e.born:=by
            intro hb
            have q1:=find_born f es.toList hbn hf1
            have q2:=find_born e es.toList hbn hes
            rw [hb,q2] at q1
            cases q1
            rw [hks] at hf2
            simp at hf2
            exact hkk hf2.symm
           refine hK.yes k' ⟨f,hf1,hf2,?_⟩
           rcases hf3 with h | h
           ·first | exact h | exact absurd (by simpa using h) nb
           ·first | exact h | exact absurd (by simpa using h) nb
         ·rw [mH]
          have hkk:k'≠m[q].1:=by
           intro hkk
           exact hex ⟨e,hes,by rw [hkk];exact hks,by simp⟩
          rw [if_neg hkk]
          refine hK.not k' (fun ⟨f,hf1,hf2,hf3⟩=>hex ⟨f,hf1,hf2,?_⟩)
          rw [Array.contains_push,Bool.or_eq_true]
          first | exact .inl hf3 | exact .inr hf3
    ·exact h.elim
   ·exact h.elim
  ·exact h.elim
 ·exact h.elim
end
end Go.AL
end
noncomputable section
namespace Go.AL
variable [Tabs]
section
variable {k:Nat} {τ:Ty} {x:den τ}
theorem mI:∀(l:List AV) (j:Nat),(finVs k τ x l)[j]?=(l[j]?).map (finV k τ x)
 | [],j=>by simp [finVs]
 | a ::r,0=>by simp [finVs]
 | a ::r,j+1=>by simp only [finVs,List.getElem?_cons_succ];exact mI r j
theorem iV:∀l:List AV,(finVs k τ x l).length=l.length
 | []=>rfl
 | a ::r=>by simp [finVs,iV r]
theorem pw (σ:Ty) (y:den σ):∀d∈cells σ y,finV k τ x d=d:=by
 cases σ with
 | st n=>cases n <;> simp [cells,cX,fP,dU,eK,eL,eM,cG,eP,gS,fQ,fR,fS,gT,gU,gf,fT,jV,eQ,gV,fJ,gW,gX,fU,finV]
 | _=>simp [cells,finV]
theorem nw (σ:Ty) (y:den σ):∀d∈cells σ y,lensV k d=[]:=by
 cases σ with
 | st n=>cases n <;> simp [cells,cX,fP,dU,eK,eL,eM,cG,eP,gS,fQ,fR,fS,gT,gU,gf,fT,jV,eQ,gV,fJ,gW,gX,fU,lensV]
 | _=>simp [cells,lensV]
theorem Bh (σ:Ty) (ys:List (den σ)):∀d∈aY σ ys,finV k τ x d=d:=by
 intro d hd
 simp only [aY,List.mem_flatMap] at hd
 obtain ⟨y,_,hy⟩:=hd
 exact pw σ y d hy
theorem xH (σ:Ty) (ys:List (den σ)):∀d∈aY σ ys,lensV k d=[]:=by
 intro d hd
 simp only [aY,List.mem_flatMap] at hd
 obtain ⟨y,_,hy⟩:=hd
 exact nw σ y d hy
theorem px (d:AV):(ab (finV k τ x d)).length=(ab d).length/\∀(j:Nat) (a:AV),(ab d)[j]?=some a→(ab (finV k τ x d))[j]?=some (finV k τ x a):=by
 have one:∀{d:AV},ab d=[d]→ab (finV k τ x d)=[finV k τ x d]→(ab (finV k τ x d)).length=(ab d).length/\
   ∀(j:Nat) (a:AV),(ab d)[j]?=some a→(ab (finV k τ x d))[j]?=some (finV k τ x a):=by
  intro d h1 h2
  rw [h1,h2]
  refine ⟨rfl,fun j a ha=>?_⟩
  cases j with
  | zero=>simp at ha;subst ha;rfl
  | succ j=>simp at ha
 cases d with
 | agg cs=>exact ⟨iV cs,fun j a ha=>by show (finVs k τ x cs)[j]?=_;rw [mI];have:cs[j]?=some a:=ha;rw [this];rfl⟩
 | st n y=>exact ⟨rfl,fun j a ha=>by show (cells (.st n) y)[j]?=_;rw [pw (.st n) y a (List.mem_of_getElem? ha)];exact ha⟩
 | row σ ys=>exact ⟨rfl,fun j a ha=>by show (aY σ ys)[j]?=_;rw [Bh σ ys a (List.mem_of_getElem? ha)];exact ha⟩
 | lstp σ xs j=>
  refine one rfl ?_
  simp only [finV]
  split
  ·split <;> rfl
  ·rfl
 | tptr σ n j=>
  refine one rfl ?_
  simp only [finV]
  split <;> rfl
 | _=>exact one rfl rfl
theorem kR:∀{l:List AV} {j:Nat} {c:AV},l[j]?=some c→∀m∈lensV k c,m∈lensVs k l
 | a ::r,0,c,h,m,hm=>by
  simp at h
  subst h
  simp [lensVs,hm]
 | a ::r,j+1,c,h,m,hm=>by
  simp only [lensVs,List.mem_append]
  exact Or.inr (kR (by simpa using h) m hm)
theorem py {d c:AV} {j:Nat} (h:(ab d)[j]?=some c):∀m∈lensV k c,m∈lensV k d:=by
 intro m hm
 cases d with
 | agg cs=>exact kR h m hm
 | st n y=>rw [nw (.st n) y c (List.mem_of_getElem? h)] at hm;cases hm
 | row σ ys=>rw [xH σ ys c (List.mem_of_getElem? h)] at hm;cases hm
 | _=>
  cases j with
  | zero=>simp only [ab,List.getElem?_cons_zero,Xs] at h;subst h;exact hm
  | succ j=>simp [ab] at h
structure Told (Ω:Om) (k:Nat) (τ:Ty) (n:Nat) (x:den τ) (b cap:Nat) (vals:Nat→Value):Prop where
 e:Ω.e k=some (.tail (n+1) (some b) cap)
 c1:n+1<=cap
 c2:cap<=b8
 at_:∀(j:Nat) (c:AV),(cells τ x)[j]?=some c→Ω.pub b (n *ae τ+j)/\Ω.w.cell? ⟨b,n *ae τ+j,none⟩=some (vals j)/\V Ω c (vals j)
theorem V.finV {Ω:Om} {n b cap:Nat} {vals:Nat→Value} (ht:Told Ω k τ n x b cap vals) {a:AV} {v:Value} (h:V Ω a v):(∀m∈lensV k a,m=n)→V Ω (AL.finV k τ x a) v:=by
 have many:∀{cs:List AV} {vs:List Value},cs.length=vs.length→(∀m∈lensVs k cs,m=n)→(∀(j:Nat) (d:AV) (v:Value),cs[j]?=some d→vs[j]?=some v→(∀m∈lensV k d,m=n)→V Ω (AL.finV k τ x d) v)→
   (finVs k τ x cs).length=vs.length/\∀(j:Nat) (d:AV) (v:Value),(finVs k τ x cs)[j]?=some d→vs[j]?=some v→V Ω d v:=by
  intro cs vs hl hm ih
  refine ⟨by rw [iV,hl],fun j d v hd hv=>?_⟩
  rw [mI] at hd
  simp only [Option.map_eq_some_iff] at hd
  obtain ⟨d0,hd0,rfl⟩:=hd
  exact ih j d0 v hd0 hv (fun m hmm=>hm m (kR hd0 m hmm))
 induction h with
 | lstp σ xs j b' off cap' vals' h1 h2 h3 h4 h5 _=>
  intro hm
  simp only [AL.finV]
  split
  ·rename_i hjk
   have hjk:=Nat.eq_of_beq_eq_true hjk
   subst hjk
   split
   ·rename_i l hl
    obtain ⟨e,hl⟩:=hX hl
    subst e
    simp only at hl
    subst hl
    have hlen:xs.length=n:=hm xs.length (by simp [lensV])
    obtain ⟨m,base,cap2,r1,r2,r3⟩:=h3 _ rfl
    rw [ht.e] at r1
    simp only [Xs,CObj.tail.injEq] at r1
    obtain ⟨rfl,rfl,rfl⟩:=r1
    have r3:=r3 (by omega)
    simp only [dw,Value.slice.injEq,Xs,Addr.mk.injEq,true_and,and_true] at r3
    obtain ⟨⟨rfl,rfl⟩,rfl⟩:=r3
    have hlx:(xs++[x]).length=xs.length+1:=by simp
    have hcase:∀(i:Nat) (y:den τ),(xs++[x])[i]?=some y→(i < xs.length/\xs[i]?=some y)∨(i=xs.length/\y=x):=by
     intro i y hy
     by_cases hi:i < xs.length
     ·rw [List.getElem?_append_left hi] at hy;exact Or.inl ⟨hi,hy⟩
     ·rw [List.getElem?_append_right (by omega)] at hy
      have:i - xs.length=0:=by
       rcases Nat.eq_zero_or_pos (i - xs.length) with q | q
       ·exact q
       ·rw [List.getElem?_eq_none (by simp;omega)] at hy;cases hy
      rw [this] at hy
      simp at hy
      exact Or.inr ⟨by omega,hy.symm⟩
    have:=V.lst (Ω:=Ω) τ (xs++[x]) (some j) b' 0 cap' (fun i q=>if i < xs.length then vals' i q else vals q) (by rw [hlx];exact h1) h2 (by
      rw [hlx]
      intro id hid
      cases hid
      exact ⟨n+1,some b',cap',ht.e,by omega,fun e=>by simp [dw]⟩)
     (fun i y hy q c hc=>by
      rcases hcase i y hy with ⟨hi,hy'⟩ | ⟨rfl,rfl⟩
      ·simp only [if_pos hi];exact h4 i y hy' q c hc
      ·simp only [Nat.lt_irrefl,if_false,Nat.zero_add]
       have:=ht.at_ q c hc
       rw [←hlen] at this
       exact ⟨this.1,this.2.1⟩)
     (fun i y hy q c hc=>by
      rcases hcase i y hy with ⟨hi,hy'⟩ | ⟨rfl,rfl⟩
      ·simp only [if_pos hi];exact h5 i y hy' q c hc
      ·simp only [Nat.lt_irrefl,if_false]
       exact (ht.at_ q c hc).2.2)
    rw [hlx] at this
    exact this
   ·exact .undef _
  ·exact .lstp σ xs j b' off cap' vals' h1 h2 h3 h4 h5
 | tptr σ m j p hp=>
  intro _
  simp only [AL.finV]
  split
  ·exact .undef _
  ·exact .tptr σ m j p hp
 | cptr d b' o vs h1 h2 ih=>
  intro hm
  obtain ⟨p1,p2⟩:=px (k:=k) (τ:=τ) (x:=x) d
  have back:∀(j:Nat) (d':AV),(ab (AL.finV k τ x d))[j]?=some d'→∃d0,(ab d)[j]?=some d0/\d'=AL.finV k τ x d0:=by
   intro j d' hd'
   have hj:j < (ab d).length:=by
    rw [←p1]
    rcases Nat.lt_or_ge j (ab (AL.finV k τ x d)).length with q | q
    ·exact q
    ·rw [List.getElem?_eq_none q] at hd';cases hd'
   have:=p2 j _ (List.getElem?_eq_getElem hj)
   rw [hd'] at this
   exact ⟨_,List.getElem?_eq_getElem hj,Option.some.inj this⟩
  refine .cptr _ b' o vs (fun j d' hd'=>?_) (fun j d' hd'=>?_)
  ·obtain ⟨d0,q1,_⟩:=back j d' hd'
   exact h1 j d0 q1
  ·obtain ⟨d0,q1,rfl⟩:=back j d' hd'
   exact ih j d0 q1 (fun m hmm=>hm m (by simp only [lensV];exact py q1 m hmm))
 | agg cs vs hl _ ih=>
  intro hm
  obtain ⟨q1,q2⟩:=many hl (by simpa [lensV] using hm) ih
  exact .agg _ vs q1 q2
 | tup cs vs hl _ ih=>
  intro hm
  obtain ⟨q1,q2⟩:=many hl (by simpa [lensV] using hm) ih
  exact .tup _ vs q1 q2
 | fn f cs vs hl _ ih=>
  intro hm
  obtain ⟨q1,q2⟩:=many hl (by simpa [lensV] using hm) ih
  exact .fn f _ vs q1 q2
 | iface t a v _ ih=>intro hm;exact .iface t _ v (ih (by simpa [lensV] using hm))
 | undef v=>exact fun _=>.undef v
 | int k n h1 h2=>exact fun _=>.int k n h1 h2
 | bool b=>exact fun _=>.bool b
 | str s h=>exact fun _=>.str s h
 | lstNil τ o ht=>exact fun _=>.lstNil τ o ht
 | lstVoid τ a=>exact fun _=>.lstVoid τ a
 | lst τ xs o b' off' cap vals' h1 h2 h3 h4 h5 _=>exact fun _=>.lst τ xs o b' off' cap vals' h1 h2 h3 h4 h5
 | nils=>exact fun _=>.nils
 | nilp=>exact fun _=>.nilp
 | ptr i o b' p len he=>exact fun _=>.ptr i o b' p len he
 | ptNone n=>exact fun _=>.ptNone n
 | ptSome n x v hv _=>exact fun _=>.ptSome n x v hv
 | arr i n w b' len cap a he h1 h2 h3 h4=>exact fun _=>.arr i n w b' len cap a he h1 h2 h3 h4
 | aptr i n w o b' p len he=>exact fun _=>.aptr i n w o b' p len he
 | map i r he=>exact fun _=>.map i r he
 | bptr i b g he=>exact fun _=>.bptr i b g he
 | nilif=>exact fun _=>.nilif
 | nilm=>exact fun _=>.nilm
 | st n x v hv _=>exact fun _=>.st n x v hv
end
theorem jC {n:Nat}:∀{l:List Nat} {q:Prop},so n l q→(∀m∈l,m=n)/\q
 | [],q,h=>⟨fun _ hm=>absurd hm List.not_mem_nil,h⟩
 | m ::r,q,h=>by
  obtain ⟨h1,h2⟩:=h
  obtain ⟨h3,h4⟩:=jC h2
  exact ⟨fun i hi=>(List.mem_cons.1 hi).elim (fun e=>e ▸ h1) (h3 i),h4⟩
theorem xI {F:Fr} {s:St} {a:Act} {Ω:Om} {k:Nat} {Q:St→Prop} (h:Holds F s.abs a Ω) (hf:xf k s Q):∃s' Ω',Ω'.w=Ω.w/\Holds F s'.abs a Ω'/\Q s':=by
 unfold xf at hf
 split at hf
 ·rename_i τ n x hb
  obtain ⟨hlens,hq⟩:=jC hf
  refine ⟨⟨s.t.map fun y=>(y.1,finV k τ x y.2),(nR s.b k (.tail τ (n+1))).map fun y=>(y.1,AQ k τ x y.2)⟩,?_⟩
  obtain ⟨b,cap,e1,e2,e3,e4,⟨vs,ty,fz,e5,e6,e7⟩,e8,e9⟩:=h.slots k _ hb
  let Ω1:Om:=⟨Ω.e,Ω.w,fun b' o=>Ω.pub b' o∨(b'=b/\n *ae τ<=o/\o < n *ae τ+ae τ)⟩
  have hx1:Ext Ω Ω1:=⟨fun i c hc=>⟨c,hc,CLe.refl c⟩,fun _ _ p=>Or.inl p,fun _ _ _=>rfl⟩
  have htold:Told Ω1 k τ n x b cap (fun j=>(Ω.w.cell? ⟨b,n *ae τ+j,none⟩).getD undef):=by
   refine ⟨e1,e2,e3,fun j c hc=>?_⟩
   obtain ⟨v,k1,k2⟩:=e9 j c hc
   have hj:j < ae τ:=by
    rw [←aP τ x]
    rcases Nat.lt_or_ge j (cells τ x).length with q | q
    ·exact q
    ·rw [List.getElem?_eq_none q] at hc;cases hc
   refine ⟨Or.inr ⟨rfl,by omega,by omega⟩,?_,?_⟩
   ·show Ω.w.cell? _=_
    rw [k1];rfl
   ·simp only [k1,Option.getD_some]
    exact k2.ext hx1
  have hcell:∀o,n *ae τ<=o→o < n *ae τ+ae τ→∃v,Ω.w.cell? ⟨b,o,none⟩=some v:=by
   intro o h1 h2
   have hj:o - n *ae τ < (cells τ x).length:=by rw [aP];omega
   obtain ⟨v,k1,_⟩:=e9 (o - n *ae τ) _ (List.getElem?_eq_getElem hj)
   exact ⟨v,by rw [show n *ae τ+(o - n *ae τ)=o by omega] at k1;exact k1⟩
  refine ⟨Ω1,rfl,⟨fun i=>?_,h.size,h.defers,fun id o ho=>?_,fun id hid=>?_,h.inj,fun b' o hp=>?_,h.keep,?_⟩,hq⟩
  ·simp only [St.abs]
   rw [lO (finV k τ x) rfl s.t i]
   refine V.finV htold ((h.tmps i).ext hx1) (fun m hm=>?_)
   rcases lM s.t i with hu | hm'
   ·rw [hu] at hm;cases hm
   ·exact hlens m (List.mem_append_left _ (List.mem_flatMap.2 ⟨_,hm',hm⟩))
  ·simp only [St.abs] at ho
   rw [jB (AQ k τ x) _ id,fY] at ho
   by_cases hid:k=id
   ·subst hid
    rw [if_pos rfl] at ho
    simp only [Option.map_some,Xs,AQ] at ho
    subst ho
    refine ⟨some b,cap,e1,e2,e3,by simp,fun b2 hb2=>?_⟩
    simp only [Xs] at hb2
    subst hb2
    refine ⟨e4,vs,ty,fz,e5,e6,e7,fun o ho hp=>?_⟩
    rw [Nat.add_mul,Nat.one_mul] at ho
    rcases hp with hp | ⟨_,hp1,hp2⟩
    ·exact e8 o (by omega) hp
    ·omega
   ·rw [if_neg hid] at ho
    simp only [Option.map_eq_some_iff] at ho
    obtain ⟨o0,ho0,rfl⟩:=ho
    have hs:=h.slots id o0 ho0
    have apart:∀c0,Ω.e id=some c0→∀b' o,occ c0 b' o→b'≠b:=by
     intro c0 hc0 b' o hoc hk
     subst hk
     exact hid (h.inj k id _ c0 b' o e1 hc0 rfl hoc)
    cases o0 with
    | box d=>
     obtain ⟨b2,off2,g1,g2⟩:=hs
     obtain ⟨p1,p2⟩:=px (k:=k) (τ:=τ) (x:=x) d
     refine ⟨b2,off2,by show Ω.e id=_;rw [g1,p1],fun j d' hd'=>?_⟩
     have hj:j < (ab d).length:=by
      rw [←p1]
      rcases Nat.lt_or_ge j (ab (finV k τ x d)).length with q | q
      ·exact q
      ·rw [List.getElem?_eq_none q] at hd';cases hd'
     have hd2:=p2 j _ (List.getElem?_eq_getElem hj)
     rw [hd'] at hd2
     obtain ⟨m1,m2,m3,v,m4,m5⟩:=g2 j _ (List.getElem?_eq_getElem hj)
     refine ⟨m1,fun hp=>?_,m3,v,m4,?_⟩
     ·rcases hp with hp | hp
      ·exact m2 hp
      ·exact apart _ g1 b2 (off2+j) ⟨rfl,by omega,by omega⟩ hp.1
     ·rw [Option.some.inj hd2]
      refine V.finV htold (m5.ext hx1) (fun m hm=>hlens m (List.mem_append_right _ (List.mem_flatMap.2 ⟨(id,.box d),ck _ _ _ ho0,?_⟩)))
      exact py (List.getElem?_eq_getElem hj) m hm
    | tail σ m=>
     obtain ⟨base,cap2,g1,g2,g3,g4,g5⟩:=hs
     refine ⟨base,cap2,g1,g2,g3,g4,fun b2 hb2=>?_⟩
     obtain ⟨m1,vs',ty',fz',m2,m3,m4,m5⟩:=g5 b2 hb2
     refine ⟨m1,vs',ty',fz',m2,m3,m4,fun o ho hp=>?_⟩
     rcases hp with hp | hp
     ·exact m5 o ho hp
     ·exact apart _ g1 b2 o hb2 hp.1
    | map κ σ m=>
     obtain ⟨r,g1,g2,es,clock,g3,g4⟩:=hs
     exact ⟨r,g1,g2,es,clock,g3,g4.ext hx1⟩
    | bld t u l=>
     obtain ⟨b2,g,g1,g2,g3⟩:=hs
     refine ⟨b2,g,g1,fun b3 hb3 o=>⟨(g2 b3 hb3 o).1,fun hp=>?_⟩,g3⟩
     rcases hp with hp | hp
     ·exact (g2 b3 hb3 o).2 hp
     ·exact apart _ g1 b3 o hb3 hp.1
    | tailp σ m y=>
     obtain ⟨b2,cap2,g1,g2,g3,g4,g5,g6,g7⟩:=hs
     refine ⟨b2,cap2,g1,g2,g3,g4,g5,fun o ho hp=>?_,fun j c hc=>?_⟩
     ·rcases hp with hp | hp
      ·exact g6 o ho hp
      ·exact apart _ g1 b2 o rfl hp.1
     ·obtain ⟨v,k1,k2⟩:=g7 j c hc
      exact ⟨v,k1,k2.ext hx1⟩
  ·simp only [St.abs] at hid
   rw [jB (AQ k τ x) _ id,fY] at hid
   by_cases hk:k=id
   ·subst hk;simp at hid
   ·rw [if_neg hk] at hid
    exact h.dom id (by show ak s.b id=none;simpa using hid)
  ·rcases hp with hp | ⟨rfl,hp1,hp2⟩
   ·exact h.pubok b' o hp
   ·exact hcell o hp1 hp2
  ·refine ⟨h.frame.os,h.frame.tape,h.frame.output,h.frame.size,h.frame.block,h.frame.cell,h.frame.kind,fun b' o hp=>?_,fun b' o hp=>Or.inl (h.frame.old b' o hp),h.frame.pcell⟩
   rcases hp with hp | ⟨rfl,hp1,hp2⟩
   ·exact h.frame.pub b' o hp
   ·exact Or.inr (e4 o)
 ·exact ⟨s,Ω,rfl,h,hf⟩
theorem pz {F:Fr} {a:Act} {Q:St→Prop}:∀(l:List Nat) {s:St} {Ω:Om},Holds F s.abs a Ω→xg l s Q→∃s' Ω',Ω'.w=Ω.w/\Holds F s'.abs a Ω'/\Q s'
 | [],s,Ω,h,hf=>⟨s,Ω,rfl,h,hf⟩
 | k ::r,s,Ω,h,hf=>by
  obtain ⟨s1,Ω1,g1,g2,g3⟩:=xI (Q:=fun s=>xg r s Q) h hf
  obtain ⟨s2,Ω2,k1,k2,k3⟩:=pz r g2 g3
  exact ⟨s2,Ω2,k1.trans g1,k2,k3⟩
theorem pA {F:Fr} {a:Act} {Q:St→Prop} {s:St} {Ω:Om} (h:Holds F s.abs a Ω) (hf:GP s Q):∃s' Ω',Ω'.w=Ω.w/\Holds F s'.abs a Ω'/\Q s':=pz _ h hf
theorem Bi {k:Nat} {s:St} {Q:St→Prop} (hf:xf k s Q):∃s',Q s':=by
 unfold xf at hf
 split at hf
 ·exact ⟨_,(jC hf).2⟩
 ·exact ⟨s,hf⟩
theorem mJ {Q:St→Prop}:∀(l:List Nat) {s:St},xg l s Q→∃s',Q s'
 | [],s,hf=>⟨s,hf⟩
 | k ::r,s,hf=>by
  obtain ⟨s1,h1⟩:=Bi (Q:=fun s=>xg r s Q) hf
  exact mJ r h1
end Go.AL
end
noncomputable section
namespace Go.AL
theorem jD (i j k:Nat):da i j k=if k=i then j else if k=j then i else k:=by
 unfold da
 by_cases h:k=i
 ·rw [if_pos h,h,Nat.beq_refl]
 ·have h':Nat.beq k i=false:=by
   cases hb:Nat.beq k i with
   | false=>rfl
   | true=>exact absurd (Nat.eq_of_beq_eq_true hb) h
  rw [if_neg h,h']
  by_cases g:k=j
  ·rw [if_pos g,g,Nat.beq_refl]
  ·have g':Nat.beq k j=false:=by
    cases hb:Nat.beq k j with
    | false=>rfl
    | true=>exact absurd (Nat.eq_of_beq_eq_true hb) g
   rw [if_neg g,g']
theorem dM (i j k:Nat):da i j (da i j k)=k:=by
 rw [jD i j k]
 split
 ·rename_i h;rw [jD];split <;> simp_all
 ·rename_i h
  split
  ·rename_i g;rw [jD];simp_all
  ·rename_i g;rw [jD,if_neg h,if_neg g]
variable [Tabs]
theorem uD (i j:Nat):∀(l:List (Nat × AV)) (k:Nat),aS (AR i j l) k=.undef∨Da i j (aS l k)=some (aS (AR i j l) k)
 | [],k=>.inl rfl
 | (m,a) ::r,k=>by
  simp only [AR,cY,cE]
  by_cases h:(m ==k)=true
  ·rw [if_pos h,if_pos h]
   cases hr:Da i j a with
   | none=>exact .inl rfl
   | some a'=>exact .inr rfl
  ·rw [if_neg h,if_neg h]
   exact uD i j r k
inductive RenO (i j:Nat):SObj→SObj→Prop
 | box {c c':AV}:Da i j c=some c'→RenO i j (.box c) (.box c')
 | same {o:SObj}:(∀c,o≠.box c)→RenO i j o o
theorem pB (i j:Nat):∀{l m:List (Nat × SObj)},qC i j l=some m→∀k,(∀o',ak m k=some o'→∃o,ak l (da i j k)=some o/\RenO i j o o')/\(ak m k=none→ak l (da i j k)=none)
 | [],m,h,k=>by cases h;exact ⟨fun o' q=>(by cases q),fun _=>rfl⟩
 | (n,o) ::r,m,h,k=>by
  have step:∀{o1:SObj} {r':List (Nat × SObj)},qC i j r=some r'→RenO i j o o1→m=(da i j n,o1) ::r'→
    (∀o',ak m k=some o'→∃o2,ak ((n,o) ::r) (da i j k)=some o2/\RenO i j o2 o')/\(ak m k=none→ak ((n,o) ::r) (da i j k)=none):=by
   rintro o1 r' hr ho rfl
   obtain ⟨h1,h2⟩:=pB i j hr k
   simp only [aM,aF,beq_iff_eq]
   by_cases e:da i j n=k
   ·have e':n=da i j k:=by rw [←e,dM]
    rw [if_pos e,if_pos e']
    exact ⟨fun o' q=>⟨o,rfl,(by cases q;exact ho)⟩,fun q=>(by cases q)⟩
   ·have e':¬n=da i j k:=fun q=>e (by rw [q,dM])
    rw [if_neg e,if_neg e']
    exact ⟨h1,h2⟩
  cases o with
  | box c=>
   simp only [qC] at h
   split at h
   ·rename_i c' r' hc hr
    exact step hr (.box hc) (Option.some.inj h).symm
   ·cases h
  | tail τ n'=>
   simp only [qC] at h
   split at h
   ·rename_i r' hr;exact step hr (.same (fun c q=>by cases q)) (Option.some.inj h).symm
   ·cases h
  | map κ τ m'=>
   simp only [qC] at h
   split at h
   ·rename_i r' hr;exact step hr (.same (fun c q=>by cases q)) (Option.some.inj h).symm
   ·cases h
  | bld t u l'=>
   simp only [qC] at h
   split at h
   ·rename_i r' hr;exact step hr (.same (fun c q=>by cases q)) (Option.some.inj h).symm
   ·cases h
  | tailp τ n' x=>
   simp only [qC] at h
   split at h
   ·rename_i r' hr;exact step hr (.same (fun c q=>by cases q)) (Option.some.inj h).symm
   ·cases h
theorem pC {F:Fr} {s s':St} {a:Act} {Ω:Om} {i j:Nat} (h:Holds F s.abs a Ω) (hr:Fu i j s=some s'):∃Ω',Ω'.w=Ω.w/\Holds F s'.abs a Ω':=by
 unfold Fu at hr
 split at hr
 ·rename_i hl
  simp only [Bool.and_eq_true,Bool.not_eq_true'] at hl
  obtain ⟨hi,hj⟩:=hl
  split at hr
  ·rename_i b hb
   cases hr
   have hn:Names (fun k o=>some (da i j k,o)) (fun k=>some (da i j k)) (fun k=>some (da i j k)) Ω.e (fun k=>Ω.e (da i j k)):=by
    refine ⟨?_,?_,?_⟩
    ·intro k o k' o' q b p l he
     cases q
     exact ⟨p,l,by simp only [dM];exact he,rfl⟩
    ·intro k k' q c he
     cases q
     simp only [dM];exact he
    ·intro k k' q c he
     cases q
     simp only [dM];exact he
   refine ⟨⟨fun k=>Ω.e (da i j k),Ω.w,Ω.pub⟩,rfl,fun k=>?_,h.size,h.defers,fun id o ho=>?_,fun id hid=>?_,fun x y cx cy b o hx hy hbx hby=>?_,h.pubok,fun id c hc=>?_,?_⟩
   ·rcases uD i j s.t k with e | e
    ·have e:(St.abs ⟨AR i j s.t,b⟩).T k=.undef:=e
     rw [e];exact .undef _
    ·exact V.mapV hn (h.tmps k) e
   ·obtain ⟨o0,h1,h2⟩:=(pB i j hb id).1 o ho
    have hs:=h.slots (da i j id) o0 h1
    cases h2 with
    | @box c c' hc=>
     obtain ⟨b',off,g1,g2⟩:=hs
     obtain ⟨hlen,hat⟩:=gq hc
     refine ⟨b',off,by show Ω.e (da i j id)=_;rw [g1,hlen],fun k d' hd=>?_⟩
     have hk:k < (ab c).length:=by rw [hlen];exact (List.getElem?_eq_some_iff.1 hd).1
     obtain ⟨d,hd0⟩:∃d,(ab c)[k]?=some d:=⟨_,List.getElem?_eq_getElem hk⟩
     obtain ⟨k1,k2,k3,v,k4,k5⟩:=g2 k d hd0
     exact ⟨k1,k2,k3,v,k4,V.mapV hn k5 (hat k d d' hd0 hd)⟩
    | same hne=>
     cases o with
     | box c=>exact absurd rfl (hne c)
     | tail τ n=>exact hs
     | map κ τ m=>
      obtain ⟨r,g1,g2,es,clock,g3,g4⟩:=hs
      exact ⟨r,g1,g2,es,clock,g3,g4.data⟩
     | bld t u l=>exact hs
     | tailp τ n x=>
      obtain ⟨b',cap,g1,g2,g3,g4,g5,g6,g7⟩:=hs
      refine ⟨b',cap,g1,g2,g3,g4,g5,g6,fun k c hc=>?_⟩
      obtain ⟨v,k1,k2⟩:=g7 k c hc
      exact ⟨v,k1,V.mapV hn k2 (gp τ x c (List.mem_of_getElem? hc))⟩
   ·exact h.dom _ ((pB i j hb id).2 hid)
   ·have:=h.inj _ _ cx cy b o hx hy hbx hby
    rw [←dM i j x,this,dM]
   ·have hd:=F.dom0 id c hc
    have e:da i j id=id:=by
     rw [jD]
     split
     ·rename_i e;rw [e,hi] at hd;cases hd
     ·split
      ·rename_i e;rw [e,hj] at hd;cases hd
      ·rfl
    obtain ⟨c',g1,g2⟩:=h.keep id c hc
    exact ⟨c',by simp only [e];exact g1,g2⟩
   ·exact ⟨h.frame.os,h.frame.tape,h.frame.output,h.frame.size,h.frame.block,h.frame.cell,h.frame.kind,h.frame.pub,h.frame.old,h.frame.pcell⟩
  ·cases hr
 ·cases hr
theorem kS {F:Fr} {a:Act}:∀(l:List Nat) {s s':St} {Ω:Om},Holds F s.abs a Ω→Db l s=some s'→∃Ω',Ω'.w=Ω.w/\Holds F s'.abs a Ω'
 | [],s,s',Ω,h,hr=>by cases hr;exact ⟨Ω,rfl,h⟩
 | [_],s,s',Ω,h,hr=>by cases hr;exact ⟨Ω,rfl,h⟩
 | i ::j ::r,s,s',Ω,h,hr=>by
  unfold Db at hr
  split at hr
  ·rename_i s1 h1
   obtain ⟨Ω1,e1,g1⟩:=pC h h1
   obtain ⟨Ω2,e2,g2⟩:=kS r g1 hr
   exact ⟨Ω2,e2.trans e1,g2⟩
  ·cases hr
end Go.AL
end
noncomputable section
namespace Go.AL
variable [Tabs]
def xJ:SX→Exit
 | .normal=>.normal
 | .exit id=>.exit id
 | .ret=>.ret
 | .pan _=>.outgrown
def Ends (Ω:Om):SX→Exit→Prop
 | .pan pv,e=>∃v,e=.panic [{v,recovered:=false}]/\V Ω pv v
 | x,e=>xJ x=e
def QL (F:Fr) (Q:SX→St→Prop):Exit→Act→World→Prop:=fun e a w=>∃x s Ω,Ends Ω x e/\Ω.w=w/\Holds F s.abs a Ω/\Q x s
mutual
theorem forceV_eq:∀(a:AV) (k:AV→Prop),forceV a k=k a
 | .undef,k=>rfl
 | .int κ n,k=>rfl
 | .bool b,k=>rfl
 | .str s,k=>rfl
 | .lst τ xs none,k=>rfl
 | .lst τ xs (some i),k=>rfl
 | .nils,k=>rfl
 | .ptr i o,k=>rfl
 | .cptr c,k=>by simp only [forceV];rw [forceV_eq c]
 | .st n x,k=>rfl
 | .nilp,k=>rfl
 | .row τ xs,k=>rfl
 | .arr i n w,k=>rfl
 | .aptr i n w o,k=>rfl
 | .map i,k=>rfl
 | .bptr i,k=>rfl
 | .lstp τ xs i,k=>rfl
 | .tptr τ n i,k=>rfl
 | .iface t a,k=>by simp only [forceV];rw [forceV_eq a]
 | .nilif,k=>rfl
 | .nilm,k=>rfl
 | .pt n x,k=>rfl
 | .agg cs,k=>by simp only [forceV];rw [forceL_eq cs]
 | .tup cs,k=>by simp only [forceV];rw [forceL_eq cs]
 | .fn f cs,k=>by simp only [forceV];rw [forceL_eq cs]
theorem forceL_eq:∀(l:List AV) (k:List AV→Prop),forceL l k=k l
 | [],k=>rfl
 | a ::r,k=>by simp only [forceL];rw [forceV_eq a,forceL_eq r]
end
theorem rD:∀(l:List (Nat × AV)) (k:List (Nat × AV)→Prop),su l k=k l
 | [],k=>rfl
 | (i,a) ::r,k=>by simp only [su];rw [forceV_eq a,rD r]
theorem ga:∀(l:List (Nat × SObj)) (k:List (Nat × SObj)→Prop),fy l k=k l
 | [],k=>rfl
 | (i,.box c) ::r,k=>by simp only [fy];rw [forceV_eq c,ga r]
 | (i,.tail τ n) ::r,k=>by simp only [fy];rw [ga r]
 | (i,.map κ τ m) ::r,k=>by simp only [fy];rw [ga r]
 | (i,.bld t u l) ::r,k=>by simp only [fy];rw [ga r]
 | (i,.tailp τ n x) ::r,k=>by simp only [fy];rw [ga r]
theorem cQ (s:St) (k:St→Prop):ez s k=k s:=by
 unfold ez
 rw [rD,ga]
theorem gr:∀(l:List Nat) (k:List Nat→Prop),gF l k=k l
 | [],k=>rfl
 | 0 ::r,k=>by simp only [gF];rw [gr r]
 | (n+1) ::r,k=>by simp only [gF];rw [gr r]
theorem Holds.trim {F:Fr} {s:St} {a:Act} {Ω:Om} (h:Holds F s.abs a Ω) (keep:List Nat):Holds F (trim keep s).abs a Ω:=by
 refine ⟨fun i=>?_,h.size,h.defers,h.slots,h.dom,h.inj,h.pubok,h.keep,h.frame⟩
 have:=gJ s.t (fun i=>keep.contains i) i
 simp only [AL.trim,St.abs]
 rw [this]
 split
 ·exact h.tmps i
 ·exact .undef _
section
variable {P:Program} {C:Cfg} {F:Fr}
theorem ky (hm:P.follows .mixedOrders=true) (hT:aT P C.tbl) (hS:bH P C.spec) (keep:List Nat) {id:Nat} {ops:Array Oper} {draw:Bool} {s1:St} {Q:SX→St→Prop} {a:Act} {Ω1:Om}
  (hdst:∀(o:Oper),o∈ops.toList→∀d,o.dst=some d→d < F.n) (h:oj C keep ops draw s1 Q) (hh1:Holds F s1.abs a Ω1):(Code.region id ops draw).wp P (QL F Q) a Ω1.w:=by
 unfold oj at h
 have key:∀s' fs,(ez (trim keep s') fun s'=>if draw=true then (if dD ops.toList fs=true then Q .normal s' else False) else Q .normal s')→
   (draw=true→dD ops.toList fs=true)/\Q .normal (trim keep s'):=by
  intro s' fs hk
  simp only [cQ] at hk
  cases draw with
  | false=>exact ⟨fun h=>by simp at h,by simpa using hk⟩
  | true=>
   simp only [if_true] at hk
   rcases Classical.em (dD ops.toList fs=true) with k | k
   ·rw [if_pos k] at hk;exact ⟨fun _=>k,hk⟩
   ·rw [if_neg k] at hk;exact hk.elim
 refine lL hm hT hS hdst h (fun hdr s' fs hk=>let ⟨s2,h2⟩:=mJ _ hk;(key s2 fs h2).1 hdr) hh1 (fun s' fs a' Ω' hk h'=>
   let ⟨s2,Ω2,g1,g2,g3⟩:=pA h' hk
   ⟨.normal,trim keep s2,Ω2,rfl,g1,g2.trim keep,(key s2 fs g3).2⟩)
  (fun pv s' a' Ω' v hk h' hv=>?_)
 simp only [cQ,forceV_eq] at hk
 exact ⟨.pan pv,s',Ω',⟨v,rfl,hv⟩,rfl,h',hk⟩
theorem xK (hT:aT P C.tbl) {keep:List Nat} {id:Nat} {ops:Array Oper} {draw:Bool} {s:St} {p:Prop} {f:Bool→St} {a:Act} {Ω:Om} (hn:tT C keep ops draw s=some (p,f))
  (hdst:∀(o:Oper),o∈ops.toList→∀d,o.dst=some d→d < F.n) (hh:Holds F s.abs a Ω):(Code.region id ops draw).wp P (QL F fun x t=>x=.normal/\∃b,(b=true→p)/\t=f b) a Ω.w:=by
 unfold tT at hn
 split at hn
 ·rename_i m src ty1 ps1 af1 c t m' t2 ty2 ps2 af2 hops
  split at hn
  ·rename_i e sz by' z ty τ xs o hc ht hsrc
   cases hn
   simp only [Bool.and_eq_true,Bool.not_eq_true'] at hc
   obtain ⟨hm,hcm⟩:=hc
   obtain rfl:=Nat.eq_of_beq_eq_true hm
   have hne:¬m'=c:=fun e=>by rw [e,Nat.beq_refl] at hcm;cases hcm
   have d1:m' < F.n:=hdst _ (by rw [hops];exact List.mem_cons_self ..) m' rfl
   have d2:c < F.n:=hdst _ (by rw [hops];exact List.mem_cons_of_mem _ (List.mem_cons_self ..)) c rfl
   obtain ⟨dd,u1,u2⟩:=aC hT ht rfl
   cases dd <;> simp [aH] at u2
   have hv:=b5 hh src
   rw [show opd s.abs.T src=.lst τ xs o from hsrc] at hv
   have hv2:V Ω (.lst τ xs none) (a.eval src):=hv.le (G:=[]) (fun k hk=>by cases hk) (bN (by simp [LeF,fj]))
   obtain ⟨q,n,cp,hev,hq⟩:∃q n cp,a.eval src=.slice q n cp/\(q.isNone=true→xs=[]):=by
    generalize a.eval src=sv at hv2
    cases hv2 with
    | lstNil _ _ _=>exact ⟨_,_,_,rfl,fun _=>rfl⟩
    | lstVoid _ _=>exact ⟨_,_,_,rfl,fun _=>rfl⟩
    | lst _ _ _ b off cap vals h1 h2 tok hc hv=>exact ⟨_,_,_,rfl,fun q=>by cases q⟩
   have hsz:=hh.size
   have eqs:ops=#[⟨some m',.move src,ty1,ps1,af1,none⟩,⟨some c,.binOp .eql t (.tmp m') (.const (.slice none 0 0)) t2,ty2,ps2,af2,none⟩]:=by
    cases ops;simp at hops;rw [hops]
   subst eqs
   rw [hev] at hv2
   have hp1:=hh.pure (dst:=some m') (val:=.lst τ xs none) (v:=.slice q n cp) hv2 (fun d e=>by cases e;exact d1)
   have hp2:=hp1.pure (dst:=some c) (val:=.bool q.isNone) (v:=.bool q.isNone) (.bool _) (fun d e=>by cases e;exact d2)
   refine wp_region ?_
   show wpOps P _ _ [0,1] a Ω.w
   refine cm (o:=⟨some m',.move src,ty1,ps1,af1,none⟩) rfl rfl (az (v:=.slice q n cp) (w':=Ω.w) (by simp [execOp,hev]) ?_)
   have hm1:(a.put (some m') (.slice q n cp)).eval (.tmp m')=.slice q n cp:=by
    show (a.put (some m') (.slice q n cp)).tmps.getD m' undef=_
    rw [bZ hsz d1,if_pos rfl]
   have hq2:(Op.equal t (.slice q n cp) (.slice none 0 0)).run P Ω.w=.ok q.isNone Ω.w:=by
    unfold Op.equal Op.maxDepth Op.equalIn
    simp only [Sem.run_bind,aB u1,Result.andThen_ok]
    cases q <;> rfl
   have hg:(eqGuard .eql t (.tmp m') (.const (.slice none 0 0)) (.slice q n cp) (.slice none 0 0)).run P Ω.w=.ok () Ω.w:=rfl
   refine cm (o:=⟨some c,.binOp .eql t (.tmp m') (.const (.slice none 0 0)) t2,ty2,ps2,af2,none⟩) rfl rfl (az (v:=.bool q.isNone) (w':=Ω.w) (by
    have hk:(a.put (some m') (.slice q n cp)).eval (.const (.slice none 0 0))=.slice none 0 0:=rfl
    simp [execOp,hm1,hev,hk,hg,binOp,hq2]) ?_)
   refine ⟨.normal,_,Ω,rfl,rfl,?_,rfl,q.isNone,hq,rfl⟩
   refine Holds.trim (s:=⟨iB (iB s.t m' (.lst τ xs none)) c (.bool q.isNone),s.b⟩) ?_ keep
   have eT:(St.abs ⟨iB (iB s.t m' (.lst τ xs none)) c (.bool q.isNone),s.b⟩)=⟨bR (bR s.abs.T (some m') (.lst τ xs none)) (some c) (.bool q.isNone),s.abs.B⟩:=by
    show AS.mk _ _=AS.mk _ _
    congr 1
    funext k
    show aS (iB (iB s.t m' (.lst τ xs none)) c (.bool q.isNone)) k=_
    rw [eV,eV]
    rfl
   rw [eT]
   exact hp2
  ·cases hn
 ·cases hn
theorem sQ {P:Program} {Q:Exit→Act→World→Prop} {a:Act} {w:World} {c:Code} (I:Nat→Act→World→Prop) (h₀:c.wp P (Exit.then (fun a w=>∃n,I n a w) Q) a w)
  (round:∀n a w,I n a w→c.wp P (Exit.then (fun a' w'=>∃n',n' < n/\I n' a' w') Q) a w):(Code.loop c).wp P Q a w:=by
 intro b k cs
 have key:∀n a w,I n a w→∃e a' w',Q e a' w'/\Arrives P (lone (b.at a (.code c ::.inLoop c ::k)) cs w) b k cs e a' w':=by
  intro n
  induction n using Nat.strongRecOn with
  | _ n ih=>
   intro a w hI
   obtain ⟨e,a₁,w₁,hq,harr⟩:=round n a w hI b (.inLoop c ::k) cs
   cases e with
   | normal=>
    obtain ⟨m,hlt,hI₁⟩:=hq
    obtain ⟨e₂,a₂,w₂,hq₂,harr₂⟩:=ih m hlt a₁ w₁ hI₁
    exact ⟨e₂,a₂,w₂,hq₂,.of_steps (Steps.trans harr (.one step_inLoop)) harr₂⟩
   | exit id=>exact ⟨_,a₁,w₁,hq,.pass (x:=.inLoop c) rfl (fun _ _=>.inl (by simp)) harr⟩
   | goto l=>exact ⟨_,a₁,w₁,hq,.pass (x:=.inLoop c) rfl (fun _ _=>.inl (by simp)) harr⟩
   | ret=>exact ⟨_,a₁,w₁,hq,.pass (x:=.inLoop c) rfl (fun _ _=>.inl (by simp)) harr⟩
   | panic ch=>exact ⟨_,a₁,w₁,hq,.pass (x:=.inLoop c) rfl (fun _ _=>.inl (by simp)) harr⟩
   | outgrown=>exact ⟨_,a₁,w₁,hq,.pass (x:=.inLoop c) rfl (fun _ _=>.inl (by simp)) harr⟩
 obtain ⟨e,a₁,w₁,hq,harr⟩:=h₀ b (.inLoop c ::k) cs
 cases e with
 | normal=>
  obtain ⟨m,hI⟩:=hq
  obtain ⟨e₂,a₂,w₂,hq₂,harr₂⟩:=key m a₁ w₁ hI
  exact ⟨e₂,a₂,w₂,hq₂,.of_steps (.one step_loop) (.of_steps (Steps.trans harr (.one step_inLoop)) harr₂)⟩
 | exit id=>exact ⟨_,a₁,w₁,hq,.of_steps (.one step_loop) (.pass (x:=.inLoop c) rfl (fun _ _=>.inl (by simp)) harr)⟩
 | goto l=>exact ⟨_,a₁,w₁,hq,.of_steps (.one step_loop) (.pass (x:=.inLoop c) rfl (fun _ _=>.inl (by simp)) harr)⟩
 | ret=>exact ⟨_,a₁,w₁,hq,.of_steps (.one step_loop) (.pass (x:=.inLoop c) rfl (fun _ _=>.inl (by simp)) harr)⟩
 | panic ch=>exact ⟨_,a₁,w₁,hq,.of_steps (.one step_loop) (.pass (x:=.inLoop c) rfl (fun _ _=>.inl (by simp)) harr)⟩
 | outgrown=>exact ⟨_,a₁,w₁,hq,.of_steps (.one step_loop) (.pass (x:=.inLoop c) rfl (fun _ _=>.inl (by simp)) harr)⟩
def uE (F:Fr) (ann:An) (c:Code) (W:St→(SX→St→Prop)→Prop) (Q:SX→St→Prop) (k:Nat) (a:Act) (w:World):Prop:=
 ∃(s:St) (A:LA) (x:A.ι) (Ω:Om),(∀x,A.pre x→W (gi (cd c) s (A.t x) (A.b x)) fun
   | .normal,s'=>∃y,A.pre y/\A.m y < A.m x/\cS s' (gi (cd c) s (A.t y) (A.b y))
   | e,s'=>Q e s')/\A.pre x/\A.m x=k/\Ω.w=w/\Holds F (gi (cd c) s (A.t x) (A.b x)).abs a Ω
theorem ny {ann:An} {c:Code} {W:St→(SX→St→Prop)→Prop} {Q:SX→St→Prop} {s:St} {a:Act} {Ω:Om} (h:Aa ann c W s Q) (hh:Holds F s.abs a Ω):∃k,uE F ann c W Q k a Ω.w:=by
 unfold Aa at h
 split at h
 ·exact h.elim
 ·rename_i A hA
  simp only [cQ] at h
  obtain ⟨⟨x0,hp0,hle0⟩,hround⟩:=h
  obtain ⟨Ω0,e0,hh0⟩:=df hh (fM hle0)
  exact ⟨A.m x0,s,A,x0,Ω0,hround,hp0,rfl,e0,hh0⟩
theorem nz {ann:An} {c:Code} {W:St→(SX→St→Prop)→Prop} {Q:SX→St→Prop} (hW:∀(s:St) (Q:SX→St→Prop) (a:Act) (Ω:Om),W s Q→Holds F s.abs a Ω→c.wp P (QL F Q) a Ω.w)
  {k:Nat} {a:Act} {w:World} (hI:uE F ann c W Q k a w):c.wp P (Exit.then (fun a' w'=>∃n',n' < k/\uE F ann c W Q n' a' w') (QL F Q)) a w:=by
 obtain ⟨s,A,x,Ω1,hround,hp,hmx,hw1,hh1⟩:=hI
 subst hw1
 refine wp_mono (hW (gi (cd c) s (A.t x) (A.b x)) _ a Ω1 (hround x hp) hh1) ?_
 intro e a' w' hq
 obtain ⟨z,s',Ω',h1,h2,h3,h4⟩:=hq
 subst h2
 cases z with
 | normal=>
  cases h1
  obtain ⟨y,hy1,hy2,hy3⟩:=h4
  obtain ⟨Ω2,e2,hh2⟩:=df h3 (fM hy3)
  exact ⟨A.m y,by omega,s,A,y,Ω2,hround,hy1,rfl,e2,hh2⟩
 | exit id=>cases h1;exact ⟨.exit id,s',Ω',rfl,rfl,h3,h4⟩
 | ret=>cases h1;exact ⟨.ret,s',Ω',rfl,rfl,h3,h4⟩
 | pan pv=>obtain ⟨v,rfl,hv⟩:=h1;exact ⟨.pan pv,s',Ω',⟨v,rfl,hv⟩,rfl,h3,h4⟩
theorem kd (hm:P.follows .mixedOrders=true) (hT:aT P C.tbl) (hS:bH P C.spec) (keep:List Nat) (ann:An) :
  ∀(c:Code) (s:St) (Q:SX→St→Prop) (a:Act) (Ω:Om),swp C keep ann c s Q→bu F.n c=true→Holds F s.abs a Ω→c.wp P (QL F Q) a Ω.w:=by
 intro c
 induction c with
 | skip=>exact fun s Q a Ω h _ hh=>wp_skip ⟨.normal,s,Ω,rfl,rfl,hh,h⟩
 | region id ops draw=>
  intro s Q a Ω h hd hh
  simp only [swp] at h
  have hdst:∀(o:Oper),o∈ops.toList→∀d,o.dst=some d→d < F.n:=by
   intro o ho d hod
   simp only [bu,List.all_eq_true] at hd
   have:=hd o ho
   rw [hod] at this
   simpa using this
  split at h
  ·rename_i p f hn
   refine wp_mono (xK hT hn hdst hh) ?_
   rintro e a' w' ⟨z,s',Ω',h1,h2,h3,h4,b,h5,h6⟩
   subst h2 h4 h6
   have:=h b h5
   rw [cQ] at this
   exact ⟨.normal,f b,Ω',h1,rfl,h3,this⟩
  split at h
  ·exact h.elim
  rename_i sr hr0
  obtain ⟨Ωr,er,hhr⟩:=kS _ hh hr0
  rw [←er]
  split at h
  ·exact h.elim
  ·rename_i s0 hp0
   obtain ⟨Ω0,e0,hh0⟩:=iU _ hhr hp0
   split at h
   ·exact h.elim
   ·rename_i s1 he
    obtain ⟨Ω1,e1,hh1⟩:=jz hh0 he
    rw [←e0,←e1]
    split at h
    ·exact ky hm hT hS keep hdst h hh1
    ·rename_i J hJ
     obtain ⟨h1,h2⟩:=h
     rw [cQ] at h2
     refine wp_mono (ky hm hT hS keep hdst h1 hh1) ?_
     intro e a' w' hq
     obtain ⟨z,s',Ω',g1,g2,g3,g4⟩:=hq
     subst g2
     cases z with
     | normal=>
      cases g1
      obtain ⟨Ω2,e2,hh2⟩:=df g3 (fM g4)
      exact ⟨.normal,_,Ω2,rfl,e2,hh2,h2⟩
     | exit id=>exact ⟨.exit id,s',Ω',g1,rfl,g3,g4⟩
     | ret=>exact ⟨.ret,s',Ω',g1,rfl,g3,g4⟩
     | pan pv=>exact ⟨.pan pv,s',Ω',g1,rfl,g3,g4⟩
 | seq x y ihx ihy=>
  intro s Q a Ω h hd hh
  have hd0:=hd
  simp only [bu,Bool.and_eq_true] at hd
  simp only [swp] at h
  split at h
  ·rename_i L hL
   refine wp_mono (xG hT hL h hd0 hh) ?_
   rintro e a' w' ⟨rfl,s',Ω',h2,h3,h4⟩
   rw [cQ] at h4
   exact ⟨.normal,s',Ω',rfl,h2,h3,h4⟩
  split at h
  rotate_left
  ·rename_i J hJ
   obtain ⟨h1,h2⟩:=h
   rw [cQ] at h2
   refine wp_seq (wp_mono (ihx s _ a Ω h1 hd.1 hh) ?_)
   intro e a' w' hq
   obtain ⟨z,s',Ω',g1,g2,g3,g4⟩:=hq
   subst g2
   cases z with
   | normal=>
    cases g1
    obtain ⟨Ω2,e2,hh2⟩:=df g3 (fM g4)
    rw [←e2]
    exact ihy _ Q a' Ω2 h2 hd.2 hh2
   | exit id=>cases g1;exact ⟨.exit id,s',Ω',rfl,rfl,g3,g4⟩
   | ret=>cases g1;exact ⟨.ret,s',Ω',rfl,rfl,g3,g4⟩
   | pan pv=>obtain ⟨v,rfl,hv⟩:=g1;exact ⟨.pan pv,s',Ω',⟨v,rfl,hv⟩,rfl,g3,g4⟩
  refine wp_seq (wp_mono (ihx s _ a Ω h hd.1 hh) ?_)
  intro e a' w' hq
  obtain ⟨z,s',Ω',h1,h2,h3,h4⟩:=hq
  subst h2
  cases z with
  | normal=>cases h1;exact ihy s' Q a' Ω' h4 hd.2 h3
  | exit id=>cases h1;exact ⟨.exit id,s',Ω',rfl,rfl,h3,h4⟩
  | ret=>cases h1;exact ⟨.ret,s',Ω',rfl,rfl,h3,h4⟩
  | pan pv=>obtain ⟨v,rfl,hv⟩:=h1;exact ⟨.pan pv,s',Ω',⟨v,rfl,hv⟩,rfl,h3,h4⟩
 | cond c x y ihx ihy=>
  intro s Q a Ω h hd hh
  simp only [bu,Bool.and_eq_true] at hd
  simp only [swp] at h
  split at h
  ·rename_i b hb
   have hv:=b5 hh c
   have hb':opd s.abs.T c=.bool b:=hb
   rw [hb'] at hv
   have hv:=hv.bool_inv
   refine wp_cond hv ?_
   unfold sp at h
   have hset:Holds F (Ft c b s).abs a Ω:=by
    cases c with
    | tmp t=>
     refine ⟨fun i=>?_,hh.size,hh.defers,hh.slots,hh.dom,hh.inj,hh.pubok,hh.keep,hh.frame⟩
     have e:(Ft (.tmp t) b s).abs.T i=if t=i then .bool b else aS s.t i:=eV s.t t (.bool b) i
     rw [e]
     by_cases ht:t=i
     ·subst ht
      rw [if_pos rfl]
      have:=hh.tmps t
      rw [show s.abs.T t=.bool b from hb'] at this
      exact this
     ·rw [if_neg ht]
      exact hh.tmps i
    | _=>exact hh
   cases b with
   | true=>exact ihx _ Q a Ω (by simpa using h) hd.1 hset
   | false=>exact ihy _ Q a Ω (by simpa using h) hd.2 hset
  ·exact h.elim
 | block id c ih=>
  intro s Q a Ω h hd hh
  simp only [bu] at hd
  simp only [swp] at h
  refine wp_block (wp_mono (ih s _ a Ω h hd hh) ?_)
  intro e a' w' hq
  obtain ⟨z,s',Ω',h1,h2,h3,h4⟩:=hq
  subst h2
  cases z with
  | normal=>cases h1;exact ⟨.normal,s',Ω',rfl,rfl,h3,h4⟩
  | ret=>cases h1;exact ⟨.ret,s',Ω',rfl,rfl,h3,h4⟩
  | pan pv=>obtain ⟨v,rfl,hv⟩:=h1;exact ⟨.pan pv,s',Ω',⟨v,rfl,hv⟩,rfl,h3,h4⟩
  | exit j=>
   cases h1
   simp only [xJ,Exit.inBlock]
   by_cases hj:j=id
   ·subst hj
    simp only [if_true]
    simp only [beq_self_eq_true,if_true] at h4
    exact ⟨.normal,s',Ω',rfl,rfl,h3,h4⟩
   ·rw [if_neg hj]
    simp only [beq_iff_eq,hj,if_false] at h4
    exact ⟨.exit j,s',Ω',rfl,rfl,h3,h4⟩
 | loop c ih=>
  intro s Q a Ω h hd hh
  simp only [bu] at hd
  simp only [swp] at h
  have hW:∀(s:St) (Q:SX→St→Prop) (a:Act) (Ω:Om),swp C keep ann c s Q→Holds F s.abs a Ω→c.wp P (QL F Q) a Ω.w:=fun s Q a Ω h hh=>ih s Q a Ω h hd hh
  split at h
  ·refine sQ (uE F ann c (swp C keep ann c) Q) (wp_mono (hW s _ a Ω h hh) ?_) fun k a w hI=>nz hW hI
   intro e a' w' hq
   obtain ⟨z,s',Ω',h1,h2,h3,h4⟩:=hq
   subst h2
   cases z with
   | normal=>
    cases h1
    simp only [cQ] at h4
    split at h4
    ·rename_i s2 h5
     obtain ⟨Ω2,e2,hh2⟩:=kS _ h3 h5
     obtain ⟨k,hI⟩:=ny h4 hh2
     exact ⟨k,e2 ▸ hI⟩
    ·exact h4.elim
   | exit id=>cases h1;exact ⟨.exit id,s',Ω',rfl,rfl,h3,h4⟩
   | ret=>cases h1;exact ⟨.ret,s',Ω',rfl,rfl,h3,h4⟩
   | pan pv=>obtain ⟨v,rfl,hv⟩:=h1;exact ⟨.pan pv,s',Ω',⟨v,rfl,hv⟩,rfl,h3,h4⟩
  ·obtain ⟨k,hI⟩:=ny h hh
   exact wp_loop_ghost (uE F ann c (swp C keep ann c) Q) k hI fun k a w hI=>nz hW hI
 | exit id=>exact fun s Q a Ω h _ hh=>wp_exit ⟨.exit id,s,Ω,rfl,rfl,hh,h⟩
 | ret=>exact fun s Q a Ω h _ hh=>wp_ret ⟨.ret,s,Ω,rfl,rfl,hh,h⟩
 | rangeFunc g ps x y _ _=>exact fun s Q a Ω h=>by simp [swp] at h
 | scope c ih=>
  intro s Q a Ω h hd hh
  simp only [bu] at hd
  simp only [swp] at h
  refine wp_scope_straight (wp_mono (ih s _ a Ω h hd hh) ?_)
  intro e a' w' hq
  obtain ⟨z,s',Ω',h1,h2,h3,h4⟩:=hq
  cases z with
  | normal=>cases h1;exact ⟨.normal,s',Ω',rfl,h2,h3,h4⟩
  | exit id=>cases h1;exact ⟨.exit id,s',Ω',rfl,h2,h3,h4⟩
  | ret=>cases h1;exact ⟨.ret,s',Ω',rfl,h2,h3,h4⟩
  | pan pv=>obtain ⟨v,rfl,hv⟩:=h1;exact ⟨.pan pv,s',Ω',⟨v,rfl,hv⟩,h2,h3,h4⟩
 | label l=>exact fun s Q a Ω h _ hh=>wp_label ⟨.normal,s,Ω,rfl,rfl,hh,h⟩
 | goto l=>exact fun s Q a Ω h=>by simp [swp] at h
 | refuse why=>exact fun s Q a Ω h=>by simp [swp] at h
theorem eY:∀(l:List AV) (i j:Nat),aS (cC i l) j=if i<=j then l.getD (j - i) .undef else .undef
 | [],i,j=>by simp [cC,cY,cE]
 | v ::r,i,j=>by
  simp only [cC,cY,cE,eY r (i+1) j]
  by_cases h:i=j
  ·subst h;simp
  ·simp only [beq_iff_eq,h,if_false]
   by_cases h2:i<=j
   ·have e:j - i=(j - (i+1))+1:=by omega
    rw [if_pos h2,if_pos (by omega),e]
    simp
   ·rw [if_neg h2,if_neg (by omega)]
theorem ik {w:World} {pub:Nat→Nat→Prop} {e:Nat→Option CObj} {args:List AV} {vs:List Value} (k:Nat) (hv:VL ⟨e,w,pub⟩ args vs) (i:Nat) :
  V ⟨e,w,pub⟩ (aS (cC 0 args) i) ((vs.toArray++Array.replicate k undef).getD i undef):=by
 simp only [eY,Nat.zero_le,if_true,Nat.sub_zero]
 by_cases h:i < args.length
 ·have h':i < vs.length:=by rw [←hv.1];exact h
  have e1:args.getD i .undef=args[i]:=by simp [List.getD_eq_getElem?_getD,h]
  have e2:(vs.toArray++Array.replicate k undef).getD i undef=vs[i]:=by
   simp [Array.getD_eq_getD_getElem?,Array.getElem?_append,h']
  rw [e1,e2]
  exact hv.2 i _ _ (List.getElem?_eq_getElem h) (List.getElem?_eq_getElem h')
 ·have e1:args.getD i .undef=.undef:=by simp [List.getD_eq_getElem?_getD,h]
  rw [e1]
  exact .undef _
theorem iW {w:World} {pub:Nat→Nat→Prop} {e:Nat→Option CObj} {args:List AV} {vs:List Value} {n:Nat} {S:List (Nat × SObj)} (hp:ic w pub) (ht:gl w pub e) (hv:VL ⟨e,w,pub⟩ args vs) (hn:args.length<=n)
  (hs:∀id o,ak S id=some o→b9 ⟨e,w,pub⟩ (fun _ _=>True) id o) (hd:∀id,ak S id=none→e id=none) (hi:Inj e) (hl:∀id c,e id=some c→bp id=true) :
  Holds ⟨w,pub,n,e,hl,[],ht⟩ (St.abs ⟨cC 0 args,S⟩) {tmps:=vs.toArray++Array.replicate (n - vs.toArray.size) undef,defers:=[]} ⟨e,w,pub⟩:=
 ⟨fun i=>ik _ hv i,by simp;have:=hv.1;omega,rfl,fun id o ho=>(hs id o ho).own_of (fun c b oo hc hoc=>Or.inr ⟨id,c,hc,hoc⟩),fun id hid=>hd id hid,hi,hp,fun id c hc=>⟨c,hc,CLe.refl c⟩,
  ⟨rfl,rfl,rfl,Nat.le_refl _,fun _ _ _=>rfl,fun _ _ _ _=>rfl,fun _ _ _=>⟨rfl,fun _=>rfl⟩,fun _ _ h=>Or.inl h,fun _ _ h=>h,fun _ _ _=>rfl⟩⟩
def mK (tmps:Array Value):ResultVar→Sem Value
 | .tmp t=>pure (tmps.getD t undef)
 | .cell a t=>do loadVar t (←asAddr (tmps.getD a undef))
theorem kT (fn:Func) (tmps:Array Value):results fn tmps=(do
  let vs ←fn.results.mapM (mK tmps)
  pure (if h:vs.size=1 then vs[0] else .tuple vs)):=by
 unfold results
 congr 1
theorem dZ (hT:aT P C.tbl) {s:St} {a:Act} {Ω:Om} (hh:Holds F s.abs a Ω):∀(rs:List ResultVar) (l:List AV),jc C.tbl s rs=some l→
  ∃vs,(rs.mapM (mK a.tmps)).run P Ω.w=.ok vs Ω.w/\VL Ω l vs
 | [],l,h=>by
  simp [jc] at h
  subst h
  exact ⟨[],rfl,VL.nil⟩
 | .tmp t ::rs,l,h=>by
  simp only [jc] at h
  split at h
  ·rename_i l' hl'
   simp at h
   subst h
   obtain ⟨vs,k1,k2⟩:=dZ hT hh rs l' hl'
   exact ⟨_,by rw [List.mapM_cons];simp only [mK,Sem.run_bind,Sem.run_pure,Result.andThen_ok,k1],VL.cons (hh.tmps t) k2⟩
  ·cases h
 | .cell b t ::rs,l,h=>by
  simp only [jc] at h
  split at h
  ·rename_i id off rt hb hrt
   have hv:=hh.tmps b
   have e:s.abs.T b=.ptr id off:=hb
   rw [e] at hv
   obtain ⟨g,o',len,hv1,hv2⟩:=hv.ptr_inv
   split at h
   ·rename_i c hcs
    split at h
    ·rename_i x l' hx hl'
     simp at h
     subst h
     obtain ⟨vs,k1,k2⟩:=dZ hT hh rs l' hl'
     obtain ⟨b',off',e1,e2⟩:=hh.slots id _ hcs
     rw [hv2] at e1
     simp only [Xs,CObj.box.injEq] at e1
     obtain ⟨rfl,rfl,rfl⟩:=e1
     obtain ⟨v,w1,w2⟩:=gH (P:=P) (C:=C) (w:=Ω.w) hT hrt hx (b:=g) (o':=o') (fun j c' hc=>(e2 j c' hc).2.2.2)
     exact ⟨v ::vs,by rw [List.mapM_cons];simp only [mK,Sem.run_bind,hv1,asAddr,Sem.run_pure,Result.andThen_ok,w1,k1],VL.cons w2 k2⟩
    ·cases h
   ·cases h
  ·cases h
theorem Holds.retmp {s:AS} {a:Act} {Ω:Om} (h:Holds F s a Ω) {l:List AV} {vs:List Value} (hv:VL Ω l vs) :
  Holds ⟨F.w0,F.pub0,vs.length,F.e0,F.dom0,[],F.tab0⟩ ⟨aS (cC 0 l),s.B⟩ {tmps:=vs.toArray++Array.replicate 0 undef,defers:=[]} Ω:=
 ⟨fun i=>ik 0 hv i,by simp,rfl,h.slots,h.dom,h.inj,h.pubok,h.keep,
  ⟨h.frame.os,h.frame.tape,h.frame.output,h.frame.size,h.frame.block,h.frame.cell,h.frame.kind,h.frame.pub,h.frame.old,h.frame.pcell⟩⟩
theorem gu {w:World} {pub:Nat→Nat→Prop} {e:Nat→Option CObj} {n:Nat} {hl:∀id c,e id=some c→bp id=true} {ht:gl w pub e} {T:Nat→AV} {B:List (Nat × SObj)} {a:Act} {Ω:Om}
  (h:Holds ⟨w,pub,n,e,hl,[],ht⟩ ⟨T,ak B⟩ a Ω):After w pub e (ak B) Ω.w Ω.pub Ω.e:=by
 refine ⟨h.frame.os,h.frame.tape,h.frame.output,h.frame.size,h.frame.block,h.frame.cell,h.frame.kind,⟨h.keep,h.frame.old,h.frame.pcell⟩,fun b o hp=>?_,h.pubok,h.slots,h.dom,h.inj⟩
 rcases h.frame.pub b o hp with q | q | q
 ·exact Or.inl q
 ·exact Or.inr (Or.inl q)
 ·exact Or.inr (Or.inr q)
theorem il {α:Type} {l:List α} (h:l.length=1):∃x,l=[x]:=by
 match l,h with
 | [x],_=>exact ⟨x,rfl⟩
theorem Bj (hm:P.follows .mixedOrders=true) (hT:aT P C.tbl) (hS:bH P C.spec) {ann:An} {f:Nat} {fn:Func} (hf:P.funcs[f]?=some fn)
  {args:List AV} {S:List (Nat × SObj)} {A:Ans} (h:fwp C ann fn args S A):aw P f args S A:=by
 intro w pub e vs hp ht hv hs hdom hinj
 unfold fwp at h
 split at h
 ·exact h.elim
 ·rename_i c hb
  split at h
  ·exact h.elim
  ·rename_i hck
   simp only [Bool.and_eq_true,List.all_eq_true] at hck
   obtain ⟨⟨hck1,hck2⟩,hck3⟩:=hck
   have hlen:=dj _ _ hck2
   rw [gr,cQ] at h
   have hlent:∀id c,e id=some c→bp id=true:=by
    intro id c hc
    cases hg:ak S id with
    | none=>rw [hdom id hg] at hc;cases hc
    | some o=>exact hck3 id (List.mem_map.2 ⟨(id,o),ck _ _ _ hg,rfl⟩)
   refine calls_of_wp hf hb ?_
   have hh:=iW (n:=fn.ntmps) hp ht hv hlen hs hdom hinj hlent
   refine wp_mono (kd (F:=⟨w,pub,fn.ntmps,e,hlent,[],ht⟩) hm hT hS _ ann c _ _ _ _ h hck1 hh) ?_
   intro en a' w' hq
   obtain ⟨z,s',Ω',h1,h2,h3,h4⟩:=hq
   subst h2
   have hmap:∀us,(fn.results.toList.mapM (mK a'.tmps)).run P Ω'.w=.ok us Ω'.w→
     (results fn a'.tmps).run P Ω'.w=.ok (if h:us.toArray.size=1 then us.toArray[0] else .tuple us.toArray) Ω'.w:=by
    intro us hus
    rw [kT,←Array.toArray_toList (xs:=fn.results),List.mapM_toArray]
    simp only [Sem.run_bind,Sem.run_map,hus,Result.andThen_ok,Sem.run_pure]
   have key:((match A.pan with | some (b,_,_)=>b=false | none=>True)/\rq (jc C.tbl s' fn.results.toList) s' A.val (bU S A.upd))→
     a'.defers=[]/\∃v,(results fn a'.tmps).run P Ω'.w=.ok v Ω'.w/\∃pub' e',(∀b pv u,A.pan=some (b,pv,u)→b=false)/\V ⟨e',Ω'.w,pub'⟩ A.val v/\After w pub e (ak (bU S A.upd)) Ω'.w pub' e':=by
    rintro ⟨hpan,hend⟩
    refine ⟨h3.defers,?_⟩
    have hpan':∀b pv u,A.pan=some (b,pv,u)→b=false:=by
     intro b pv u hpa
     rw [hpa] at hpan
     exact hpan
    unfold rq at hend
    split at hend
    ·rename_i x hres
     obtain ⟨us,k1,k2⟩:=dZ hT h3 _ _ hres
     obtain ⟨u,rfl⟩:=il (by rw [←k2.1];rfl)
     obtain ⟨Ω2,e2,hh2⟩:=df (s:=⟨[(0,x)],s'.b⟩) (h3.retmp k2) (fM hend)
     refine ⟨u,by simpa using hmap [u] k1,Ω2.pub,Ω2.e,hpan',?_,?_⟩
     ·have:=hh2.tmps 0
      rw [←e2]
      exact this
     ·rw [←e2]
      exact gu hh2
    ·rename_i l hne hres
     split at hend
     ·rename_i rs hval
      split at hend
      ·rename_i hln
       have hl2:=bE _ _ hln
       obtain ⟨us,k1,k2⟩:=dZ hT h3 _ _ hres
       obtain ⟨Ω2,e2,hh2⟩:=df (s:=⟨cC 0 l,s'.b⟩) (h3.retmp k2) (fM hend)
       have hsz:¬us.toArray.size=1:=by
        intro h1
        obtain ⟨x,hx⟩:=il (l:=l) (by rw [k2.1];simpa using h1)
        exact hne x hx
       refine ⟨.tuple us.toArray,?_,Ω2.pub,Ω2.e,hpan',?_,?_⟩
       ·rw [hmap us k1,dif_neg hsz]
       ·rw [hval]
        refine .tup rs us (by rw [←k2.1,←hl2]) (fun j c v hc hv=>?_)
        have:=hh2.tmps j
        simp only [St.abs,eY,Nat.zero_le,if_true,Nat.sub_zero,List.getD_eq_getElem?_getD,hc,Option.getD_some] at this
        have e3:(us.toArray++Array.replicate 0 undef).getD j undef=v:=by
         simp [Array.getD_eq_getD_getElem?,hv]
        rw [e3,] at this
        rw [←e2]
        exact this
       ·rw [←e2]
        exact gu hh2
      ·exact hend.elim
     ·exact hend.elim
    ·exact hend.elim
   cases z with
   | normal=>cases h1;exact key h4
   | exit id=>exact h4.elim
   | ret=>cases h1;exact key h4
   | pan pv=>
    obtain ⟨v,rfl,hv⟩:=h1
    simp only at h4
    split at h4
    ·rename_i b pv' pu hpa
     obtain ⟨hbt,hend⟩:=h4
     subst hbt
     obtain ⟨Ω2,e2,hh2⟩:=df (s:=⟨[(0,pv)],s'.b⟩) (h3.retmp (VL.cons hv .nil)) (fM hend)
     refine ⟨h3.defers,Ω2.pub,Ω2.e,pv',pu,v,hpa,rfl,?_,?_⟩
     ·have:=hh2.tmps 0
      rw [←e2]
      exact this
     ·rw [←e2]
      exact gu hh2
    ·exact h4.elim
end
end Go.AL
end
noncomputable section
namespace Go.AL
variable [Tabs]
theorem TRok.mk' {P:Program} {t:Nat} {r:TR}
  (h1:(P.info? t).map (fun i=>(i.size,i.bytes,i.zero.map fun z=>z.cells.toList.map bM))=some (r.size,r.bytes,some r.zero))
  (h2:(P.underlying t).map (aH P r.ti)=some true)
  (h3:(eo r.zero r.size && (Nat.beq r.size 0 || Nat.blt 0 r.bytes) && (match r.ty with | some τ=>Nat.beq (ae τ) r.size && (Fl τ ==r.isAgg) | none=>true))=true)
  (h8:(P.info? t).map (fun i=>i.zero.map fun z=>xh z ==r.isAgg)=some (some true))
  (h9:(match r.ti with | .strct true _=>!P.stoodInHeld t && !P.eqGuardType P.depth t | _=>true)=true):TRok P t r:=by
 simp only [Bool.and_eq_true,Bool.or_eq_true,Nat.beq_eq,Nat.blt_eq] at h3
 obtain ⟨⟨h5,h6⟩,h7⟩:=h3
 refine ⟨?_,bE _ _ h5,fun hz=>?_,?_,fun τ hτ=>?_,fun i z hi hz=>?_,fun fs hfs=>?_⟩
 ·cases hi:P.info? t with
  | none=>rw [hi] at h1;simp at h1
  | some i=>
   rw [hi] at h1
   simp only [Option.map_some,Xs,Prod.mk.injEq,Option.map_eq_some_iff] at h1
   obtain ⟨e1,e2,z,e3,e4⟩:=h1
   exact ⟨i,z,rfl,e1,e2,e3,e4⟩
 ·rcases h6 with h6 | h6
  ·omega
  ·exact h6
 ·cases hd:P.underlying t with
  | none=>rw [hd] at h2;simp at h2
  | some d=>
   rw [hd] at h2
   exact ⟨d,rfl,by simpa using h2⟩
 ·rw [hτ] at h7
  simpa using h7
 ·rw [hi] at h8
  simp [hz] at h8
  exact h8
 ·rw [hfs] at h9
  simpa using h9
theorem aT.nil {P:Program}:aT P []:=fun t r h=>by simp [ri,oI] at h
theorem aT.cons {P:Program} {t:Nat} {r:TR} {l:List (Nat × TR)} (h:TRok P t r) (hl:aT P l):aT P ((t,r) ::l):=by
 intro t' r' h'
 simp only [ri,oI] at h'
 by_cases e:t=t'
 ·subst e
  simp at h'
  subst h'
  exact h
 ·simp only [beq_iff_eq,e,if_false] at h'
  exact hl t' r' h'
theorem an.mk' {P:Program} {f:Nat} {fn:Func} (h:P.funcs[f]?=some fn) (h2:(fn.body.isNone || (fn.name == "runtime.NumGoroutine"))=false):an P f:=by
 simp only [Bool.or_eq_false_iff] at h2
 exact ⟨fn,h,h2.1,h2.2⟩
end Go.AL
end
noncomputable section
namespace Go.AL
def Wf (τ:Ty) (x:den τ):Prop:=∃Ω v,V Ω (inj τ x) v
def WfL (args:List AV):Prop:=∃Ω vs,VL Ω args vs
theorem Wf.str {s:Str} (h:Wf .str s):s.length<=9223372036854775807:=letI:=sw;let ⟨_,_,h⟩:=h;h.str_inv.2
theorem Wf.len {τ:Ty} {xs:List (den τ)} (h:Wf (.lst τ) xs):xs.length<=9223372036854775807:=by
 letI:=sw
 obtain ⟨Ω,v,h⟩:=h
 rcases h.lst_inv with ⟨h1,_,_⟩ | ⟨h1,_,_⟩ | ⟨b,off,cap,vals,hv,h1,h2,_⟩
 ·rw [h1];simp
 ·rw [h1];simp
 ·unfold b8 at h2;omega
theorem VL.inj {Ω:Om} {τ:Ty} {x:den τ} {vs:List Value} (h:VL Ω (cells τ x) vs):∃v,V Ω (inj τ x) v:=by
 cases τ with
 | st n=>exact ⟨_,.st n x _ (V.of_agg h)⟩
 | int k=>match vs,h with | [v],h=>exact ⟨v,h.head⟩
 | bool=>match vs,h with | [v],h=>exact ⟨v,h.head⟩
 | str=>match vs,h with | [v],h=>exact ⟨v,h.head⟩
 | lst t=>match vs,h with | [v],h=>exact ⟨v,h.head⟩
 | pt n=>match vs,h with | [v],h=>exact ⟨v,h.head⟩
theorem Wf.mem {τ:Ty} {xs:List (den τ)} (h:Wf (.lst τ) xs) {x:den τ} (hx:x∈xs):Wf τ x:=by
 letI:=sw
 obtain ⟨Ω,v,h⟩:=h
 rcases h.lst_inv with ⟨h1,_,_⟩ | ⟨h1,_,_⟩ | ⟨b,off,cap,vals,hv,h1,h2,h3,h4,h5⟩
 ·rw [h1] at hx;simp at hx
 ·rw [h1] at hx;simp at hx
 ·obtain ⟨i,hi⟩:=List.getElem?_of_mem hx
  have:VL Ω (cells τ x) ((List.range (cells τ x).length).map (vals i)):=by
   refine ⟨by simp,fun j c v hc hv=>?_⟩
   have hj:j < (cells τ x).length:=by
    rcases Nat.lt_or_ge j (cells τ x).length with k | k
    ·exact k
    ·rw [List.getElem?_eq_none k] at hc;cases hc
   simp [hj] at hv
   subst hv
   exact h5 i x hi j c hc
  obtain ⟨v',hv'⟩:=this.inj
  exact ⟨Ω,v',hv'⟩
theorem Wf.cell {n:SN} {x:SD n} (h:Wf (.st n) x) (j:Nat) {τ:Ty} {y:den τ} (hc:(cells (.st n) x)[j]?=some (AL.inj τ y)):Wf τ y:=by
 obtain ⟨Ω,v,h⟩:=h
 cases h with
 | st _ _ v hv=>
  obtain ⟨vs,_,hl⟩:=hv.agg_inv
  have hj:j < vs.length:=by
   rw [←hl.1]
   rcases Nat.lt_or_ge j (cells (.st n) x).length with k | k
   ·exact k
   ·rw [List.getElem?_eq_none k] at hc;cases hc
  exact ⟨Ω,_,hl.2 j _ _ hc (List.getElem?_eq_getElem hj)⟩
theorem Wf.names {s:Shape} (h:Wf (.st .shape) s):Wf (.lst .str) s.names:=h.cell 3 (τ:=.lst .str) (y:=s.names) rfl
theorem Wf.parts {s:Shape} (h:Wf (.st .shape) s):Wf (.lst (.st .shape)) s.parts:=h.cell 4 (τ:=.lst (.st .shape)) (y:=s.parts) rfl
theorem Wf.term_shapes {x:Trm} (h:Wf (.st .term) x):Wf (.lst (.st .shape)) x.shapes:=(h.cell 6 (τ:=.lst (.st .shape)) (y:=x.shapes) rfl)
theorem Wf.term_parts {x:Trm} (h:Wf (.st .term) x):Wf (.lst (.st .term)) x.parts:=(h.cell 7 (τ:=.lst (.st .term)) (y:=x.parts) rfl)
theorem Wf.modu_imports {x:Modu} (h:Wf (.st .modu) x):Wf (.lst (.st .imp)) x.imports:=(h.cell 1 (τ:=.lst (.st .imp)) (y:=x.imports) rfl)
theorem Wf.modu_decls {x:Modu} (h:Wf (.st .modu) x):Wf (.lst (.st .decl)) x.decls:=(h.cell 2 (τ:=.lst (.st .decl)) (y:=x.decls) rfl)
theorem Wf.modu_exports {x:Modu} (h:Wf (.st .modu) x):Wf (.lst .str) x.exports:=(h.cell 3 (τ:=.lst .str) (y:=x.exports) rfl)
theorem WfL.cons {a:AV} {l:List AV} (h:WfL (a ::l)):(∃Ω v,V Ω a v)/\WfL l:=by
 obtain ⟨Ω,vs,h⟩:=h
 rcases h.cases with ⟨e,_⟩ | ⟨c,cs,v,vs',e,_,h1,h2⟩
 ·cases e
 ·cases e;exact ⟨⟨Ω,v,h1⟩,Ω,vs',h2⟩
theorem WfL.one {τ:Ty} {x:den τ} {l:List AV} (h:WfL (inj τ x ::l)):Wf τ x:=h.cons.1
theorem WfL.two {a:AV} {τ:Ty} {x:den τ} {l:List AV} (h:WfL (a ::inj τ x ::l)):Wf τ x:=h.cons.2.cons.1
theorem WfL.three {a b:AV} {τ:Ty} {x:den τ} {l:List AV} (h:WfL (a ::b ::inj τ x ::l)):Wf τ x:=h.cons.2.cons.2.cons.1
section
variable [Tabs]
variable {P:Program}
theorem aw.wf {f:Nat} {args:List AV} {S:List (Nat × SObj)} {A:Ans} (h:WfL args→aw P f args S A):aw P f args S A:=
 fun w pub e vs hp ht hv hs hd hi=>h ⟨_,vs,hv⟩ w pub e vs hp ht hv hs hd hi
theorem aw.args {f:Nat} {args args':List AV} {S:List (Nat × SObj)} {A:Ans} (ha:RdL args args') (h:aw P f args' S A):aw P f args S A:=
 fun w pub e vs hp ht hv hs hd hi=>h w pub e vs hp ht (hv.rd ha) hs hd hi
abbrev Pat:=List AV→List (Nat × SObj)→Option Ans
def fH:List (Nat × Pat)→Nat→Pat
 | [],_=>fun _ _=>none
 | (i,g) ::l,f=>fun args S=>
  match Nat.beq i f with
  | true=>(match g args S with | some A=>some A | none=>fH l f args S)
  | false=>fH l f args S
def ag (P:Program) (f:Nat) (g:Pat):Prop:=
 ∀args S A,g args S=some A→(∀q,A.ob=some q→q)→(aG S).all bp=true→an P f/\aw P f args S A
theorem rE:bH P (fH []):=fun f args S A h=>by simp [fH] at h
theorem pD {f:Nat} {g:Pat} {l:List (Nat × Pat)} (h:ag P f g) (hl:bH P (fH l)):bH P (fH ((f,g) ::l)):=by
 intro f' args S A hA ho hk
 simp only [fH] at hA
 split at hA
 ·rename_i hb
  have e:f=f':=Nat.eq_of_beq_eq_true hb
  subst e
  split at hA
  ·rename_i A' hg
   simp at hA
   subst hA
   exact h args S A' hg ho hk
  ·exact hl f args S A hA ho hk
 ·exact hl f' args S A hA ho hk
def p1 (τ:Ty) (F:den τ→Ans):Pat
 | [a],[]=>(match arg τ a with | some a=>some (F a) | none=>none)
 | _,_=>none
def p2 (τ σ:Ty) (F:den τ→den σ→Ans):Pat
 | [a,b],[]=>(match arg τ a,arg σ b with | some a,some b=>some (F a b) | _,_=>none)
 | _,_=>none
def pf (τ:Ty) (n:Nat) (F:den τ→Ans):Pat
 | [a,.fn f []],[]=>(match Nat.beq f n with | true=>(match arg τ a with | some a=>some (F a) | none=>none) | false=>none)
 | _,_=>none
def p3 (τ σ ρ:Ty) (F:den τ→den σ→den ρ→Ans):Pat
 | [a,b,c],[]=>(match arg τ a,arg σ b,arg ρ c with | some a,some b,some c=>some (F a b c) | _,_,_=>none)
 | _,_=>none
theorem Rd.arg {τ:Ty} {a:AV} {x:den τ} (h:AL.arg τ a=some x):Rd a (inj τ x):=fun _ _ hv=>Dk hv h
theorem ax {f:Nat} {τ:Ty} {F:den τ→Ans} (he:an P f) (h:∀x,Wf τ x→(∀q,(F x).ob=some q→q)→aw P f [inj τ x] [] (F x)):ag P f (p1 τ F):=by
 intro args S A hA ho _
 unfold p1 at hA
 split at hA
 ·split at hA
  ·rename_i x hx
   simp at hA
   subst hA
   exact ⟨he,aw.args (.cons (Rd.arg hx) .nil) (aw.wf fun hw=>h x hw.one ho)⟩
  ·cases hA
 ·cases hA
theorem bX {f:Nat} {τ σ:Ty} {F:den τ→den σ→Ans} (he:an P f)
  (h:∀x y,Wf τ x→Wf σ y→(∀q,(F x y).ob=some q→q)→aw P f [inj τ x,inj σ y] [] (F x y)):ag P f (p2 τ σ F):=by
 intro args S A hA ho _
 unfold p2 at hA
 split at hA
 ·split at hA
  ·rename_i x y hx hy
   simp at hA
   subst hA
   exact ⟨he,aw.args (.cons (Rd.arg hx) (.cons (Rd.arg hy) .nil)) (aw.wf fun hw=>h x y hw.one hw.two ho)⟩
  ·cases hA
 ·cases hA
theorem kz {f:Nat} {τ:Ty} {n:Nat} {F:den τ→Ans} (he:an P f) (h:∀x,Wf τ x→(∀q,(F x).ob=some q→q)→aw P f [inj τ x,.fn n []] [] (F x)):ag P f (pf τ n F):=by
 intro args S A hA ho _
 unfold pf at hA
 split at hA
 ·split at hA
  ·rename_i hb
   have e:=Nat.eq_of_beq_eq_true hb
   subst e
   split at hA
   ·rename_i x hx
    simp at hA
    subst hA
    exact ⟨he,aw.args (.cons (Rd.arg hx) (.cons (Rd.refl _) .nil)) (aw.wf fun hw=>h x hw.one ho)⟩
   ·cases hA
  ·cases hA
 ·cases hA
theorem GA {f:Nat} {τ σ ρ:Ty} {F:den τ→den σ→den ρ→Ans} (he:an P f)
  (h:∀x y z,Wf τ x→Wf σ y→Wf ρ z→(∀q,(F x y z).ob=some q→q)→aw P f [inj τ x,inj σ y,inj ρ z] [] (F x y z)):ag P f (p3 τ σ ρ F):=by
 intro args S A hA ho _
 unfold p3 at hA
 split at hA
 ·split at hA
  ·rename_i x y z hx hy hz
   simp at hA
   subst hA
   exact ⟨he,aw.args (.cons (Rd.arg hx) (.cons (Rd.arg hy) (.cons (Rd.arg hz) .nil))) (aw.wf fun hw=>h x y z hw.one hw.two hw.three ho)⟩
  ·cases hA
 ·cases hA
end
end Go.AL
end
noncomputable section
namespace Go.AL
theorem ai {α:Type} (l:List α) (k:Nat) (d:α) (h:k < l.length):l.drop k=l.getD k d ::l.drop (k+1):=by
 rw [List.drop_eq_getElem_cons h]
 simp [List.getD_eq_getElem?_getD,h]
theorem aL {α:Type} (l:List α) (k:Nat) (d:α) (h:k < l.length):l.getD k d∈l:=by
 simp [List.getD_eq_getElem?_getD,h]
theorem bw {α:Type} (l:List α) (k:Nat) (d:α) (h:k < l.length):l.take (k+1)=l.take k++[l.getD k d]:=by
 rw [List.take_succ_eq_append_getElem h]
 simp [List.getD_eq_getElem?_getD,h]
theorem aJ {n:Int} (h1:-9223372036854775808<=n) (h2:n<=9223372036854775807):inR .i64 n:=by
 constructor <;> simp [IntKind.min,IntKind.max,IntKind.signed,IntKind.bits] <;> omega
theorem ar {n m:Nat} (h1:n < m) (h2:m<=9223372036854775807):inR .i64 ((n:Int)+1):=aJ (by omega) (by omega)
theorem jE {p:Prop} [Decidable p]:(decide p=true)=p:=by simp
theorem aa {c p q:Prop} [Decidable c] (h1:c→p) (h2:¬c→q):if c then p else q:=by
 by_cases h:c
 ·rw [if_pos h];exact h1 h
 ·rw [if_neg h];exact h2 h
abbrev nV (α:Type):List α:=[]
theorem Dw [Tabs] {P:Program} {C:Cfg} (hm:P.follows .mixedOrders=true) (hT:aT P C.tbl) (hS:bH P C.spec) {ann:An} {f:Nat} {fn:Func} (hf:P.funcs[f]?=some fn)
  {args:List AV} {S:List (Nat × SObj)} {A:Ans} {Q:Prop} (q:Q) (h:fwp C ann fn args S A=Q):aw P f args S A:=Bj hm hT hS hf (h.mpr q)
end Go.AL
end
noncomputable section
namespace Go.AL
variable [Tabs]
open Go.ChangeShapes Go.WideShapes Go.RowKit
def Aj (w:World) (b o:Nat):Prop:=∃v,w.cell? ⟨b,o,none⟩=some v
def Om0 (w:World):Om:=⟨fun _=>none,w,Aj w⟩
theorem Bk {P:Program} {f:Nat} {args:List AV} (h:aw P f args [] (.ret (.bool true))) {w:World} {vs:List Value} (htab:∀b o v,Tabs.tab b o v→w.cell? ⟨b,o,none⟩=some v) (hobj:∀b x,Tabs.obj b x→w.heap[b]?=some x) (hv:VL (Om0 w) args vs) :
  Calls P f vs.toArray w fun e w'=>e=.returned (.bool true)/\RowKit.Below w.heap.size w w':=by
 refine Calls.mono (h w (Aj w) (fun _=>none) vs (fun _ _ h=>h) ⟨fun b o v ht=>⟨⟨v,htab b o v ht⟩,htab b o v ht⟩,fun b x hx=>⟨hobj b x hx,fun o ⟨_,_,hc,_⟩=>by cases hc⟩⟩ hv (fun id o ho=>by simp [aM,aF] at ho) (fun _ _=>rfl) (fun i j c d b o hc=>by cases hc)) ?_
 intro e w' hq
 obtain ⟨pub',e',hq⟩:=hq
 cases e with
 | returned v=>
  obtain ⟨_,hv,ha⟩:=hq
  have:=hv.bool_inv
  subst this
  exact ⟨rfl,ha.os,ha.tape,ha.output,ha.size,fun b hb=>ha.block b hb fun o ⟨id,c,hc,_⟩=>by cases hc⟩
 | panicked ch=>
  obtain ⟨pv,u,v,hp,_⟩:=hq
  cases hp
 | outgrown=>exact hq.elim
section
variable {H:Type} {enc:TypeId × Value→H} {P:Program}
theorem kA (hl:laidOutB P=true) {W W':World} (hb:Below W.heap.size W W') {sp:Nat→Bool}:∀{ts:List TypeId} {vs:List Value} {ds:List (DataW H)} {p:List MemPlace},
  (∀t∈ts,P.readableRec t=true/\t < P.types.size)→DataW.TrodAll enc P W 0 (fun _=>true) true ts vs ds p→(∀x∈p,x.block < W.heap.size)→(∀x∈p,sp x.block=true)→DataW.TrodAll enc P W' 0 sp true ts vs ds p
 | [],_,_,_,_,h,_,_=>by
  obtain ⟨rfl,rfl,rfl⟩:=trodAll_nil h
  exact h
 | t ::ts,_,_,_,hr,h,hlt,hsp=>by
  obtain ⟨v,vs,d,ds,p,q,rfl,rfl,rfl,h1,h2⟩:=trodAll_cons h
  obtain ⟨r1,r2⟩:=hr t (by simp)
  exact ⟨p,q,WideElems.Trod_stays hl r1 r2 h1 (fun x hx=>hb.same (hlt x (by simp [hx]))) (fun x hx=>hsp x (by simp [hx])),
   kA hl hb (fun t ht=>hr t (by simp [ht])) h2 (fun x hx=>hlt x (by simp [hx])) (fun x hx=>hsp x (by simp [hx])),rfl⟩
theorem Dx (hl:laidOutB P=true) {f:Func} {s:ChangeSpec} {apart fresh handsOn again:Bool} {W W':World} {args:Array Value} {ds gs:List (DataW H)} {before:List MemPlace} {tb:TypeId}
  (hr:∀t∈f.params.toList,P.readableRec t=true/\t < P.types.size) (hvars:s.vars=[]) (hfn:∀ds:List (DataW H),ds.length=f.params.size→s.fn H ds={results:=[.lit (.bool true)],args:=ds}) (hrt:f.resultTypes=#[tb]) (htb:P.underlying tb=some .bool)
  (hW:DataW.Whole enc P f.params.toList s.vars apart W args.toList ds gs before) (hb:Below W.heap.size W W'):s.post enc P f apart fresh handsOn again W args (.bool true) W':=by
 have hlt:∀p∈before,p.block < W.heap.size:=fun p hp=>hW.lt p hp
 have hW0:=hW
 obtain ⟨p,q,hA,hV,e,hz,hn⟩:=hW
 rw [hvars] at hV
 obtain ⟨rfl,rfl⟩:=trodVars_none hV
 rw [List.append_nil] at e
 subst e
 have hlen:ds.length=f.params.size:=by
  have:∀{ts:List TypeId} {vs:List Value} {ds:List (DataW H)} {p:List MemPlace},DataW.TrodAll enc P W 0 (fun _=>true) true ts vs ds p→ds.length=ts.length:=by
   intro ts
   induction ts with
   | nil=>intro vs ds p h;obtain ⟨rfl,rfl,rfl⟩:=trodAll_nil h;rfl
   | cons t ts ih=>intro vs ds p h;obtain ⟨v,vs,d,ds,p,q,rfl,rfl,rfl,h1,h2⟩:=trodAll_cons h;simp [ih h2]
  simpa using this hA
 have hf:=hfn ds hlen
 have hs:∀sp:Nat→Bool,(∀x∈before,sp x.block=true)→DataW.TrodAll enc P W' 0 sp true f.params.toList args.toList ds before:=fun sp hsp=>kA hl hb hr hA hlt hsp
 have hres:∀(b:Nat) (sp:Nat→Bool) (hd:Bool),DataW.TrodAll enc P W' b sp hd f.resultTypes.toList ((Value.bool true).resultList f.resultTypes.size) [.lit (.bool true)] []:=by
  intro b sp hd
  rw [hrt]
  exact trodAll_cons_mk (shut_bool htb true) trodAll_mk0
 have hvs:DataW.TrodVars enc P W' (fun b=>decide (b < W.heap.size)) s.vars [] []:=by rw [hvars];rfl
 refine ⟨ds,[],before,[],before,[],hW0,?_,?_,?_,World.keptBut_mono (fun x hx=>⟨hx,.inr (.inl hx)⟩) (hb.frame (·∈before)),fun _=>⟨?_,?_⟩⟩
 ·rw [List.append_nil,hf];exact hres _ _ _
 ·rw [List.append_nil,hf];exact hs _ fun x hx=>by simpa using hlt x hx
 ·rw [List.append_nil,hf];exact hvs
 ·intro j t r h1 h2
  rw [hrt] at h1 h2
  cases j with
  | zero=>
   simp at h1
   subst h1
   have:r=.bool true:=by
    simp [Value.resultList] at h2
    exact h2.symm
   subst this
   simp [Value.okWide,htb,Cell.okWide,Cell.ok]
  | succ j=>simp at h1
 ·refine ⟨[.lit (.bool true)]++ds,[],[]++before,⟨[]++before,[],trodAll_append (hs _ fun _ _=>rfl) (hres _ _ _),by rw [hvars];rfl,by simp,fun b off hp=>?_,fun ha=>by simpa using hn ha⟩,fun x hx _=>by simpa using hx⟩
  have hin:MemPlace.cell b off∈before:=by simpa using hp
  rw [hb.frozen (p:=⟨b,off,none⟩) (hlt _ hin)]
  exact hz b off hin
variable {w:World} {base:Nat} {sp:Nat→Bool} {held:Bool}
theorem jd {t:TypeId} {k:IntKind} {fuel:Nat} {cs:List Value} {x:DataW H × List MemPlace} (ht:P.underlying t=some (.int k)) (h:DataW.trod enc P w base sp held fuel t cs=some x) :
  ∃n:Int,cs=[.int k n]/\V (Om0 w) (.int k n) (.int k n):=by
 obtain ⟨n,rfl,_,hw⟩:=DataW.trod_int ht h
 simp only [Lit.wf,Bool.and_eq_true,decide_eq_true_eq] at hw
 exact ⟨n,rfl,.int k n hw.1 hw.2⟩
theorem kB {t:TypeId} {fuel:Nat} {cs:List Value} {x:DataW H × List MemPlace} (ht:P.underlying t=some .string) (h:DataW.trod enc P w base sp held fuel t cs=some x) :
  ∃(s:Str) (v:Value),cs=[v]/\V (Om0 w) (.str s) v:=by
 obtain ⟨s,rfl,_,hw⟩:=DataW.trod_string ht h
 refine ⟨s.data.toList,_,rfl,?_⟩
 have e:s=⟨s.data.toList.toArray⟩:=by cases s;simp
 have hl:s.data.toList.length<=b8:=by
  have:s.data.size=s.size:=rfl
  unfold maxLen at hw
  unfold b8
  simp only [Array.length_toList,this]
  omega
 have:=V.str (Ω:=Om0 w) s.data.toList hl
 rw [←e] at this
 exact this
theorem Hx {t e:TypeId} {τ:Ty} {fuel:Nat} {cs:List Value} {x:DataW H × List MemPlace} (ht:P.underlying t=some (.slice e)) (hc:P.cellsOf e=ae τ) (h:DataW.trod enc P w base sp held fuel t cs=some x)
  (hel:∀(n:Nat) (ds:List Value) (y:DataW H × List MemPlace),fuel=n+1→DataW.trod enc P w base sp held n e ds=some y→∃z:den τ,VL (Om0 w) (cells τ z) ds)
  (hsp:∀a len cap,cs=[.slice (some a) len cap]→a.spot=none):∃(l:List (den τ)) (v:Value),cs=[v]/\V (Om0 w) (.lst τ l none) v:=by
 rcases DataW.trod_slice ht h with ⟨rfl,_⟩ | ⟨a,len,cap,elems,rest,n,hfu,rfl,_,_,hlc,hcm,hlen,hels,_,_⟩
 ·exact ⟨[],_,rfl,.lstNil τ none (fun id hid=>by cases hid)⟩
 ·have hs:=hsp a len cap rfl
  obtain ⟨b,off,spot⟩:=a
  simp only at hs
  subst hs
  have each:∀i,i < len→∃z:den τ,∃ds:List Value,ds.length=ae τ/\(∀j,j < ae τ→w.cell? ⟨b,off+(i *ae τ+j),none⟩=ds[j]?)/\VL (Om0 w) (cells τ z) ds:=by
   intro i hi
   have h1:=hels i hi
   obtain ⟨y,hy⟩:∃y,elems[i]?=some y:=⟨_,List.getElem?_eq_getElem (by omega)⟩
   rw [hy,hc,Option.bind_eq_some_iff] at h1
   obtain ⟨ds,hd,hy'⟩:=h1
   obtain ⟨_,hdl,hdc⟩:=World.cells?_some hd
   obtain ⟨z,hz⟩:=hel n ds y hfu hy'
   refine ⟨z,ds,hdl,fun j hj=>?_,hz⟩
   have:=hdc j hj
   have ha:∀(o n:Nat),(⟨b,o,none⟩:Addr).add n=⟨b,o+n,none⟩:=by
    intro o n
    unfold Addr.add
    by_cases h0:n=0
    ·subst h0;rfl
    ·rw [if_neg h0]
   rw [ha,ha,Nat.add_assoc] at this
   exact this
  have hz:∃l:List (den τ),l.length=len/\∀i z,l[i]?=some z→∃ds:List Value,ds.length=ae τ/\(∀j,j < ae τ→w.cell? ⟨b,off+(i *ae τ+j),none⟩=ds[j]?)/\VL (Om0 w) (cells τ z) ds:=by
   refine ⟨(List.range len).attach.map fun i=>(each i.1 (List.mem_range.1 i.2)).choose,by simp,fun i z hi=>?_⟩
   have hil:i < len:=by
    have:=(List.getElem?_eq_some_iff.1 hi).1
    simpa using this
   simp only [List.getElem?_map,Option.map_eq_some_iff] at hi
   obtain ⟨⟨k,hk⟩,h1,h2⟩:=hi
   have hki:k=i:=by
    have:=List.getElem?_eq_some_iff.1 h1
    obtain ⟨_,e⟩:=this
    have:=congrArg Subtype.val e
    simpa using this.symm
   subst hki
   rw [←h2]
   exact (each k (List.mem_range.1 hk)).choose_spec
  obtain ⟨l,hll,hle⟩:=hz
  refine ⟨l,_,rfl,?_⟩
  have key:=V.lst (Ω:=Om0 w) τ l none b off cap (fun i j=>(w.cell? ⟨b,off+(i *ae τ+j),none⟩).getD undef) (by omega) (by unfold maxLen at hcm;unfold b8;omega) (fun id hid=>by cases hid) (fun i z hz j c hj=>?_) (fun i z hz j c hj=>?_)
  ·rw [hll] at key
   exact key
  ·obtain ⟨ds,d1,d2,d3⟩:=hle i z hz
   have hjw:j < ae τ:=by
    rw [←aP τ z]
    exact (List.getElem?_eq_some_iff.1 hj).1
   have hv:w.cell? ⟨b,off+(i *ae τ+j),none⟩=some ds[j]:=by rw [d2 j hjw];exact List.getElem?_eq_getElem (by omega)
   refine ⟨⟨_,hv⟩,?_⟩
   show w.cell? _=_
   rw [hv];rfl
  ·obtain ⟨ds,d1,d2,d3⟩:=hle i z hz
   have hjw:j < ae τ:=by
    rw [←aP τ z]
    exact (List.getElem?_eq_some_iff.1 hj).1
   have hd:ds[j]?=some ds[j]:=List.getElem?_eq_getElem (by omega)
   rw [d2 j hjw,hd]
   exact d3.2 j c ds[j] hj hd
end
end Go.AL
end
noncomputable section
namespace Go.AL
variable [Tabs]
open Go.ChangeShapes Go.WideShapes Go.RowKit
variable {H:Type} {enc:TypeId × Value→H} {P:Program} {w:World} {base:Nat} {held:Bool}
theorem ou {sp:Nat→Bool} {t:TypeId} {fs:Array Field} {fuel:Nat} {cs:List Value} {x:DataW H × List MemPlace} (ht:P.underlying t=some (.struct fs)) (h:DataW.trod enc P w base sp held fuel t cs=some x) :
  ∃n,fuel=n+1/\cs.length=P.cellsOf t/\∀(i:Nat) (f:Field),fs[i]?=some f→∃y,DataW.trod enc P w base sp held n f.type ((cs.drop f.offset).take (P.cellsOf f.type))=some y:=by
 obtain ⟨xs,n,hn,_,hl,hx,hf⟩:=DataW.trod_struct ht h
 refine ⟨n,hn,hl,fun i f hif=>?_⟩
 have hi:i < xs.length:=by
  rw [hx]
  rcases Nat.lt_or_ge i fs.size with k | k
  ·exact k
  ·rw [Array.getElem?_eq_none k] at hif;cases hif
 exact ⟨xs[i],by rw [hf i f hif];exact List.getElem?_eq_getElem hi⟩
theorem kU {t e:TypeId} {τ:Ty} {fuel:Nat} {cs:List Value} {x:DataW H × List MemPlace} (ht:P.underlying t=some (.slice e)) (hc:P.cellsOf e=ae τ) (hw:0 < ae τ)
  (h:DataW.trod enc P w base (fun _=>true) held fuel t cs=some x)
  (hel:∀(n:Nat) (ds:List Value) (y:DataW H × List MemPlace),fuel=n+1→DataW.trod enc P w base (fun _=>true) held n e ds=some y→∃z:den τ,VL (Om0 w) (cells τ z) ds) :
  ∃(l:List (den τ)) (v:Value),cs=[v]/\V (Om0 w) (.lst τ l none) v:=by
 have h0:=h
 rcases DataW.trod_slice ht h with ⟨rfl,_⟩ | ⟨a,len,cap,elems,rest,n,hfu,rfl,_,_,hlc,hcm,hlen,hels,hrest,_⟩
 ·exact ⟨[],_,rfl,.lstNil τ none (fun id hid=>by cases hid)⟩
 ·by_cases hcap:cap=0
  ·have:len=0:=by omega
   subst hcap this
   exact ⟨[],_,rfl,.lstVoid τ a⟩
  ·refine Hx ht hc h0 hel fun a' len' cap' e'=>?_
   simp only [List.cons.injEq,Value.slice.injEq,Xs,and_true] at e'
   obtain ⟨rfl,rfl,rfl⟩:=e'
   have hr:∃(ad:Addr) (y:DataW H × List MemPlace),ad=a/\(w.cells? base ad (P.cellsOf e)).bind (DataW.trod enc P w base (fun _=>true) held n e)=some y:=by
    by_cases hl:len=0
    ·obtain ⟨r1,r2⟩:=hrest rfl
     have:=r2 0 (by omega)
     rw [hl] at this
     refine ⟨_,_,?_,this.trans (List.getElem?_eq_getElem (by omega))⟩
     simp [Addr.add]
    ·have:=hels 0 (by omega)
     refine ⟨_,_,?_,this.trans (List.getElem?_eq_getElem (by omega))⟩
     simp [Addr.add]
   obtain ⟨ad,y,rfl,hy⟩:=hr
   rw [Option.bind_eq_some_iff] at hy
   obtain ⟨ds,hd,_⟩:=hy
   obtain ⟨_,hdl,hdc⟩:=World.cells?_some hd
   have:=hdc 0 (by rw [hc];exact hw)
   have ha:ad.add 0=ad:=by simp [Addr.add]
   rw [ha,List.getElem?_eq_getElem (by rw [hdl,hc];exact hw)] at this
   unfold World.cell? at this
   split at this
   ·split at this
    ·cases this
    ·rename_i hs
     cases hsp:ad.spot
     ·rfl
     ·rw [hsp] at hs;exact absurd rfl hs
   ·cases this
structure ShapeAt (P:Program) (t:TypeId):Prop where
 ex:∃(f0 f1 f2 f3 f4:Field) (e:TypeId),P.underlying t=some (.struct #[f0,f1,f2,f3,f4])/\P.cellsOf t=5/\
  (f0.offset=0/\f1.offset=1/\f2.offset=2/\f3.offset=3/\f4.offset=4)/\
  (P.cellsOf f0.type=1/\P.cellsOf f1.type=1/\P.cellsOf f2.type=1/\P.cellsOf f3.type=1/\P.cellsOf f4.type=1)/\
  P.underlying f0.type=some (.int .i64)/\P.underlying f1.type=some .string/\P.underlying f2.type=some .string/\P.underlying f3.type=some (.slice e)/\P.underlying e=some .string/\P.cellsOf e=1/\P.underlying f4.type=some (.slice t)
theorem Ak {t:TypeId} (hs:ShapeAt P t):∀(fuel:Nat) (cs:List Value) (x:DataW H × List MemPlace),DataW.trod enc P w base (fun _=>true) held fuel t cs=some x→∃s:Shape,VL (Om0 w) (cells (.st .shape) s) cs:=by
 obtain ⟨f0,f1,f2,f3,f4,e,ht,hc,⟨o0,o1,o2,o3,o4⟩,⟨c0,c1,c2,c3,c4⟩,u0,u1,u2,u3,us,ce,u4⟩:=hs
 intro fuel
 induction fuel using Nat.strongRecOn with
 | _ fuel ih=>
 intro cs x h
 obtain ⟨n,hn,hl,hf⟩:=ou ht h
 rw [hc] at hl
 obtain ⟨y0,h0⟩:=hf 0 f0 rfl
 obtain ⟨y1,h1⟩:=hf 1 f1 rfl
 obtain ⟨y2,h2⟩:=hf 2 f2 rfl
 obtain ⟨y3,h3⟩:=hf 3 f3 rfl
 obtain ⟨y4,h4⟩:=hf 4 f4 rfl
 match cs,hl with
 | [a0,a1,a2,a3,a4],_=>
  rw [o0,c0] at h0
  rw [o1,c1] at h1
  rw [o2,c2] at h2
  rw [o3,c3] at h3
  rw [o4,c4] at h4
  simp only [List.drop_zero,List.drop_succ_cons,List.take_succ_cons,List.take_zero] at h0 h1 h2 h3 h4
  obtain ⟨k,e0,v0⟩:=jd u0 h0
  obtain ⟨p,v,e1,v1⟩:=kB u1 h1
  obtain ⟨m,v',e2,v2⟩:=kB u2 h2
  obtain ⟨ns,v'',e3,v3⟩:=kU (τ:=.str) u3 (by rw [ce];rfl) (by decide) h3 fun n' ds y _ hy=>by
   obtain ⟨s,v,rfl,hv⟩:=kB us hy
   exact ⟨s,VL.cons hv .nil⟩
  obtain ⟨ps,v''',e4,v4⟩:=kU (τ:=.st .shape) u4 (by rw [hc];rfl) (by decide) h4 fun n' ds y hn' hy=>ih n' (by omega) ds y hy
  simp only [List.cons.injEq,and_true] at e0 e1 e2 e3 e4
  subst e0 e1 e2 e3 e4
  exact ⟨⟨k,p,m,ns,ps⟩,VL.cons v0 (VL.cons v1 (VL.cons v2 (VL.cons v3 (VL.cons v4 .nil))))⟩
structure ItemAt (P:Program) (t:TypeId):Prop where
 ex:∃(f0 f1 f2:Field),P.underlying t=some (.struct #[f0,f1,f2])/\P.cellsOf t=7/\(f0.offset=0/\f1.offset=1/\f2.offset=2)/\
  (P.cellsOf f0.type=1/\P.cellsOf f1.type=1/\P.cellsOf f2.type=5)/\P.underlying f0.type=some (.int .i64)/\P.underlying f1.type=some .string/\ShapeAt P f2.type
end Go.AL
end
noncomputable section
namespace Go.AL
open Go.ChangeShapes Go.WideShapes Go.RowKit
abbrev jF (w:World):Tabs:=⟨fun b o v=>b < 3/\w.cell? ⟨b,o,none⟩=some v,fun b x=>b=3/\w.heap[b]?=some x⟩
variable [Tabs]
variable {H:Type} {enc:TypeId × Value→H} {P:Program} {w:World} {base:Nat} {held:Bool}
structure TokAt (P:Program) (t:TypeId):Prop where
 ex:∃(f0 f1 f2:Field),P.underlying t=some (.struct #[f0,f1,f2])/\P.cellsOf t=3/\(f0.offset=0/\f1.offset=1/\f2.offset=2)/\
  (P.cellsOf f0.type=1/\P.cellsOf f1.type=1/\P.cellsOf f2.type=1)/\P.underlying f0.type=some (.int .i64)/\P.underlying f1.type=some .string/\P.underlying f2.type=some (.int .i64)
end Go.AL
end
noncomputable section
namespace Go.AL
open Go.ChangeShapes Go.WideShapes Go.RowKit
variable [Tabs]
variable {H:Type} {enc:TypeId × Value→H} {P:Program} {w:World} {base:Nat} {held:Bool}
structure BindAt (P:Program) (t:TypeId):Prop where
 ex:∃(f0 f1 f2:Field),P.underlying t=some (.struct #[f0,f1,f2])/\P.cellsOf t=7/\(f0.offset=0/\f1.offset=1/\f2.offset=2)/\
  (P.cellsOf f0.type=1/\P.cellsOf f1.type=1/\P.cellsOf f2.type=5)/\P.underlying f0.type=some .string/\P.underlying f1.type=some .string/\ShapeAt P f2.type
structure EnvAt (P:Program) (t:TypeId):Prop where
 ex:∃(f0 f1 f2 f3:Field) (e:TypeId),P.underlying t=some (.struct #[f0,f1,f2,f3])/\P.cellsOf t=4/\(f0.offset=0/\f1.offset=1/\f2.offset=2/\f3.offset=3)/\
  (P.cellsOf f0.type=1/\P.cellsOf f1.type=1/\P.cellsOf f2.type=1/\P.cellsOf f3.type=1)/\P.underlying f0.type=some .string/\
  (P.underlying f1.type=some (.slice e)/\P.underlying f2.type=some (.slice e)/\P.underlying f3.type=some (.slice e))/\BindAt P e
end Go.AL
end
noncomputable section
namespace Go.AL
variable [Tabs]
theorem b9.blk {Ω:Om} {own:Nat→Nat→Prop} {id:Nat} {ob:SObj} (hs:b9 Ω own id ob) {c:CObj} (hc:Ω.e id=some c) {b o:Nat} (hb:occ c b o):b < Ω.w.heap.size:=by
 cases ob with
 | box x=>
  obtain ⟨b',off,he,hh⟩:=hs
  rw [he] at hc
  simp only [Xs] at hc
  subst hc
  obtain ⟨rfl,h1,h2⟩:=hb
  have hj:o - off < (ab x).length:=by omega
  obtain ⟨_,_,_,v,hv,_⟩:=hh (o - off) _ (List.getElem?_eq_getElem hj)
  exact aE hv
 | tail τ n=>
  obtain ⟨base,cap,he,_,_,_,hb'⟩:=hs
  rw [he] at hc
  simp only [Xs] at hc
  subst hc
  obtain ⟨_,vs,ty,fz,hh,_⟩:=hb' b hb
  exact cq hh
 | map κ τ m=>
  obtain ⟨r,he,_,es,clock,hh,_⟩:=hs
  rw [he] at hc
  simp only [Xs] at hc
  subst hc
  have:b=r:=hb
  subst this
  exact cq hh
 | bld t u l=>
  obtain ⟨b0,g,he,_,hh⟩:=hs
  rw [he] at hc
  simp only [Xs] at hc
  subst hc
  exact hh.lt hb
 | tailp τ n x=>
  obtain ⟨b0,cap,he,_,_,_,⟨vs,ty,fz,hh,_⟩,_⟩:=hs
  rw [he] at hc
  simp only [Xs] at hc
  subst hc
  have:b0=b:=by simpa [occ] using hb
  subst this
  exact cq hh
def pE (e:Nat→Option CObj) (k b o:Nat):Prop:=∃c,e k=some c/\occ c b o
theorem After.slot {w w':World} {pub:Nat→Nat→Prop} {e:Nat→Option CObj} {S:List (Nat × SObj)}
  (hp:ic w pub) (hs:∀id o,ak S id=some o→b9 ⟨e,w,pub⟩ (fun _ _=>True) id o) (hd:∀id,ak S id=none→e id=none) (hi:Inj e)
  {k:Nat} {obj:SObj} {c:CObj} {Q:Nat→Nat→Prop}
  (os:w'.os=w.os) (tape:w'.tape=w.tape) (output:w'.output=w.output) (size:w.heap.size<=w'.heap.size)
  (block:∀b,b < w.heap.size→(∀o,¬pE e k b o)→w'.heap[b]?=w.heap[b]?)
  (cell:∀b o,b < w.heap.size→¬pE e k b o→w'.cell? ⟨b,o,none⟩=w.cell? ⟨b,o,none⟩)
  (kind:∀b,b < w.heap.size→¬(∀o,pE e k b o)→w'.shape? b=w.shape? b/\∀o,w'.frozen? ⟨b,o,none⟩=w.frozen? ⟨b,o,none⟩)
  (hpub:∀b o,pub b o→w'.cell? ⟨b,o,none⟩=w.cell? ⟨b,o,none⟩)
  (hQ:∀b o,Q b o→w.heap.size<=b/\∃v,w'.cell? ⟨b,o,none⟩=some v)
  (hle:∀c0,e k=some c0→CLe c0 c) (hnew:∀b o,occ c b o→w.heap.size<=b∨pE e k b o)
  (hobj:Ext ⟨e,w,pub⟩ ⟨fun i=>if k=i then some c else e i,w',fun b o=>pub b o∨Q b o⟩→
   b9 ⟨fun i=>if k=i then some c else e i,w',fun b o=>pub b o∨Q b o⟩ (fun b o=>w.heap.size<=b∨kj e b o) k obj) :
  After w pub e (ak (bU S [(k,obj)])) w' (fun b o=>pub b o∨Q b o) (fun i=>if k=i then some c else e i):=by
 have blk:∀{id c b o},e id=some c→occ c b o→b < w.heap.size:=by
  intro id c b o hc ho
  cases hg:ak S id with
  | none=>rw [hd id hg] at hc;cases hc
  | some ob=>exact (hs id ob hg).blk (Ω:=⟨e,w,pub⟩) hc ho
 have hx:Ext ⟨e,w,pub⟩ ⟨fun i=>if k=i then some c else e i,w',fun b o=>pub b o∨Q b o⟩:=by
  refine ⟨fun id c' hc'=>?_,fun b o h=>Or.inl h,fun b o h=>hpub b o h⟩
  by_cases hid:k=id
  ·subst hid;exact ⟨c,by simp,hle c' hc'⟩
  ·exact ⟨c',by simp only [if_neg hid];exact hc',CLe.refl _⟩
 have toL:∀{b o},pE e k b o→kj e b o:=fun ⟨c,h1,h2⟩=>⟨k,c,h1,h2⟩
 have stay:∀{id c' b o},k≠id→e id=some c'→occ c' b o→¬pE e k b o:=by
  rintro id c' b o hid hc ho ⟨c0,h1,h2⟩
  exact hid (hi k id c0 c' b o h1 hc h2 ho)
 refine ⟨os,tape,output,size,fun b hb h=>block b hb fun o ho=>h o (toL ho),fun b o hb h=>cell b o hb fun ho=>h (toL ho),
  fun b hb h=>kind b hb fun ho=>h fun o=>toL (ho o),hx,fun b o h=>?_,fun b o h=>?_,fun id o h=>?_,fun id h=>?_,?_⟩
 ·rcases h with h | h
  ·exact Or.inl h
  ·exact Or.inr (Or.inl (hQ b o h).1)
 ·rcases h with h | h
  ·obtain ⟨v,hv⟩:=hp b o h;exact ⟨v,(hpub b o h).trans hv⟩
  ·exact (hQ b o h).2
 ·rw [ig,gm] at h
  by_cases hid:k=id
  ·subst hid
   simp only [if_true] at h
   cases h
   exact hobj hx
  ·simp only [if_neg hid] at h
   have h0:=hs id o h
   refine b9.own_of (b9.keep h0 hx (by simp only [if_neg hid]) fun c' hc'=>?_) (fun c' b o hc ho=>?_)
   ·have hc':e id=some c':=hc'
    cases c' with
    | box b off len=>
     intro oo h1 h2
     have ho:occ (.box b off len) b oo:=⟨rfl,h1,h2⟩
     refine ⟨cell b oo (blk hc' ho) (stay hid hc' ho),(kind b (blk hc' ho) fun hall=>stay hid hc' ho (hall oo)).2 oo,fun hp'=>?_⟩
     rcases hp' with hp' | hp'
     ·exact hp'
     ·have:=(hQ _ _ hp').1;have:=blk hc' ho;omega
    | tail n base cap=>
     intro b hb
     have ho:∀oo,occ (.tail n base cap) b oo:=fun _=>hb
     refine ⟨block b (blk hc' (ho 0)) fun oo=>stay hid hc' (ho oo),fun oo hp'=>?_⟩
     rcases hp' with hp' | hp'
     ·exact hp'
     ·have:=(hQ _ _ hp').1;have:=blk hc' (ho 0);omega
    | obj r=>
     have ho:∀oo,occ (.obj r) r oo:=fun _=>rfl
     exact block r (blk hc' (ho 0)) fun oo=>stay hid hc' (ho oo)
    | bld b g=>
     intro b' hb'
     have ho:∀oo,occ (.bld b g) b' oo:=fun _=>hb'
     refine ⟨block b' (blk hc' (ho 0)) fun oo=>stay hid hc' (ho oo),fun oo hp'=>?_⟩
     rcases hp' with hp' | hp'
     ·exact hp'
     ·have:=(hQ _ _ hp').1;have:=blk hc' (ho 0);omega
   ·simp only [if_neg hid] at hc
    exact Or.inr ⟨id,c',hc,ho⟩
 ·rw [ig,gm] at h
  by_cases hid:k=id
  ·simp [hid] at h
  ·simp only [if_neg hid] at h ⊢
   exact hd id h
 ·intro i j ci cj b o hci hcj hoi hoj
  simp only at hci hcj
  by_cases h1:k=i <;> by_cases h2:k=j
  ·omega
  ·simp only [if_pos h1,if_neg h2,Xs] at hci hcj
   subst hci
   rcases hnew b o hoi with h | h
   ·have:=blk hcj hoj;omega
   ·exact absurd h (stay h2 hcj hoj)
  ·simp only [if_neg h1,if_pos h2,Xs] at hci hcj
   subst hcj
   rcases hnew b o hoj with h | h
   ·have:=blk hci hoi;omega
   ·exact absurd h (stay h1 hci hoi)
  ·simp only [if_neg h1,if_neg h2] at hci hcj
   exact hi i j ci cj b o hci hcj hoi hoj
theorem After.fresh1 {w w':World} {pub:Nat→Nat→Prop} {e:Nat→Option CObj} {S:List (Nat × SObj)}
  (hp:ic w pub) (hs:∀id o,ak S id=some o→b9 ⟨e,w,pub⟩ (fun _ _=>True) id o) (hd:∀id,ak S id=none→e id=none) (hi:Inj e)
  {k:Nat} {obj:SObj} {c:CObj} (hb:RowKit.Below w.heap.size w w') (hk:ak S k=none) (hnew:∀b o,occ c b o→w.heap.size<=b)
  (hobj:b9 ⟨fun i=>if k=i then some c else e i,w',fun b o=>pub b o∨False⟩ (fun b o=>w.heap.size<=b∨kj e b o) k obj) :
  After w pub e (ak (bU S [(k,obj)])) w' (fun b o=>pub b o∨False) (fun i=>if k=i then some c else e i):=
 After.slot hp hs hd hi (Q:=fun _ _=>False) hb.os hb.tape hb.output hb.size (fun b h _=>hb.block b h) (fun b o h _=>ah (hb.block b h) o)
  (fun b h _=>⟨aR (hb.block b h),fun o=>aK (hb.block b h) o⟩)
  (fun b o h=>by obtain ⟨v,hv⟩:=hp b o h;exact ah (hb.block b (aE hv)) o)
  (fun _ _ h=>h.elim) (fun c0 h=>by rw [hd k hk] at h;cases h) (fun b o h=>Or.inl (hnew b o h)) (fun _=>hobj)
theorem VL.one_inv {Ω:Om} {a:AV} {vs:List Value} (h:VL Ω [a] vs):∃v,vs=[v]/\V Ω a v:=by
 obtain ⟨hl,h⟩:=h
 match vs,hl,h with
 | [v],_,h=>exact ⟨v,rfl,h 0 a v rfl rfl⟩
theorem VL.two_inv {Ω:Om} {a b:AV} {vs:List Value} (h:VL Ω [a,b] vs):∃v u,vs=[v,u]/\V Ω a v/\V Ω b u:=by
 obtain ⟨hl,h⟩:=h
 match vs,hl,h with
 | [v,u],_,h=>exact ⟨v,u,rfl,h 0 a v rfl rfl,h 1 b u rfl rfl⟩
end Go.AL
end
noncomputable section
namespace Go.AL
variable [Tabs]
open Go.Proofs Go.Shelf Go.RowKit
variable {P:Program} {ρ:Ren}
structure But (w w':World) (b:Nat) (g:Option Nat):Prop where
 os:w'.os=w.os
 tape:w'.tape=w.tape
 output:w'.output=w.output
 size:w.heap.size<=w'.heap.size
 block:∀k,k < w.heap.size→k≠b→g≠some k→w'.heap[k]?=w.heap[k]?
theorem But.refl (w:World) (b:Nat) (g:Option Nat):But w w b g:=⟨rfl,rfl,rfl,Nat.le_refl _,fun _ _ _ _=>rfl⟩
theorem But.drew {w w':World} {b:Nat} {g:Option Nat} (h:But w w' b g):But w w'.drew b g:=⟨h.os,h.tape,h.output,h.size,h.block⟩
theorem But.set {w w':World} {b:Nat} {g:Option Nat} (h:But w w' b g) (o:Nat) (v:Value):But w (w'.setCell ⟨b,o,none⟩ v) b g:=
 ⟨h.os,h.tape,h.output,by simpa using h.size,fun k h1 h2 h3=>(Below.heap_setCell w' ⟨b,o,none⟩ v k h2).trans (h.block k h1 h2 h3)⟩
theorem But.grown {w w' w2:World} {b:Nat} {g:Option Nat} (h:But w w' b g) (k:w'.grownBy w2 g):But w w2 b g:=
 ⟨k.os.trans h.os,k.tape.trans h.tape,k.output.trans h.output,Nat.le_trans h.size k.size,fun j h1 h2 h3=>(k.block j (Nat.lt_of_lt_of_le h1 h.size) fun e=>h3 e.symm).trans (h.block j h1 h2 h3)⟩
theorem But.freeze {w w':World} {b g:Nat} (h:But w w' b (some g)) (n:Nat):But w (w'.freeze ⟨g,0,none⟩ n) b (some g):=by
 unfold World.freeze
 split
 ·exact h
 ·refine ⟨h.os,h.tape,h.output,by simpa using h.size,fun k h1 h2 h3=>?_⟩
  simp only [Array.getElem?_modify]
  rw [if_neg (fun e=>h3 (by rw [e]))]
  exact h.block k h1 h2 h3
theorem qK (s:Str):Lib.strCells ⟨s.toArray⟩=Lib.byteCells s:=by
 simp [Lib.strCells,Lib.byteCells]
structure CC (P:Program) (ρ:Ren):Prop where
 enters:∀args w,(callFunc (ρ.f 240) args).run P w=.ok (.enter (ρ.f 240) args) w
 used:∀(b:Nat) (w:World),w.cell? ⟨b,0,none⟩=some (.pointer (some ⟨b,0,none⟩))→Calls P (ρ.f 240) #[.pointer (some ⟨b,0,none⟩)] w fun e w'=>e=.returned (.tuple #[])/\w'=w
 fresh:∀(b:Nat) (w:World),w.cell? ⟨b,0,none⟩=some (.pointer none)→w.shape? b=some ((ρ.t 72),2)→w.frozen? ⟨b,0,none⟩=false→
  Calls P (ρ.f 240) #[.pointer (some ⟨b,0,none⟩)] w fun e w'=>e=.returned (.tuple #[])/\w'=w.setCell ⟨b,0,none⟩ (.pointer (some ⟨b,0,none⟩))
structure WL (P:Program) (ρ:Ren):Prop where
 mixed:P.follows .mixedOrders=true
 f166:P.funcs[ρ.f 166]?=some (Body.n166 ρ)
 t3:P.underlying (ρ.t 3)=some (TypeDesc.int IntKind.i64)
 a3:∀w,(isAgg (ρ.t 3)).run P w=.ok false w
 z3:∀w,(Go.sizeOf (ρ.t 3)).run P w=.ok 1 w
 v3:∀w,(zeroValue (ρ.t 3)).run P w=.ok (Value.int IntKind.i64 0) w
 t9:P.underlying (ρ.t 9)=some (TypeDesc.string)
 a9:∀w,(isAgg (ρ.t 9)).run P w=.ok false w
 z9:∀w,(Go.sizeOf (ρ.t 9)).run P w=.ok 1 w
 v9:∀w,(zeroValue (ρ.t 9)).run P w=.ok (Value.string {data:=#[]}) w
 t37:P.underlying (ρ.t 37)=some (TypeDesc.slice (ρ.t 5))
 a37:∀w,(isAgg (ρ.t 37)).run P w=.ok false w
 z37:∀w,(Go.sizeOf (ρ.t 37)).run P w=.ok 1 w
 v37:∀w,(zeroValue (ρ.t 37)).run P w=.ok (Value.slice none 0 0) w
 t70:P.underlying (ρ.t 70)=some (TypeDesc.pointer (ρ.t 72))
 a70:∀w,(isAgg (ρ.t 70)).run P w=.ok false w
 z70:∀w,(Go.sizeOf (ρ.t 70)).run P w=.ok 1 w
 v70:∀w,(zeroValue (ρ.t 70)).run P w=.ok (Value.pointer none) w
 t72:P.underlying (ρ.t 72)=some (TypeDesc.struct #[{name:= "addr",type:=ρ.t 70,offset:=0,embedded:=false,tag:= "",pkgPath:= "strings",byteOffset:=0},{name:= "buf",type:=ρ.t 37,offset:=1,embedded:=false,tag:= "",pkgPath:= "strings",byteOffset:=8}])
 a72:∀w,(isAgg (ρ.t 72)).run P w=.ok true w
 z72:∀w,(Go.sizeOf (ρ.t 72)).run P w=.ok 2 w
 v72:∀w,(zeroValue (ρ.t 72)).run P w=.ok (Value.agg #[Value.pointer none,Value.slice none 0 0]) w
set_option maxHeartbeats 2000000 in
set_option maxRecDepth 100000 in
theorem qL (C:CC P ρ) (b:Nat) (g:Option Nat) (l:Str) (w:World) (h:gG w (ρ.t 72) (ρ.t 5) b g l) :
  Calls P (ρ.f 240) #[.pointer (some ⟨b,0,none⟩)] w fun e w'=>e=.returned (.tuple #[])/\But w w' b g/\
   ∃v,v.ownBlock=g/\w'.heap[b]?=some (.cells #[.pointer (some ⟨b,0,none⟩),v] (ρ.t 72) (0,0))/\w'.ownsRowF 0 (ρ.t 5) 1 v l.length (Lib.byteCells l)/\g≠some b/\(l=[]→v=.slice none 0 0):=by
 obtain ⟨p,v,h1,h2,h3,h4,h5,h6⟩:=h
 rcases h2 with rfl | rfl
 ·refine (C.fresh b w (by rw [Lib.cell_of_heap h1];rfl) (by simp [World.shape?,h1]) (Lib.frozen_of_heap h1 0)).mono ?_
  rintro e w' ⟨rfl,rfl⟩
  have hA:Lib.BuilderAtF (ρ.t 72) (ρ.t 5) 0 b (.pointer none) (Lib.byteCells l) w:=⟨Nat.zero_le _,v,h1,by rwa [Lib.byteCells_length],by rw [h3];exact h4⟩
  obtain ⟨_,v',k1,k2,k3⟩:=hA.used (.pointer (some ⟨b,0,none⟩))
  have hv:v'=v:=by
   have e1:(w.setCell ⟨b,0,none⟩ (.pointer (some ⟨b,0,none⟩))).cell? ⟨b,1,none⟩=some v':=by rw [Lib.cell_of_heap k1];rfl
   have e2:w.cell? ⟨b,1,none⟩=some v:=by rw [Lib.cell_of_heap h1];rfl
   have e3:(w.setCell ⟨b,0,none⟩ (.pointer (some ⟨b,0,none⟩))).cell? ⟨b,1,none⟩=w.cell? ⟨b,1,none⟩:=by
    simp [World.cell?,World.setCell,h1,Array.getElem?_modify]
   rw [e3,e2] at e1
   exact (Option.some.inj e1).symm
  subst hv
  exact ⟨rfl,(But.refl w b g).set 0 _,v',h3,k1,by rwa [Lib.byteCells_length] at k2,h4,h6⟩
 ·refine (C.used b w (by rw [Lib.cell_of_heap h1];rfl)).mono ?_
  rintro e w' ⟨rfl,rfl⟩
  exact ⟨rfl,But.refl _ _ _,v,h3,h1,h5,h4,h6⟩
theorem sR {w:World} (t u ty e:TypeId) (i:TypeInfo) (ht:P.underlying t=some (.slice e)) (hu:P.underlying u=some .string) (hi:P.info? e=some i) (hz:i.zero=some (.int .u8 0))
  (hsize:i.size=1) (hby:i.bytes=1) (v:Value) (n:Nat) (xs:List Value) (hown:w.ownsRowF 0 e 1 v n xs) (s:ByteArray)
  (h63:n+s.size<=maxLen) (hbytes:n+s.size<=140737488355328) {v':Value} {w':World} (hr:(Builtin.append_ #[t,u] ty #[v,.string s]).run P w=.ok v' w') :
  ∀k,v'.ownBlock=some k→v.ownBlock=some k∨w.heap.size<=k:=by
 intro k hk
 rcases hown.2 with ⟨rfl,rfl⟩ | ⟨g,cap,cur,fz,rfl,hbg,hg,hfz,hnc,hcm,hcs,htake⟩
 ·obtain ⟨v2,w2,h1,h2,_,_⟩:=Lib.run_append_own_string (P:=P) w w.heap.size t u ty e i ht hu hi hz hsize hby (.slice none 0 0) 0 xs ⟨hown.1,.inl ⟨rfl,rfl⟩⟩ s h63 hbytes (Nat.le_refl _)
  rw [hr] at h1
  cases h1
  exact .inr (h2.lt k hk).1
 ·have hsmall:n+s.size<=9223372036854775807:=by simp only [maxLen] at h63;omega
  by_cases hroom:n+s.size<=cap
  ·have hcs':cur.size=cap:=by simpa using hcs
   have h1:=Lib.run_append_room_stringF (P:=P) w t u ty e i ht hu hi hsize g n cap cur fz hg (by simpa using hfz) s hroom (by omega)
   rw [hr] at h1
   cases h1
   exact .inl hk
  ·have hxl:xs.length=n:=by simpa using hown.1
   have holds:∀j u,xs[j]?=some u→w.cell? ((⟨g,0,none⟩:Addr).add j)=some u:=hown.cells (g:=g) rfl
   have h1:=Lib.run_append_grow_string (P:=P) w t u ty e i (.int .u8 0) ht hu hi hz ⟨g,0,none⟩ n cap xs (by rw [hsize];simpa using hxl) holds s (by omega) (by omega) (by rw [hby];exact growslice_fits (by omega) (by omega))
   rw [hr] at h1
   cases h1
   cases hk
   exact .inr (Nat.le_refl _)
theorem lP {ops:Array Oper} {rest:List Oper} {o:Oper} {a:Act} {w:World} {Q:Exit→Act→World→Prop} (hgd:o.guard=none) (sl x:Operand) (t u:TypeId)
  (ho:o.op=.call {callee:=.builtin .append,args:=#[sl,x],argTypes:=#[t,u]})
  (e:TypeId) (i:TypeInfo) (ht:P.underlying t=some (.slice e)) (hu:P.underlying u=some .string) (hi:P.info? e=some i) (hz:i.zero=some (.int .u8 0))
  (hsize:i.size=1) (hby:i.bytes=1)
  (v:Value) (n:Nat) (xs:List Value) (hs:a.eval sl=v) (hown:w.ownsRowF 0 e 1 v n xs) (s:ByteArray) (hx:a.eval x=.string s)
  (h63:n+s.size<=maxLen) (hbytes:n+s.size<=140737488355328)
  (h:∀v' w',w'.ownsRowF 0 e 1 v' (n+s.size) (xs++Lib.strCells s)→w.grownBy w' v.ownBlock→(v'=.slice none 0 0↔v=.slice none 0 0/\s.size=0)→(∀k,v'.ownBlock=some k→v.ownBlock=some k∨w.heap.size<=k)→wpList P ops Q rest (a.put o.dst v') w'):wpList P ops Q (o ::rest) a w:=by
 refine wpList_plain hgd fun K hK=>?_
 obtain ⟨v',w',hr,h2,h3,h4⟩:=Lib.run_append_own_stringF (P:=P) w 0 t u o.type e i ht hu hi hz hsize hby v n xs hown s h63 hbytes (Nat.zero_le _)
 have hw:=sR t u o.type e i ht hu hi hz hsize hby v n xs hown s h63 hbytes hr
 unfold Oper.wp execOp
 simp only [ho,resolve,invoke,builtin,Sem.run_bind,Sem.run_pure,Result.andThen_ok,List.map_toArray,List.map_cons,List.map_nil,hs,hx,hr]
 exact hK _ _ (h v' w' h2 h3 h4 hw)
set_option maxHeartbeats 2000000 in
set_option maxRecDepth 100000 in
theorem nW (L:WL P ρ) (C:CC P ρ) (X:Builder.Extra P ρ) (b:Nat) (g:Option Nat) (l s:Str) (w:World) (h:gG w (ρ.t 72) (ρ.t 5) b g l) (hlen:l.length+s.length<=140737488355328) :
  Calls P (ρ.f 166) #[.pointer (some ⟨b,0,none⟩),.string ⟨s.toArray⟩] w fun e w'=>e=.returned (.tuple #[.int .i64 s.length,.nilIface])/\But w w' b g/\
   ∃g',gG w' (ρ.t 72) (ρ.t 5) b g' (l++s)/\∀k,g'=some k→g=some k∨w.heap.size<=k:=by
 obtain ⟨i0,hi,hz0,hz1,hz2⟩:=info_parts X.infoByte
 have mixed:=L.mixed
 have t72:=L.t72;have a72:=L.a72;have z72:=L.z72;have v72:=L.v72;have u72:=run_underlying L.t72
 have t70:=L.t70;have a70:=L.a70;have z70:=L.z70;have v70:=L.v70;have u70:=run_underlying L.t70
 have t37:=L.t37;have a37:=L.a37;have z37:=L.z37;have v37:=L.v37;have u37:=run_underlying L.t37
 have t3:=L.t3;have a3:=L.a3;have z3:=L.z3;have v3:=L.v3;have u3:=run_underlying L.t3
 have t9:=L.t9;have a9:=L.a9;have z9:=L.z9;have v9:=L.v9;have u9:=run_underlying L.t9
 have t5:=X.t5;have a5:=X.a5;have z5:=X.z5;have v5:=X.v5;have u5:=run_underlying X.t5
 have e240:=C.enters
 have hss:(⟨s.toArray⟩:ByteArray).size=s.length:=by simp [ByteArray.size]
 rw [←hss]
 rw [←hss] at hlen
 go_enter L.f166,Body.n166_ntmps ρ
 go_wp2_with (go_at_fn (ρ.f 240);refine (qL C b g l _ h).mono ?_)
 rintro e w1 ⟨rfl,hb1,v,hvg,hbk,hown,hne,hem⟩
 have c0:w1.cell? ⟨b,0,none⟩=some (.pointer (some ⟨b,0,none⟩)):=by rw [Lib.cell_of_heap hbk];rfl
 have c1:w1.cell? ⟨b,1,none⟩=some v:=by rw [Lib.cell_of_heap hbk];rfl
 go_wp2_with (at_builtin;refine lP rfl _ _ (ρ.t 37) (ρ.t 9) rfl (ρ.t 5) i0 L.t37 L.t9 hi hz0 hz1 hz2 _ _ _ rfl hown ⟨s.toArray⟩ rfl ?c3 ?c4 ?_)
 case c3=>unfold maxLen;omega
 case c4=>omega
 intro v' w2 hown' hgrow hnil hwh
 have hlt:b < w1.heap.size:=(Array.getElem?_eq_some_iff.1 hbk).1
 have hb2:w2.heap[b]?=some (.cells #[.pointer (some ⟨b,0,none⟩),v] (ρ.t 72) (0,0)):=by
  rw [hgrow.block b hlt (fun e=>hne (hvg ▸ e.symm))]
  exact hbk
 have d0:w2.cell? ⟨b,0,none⟩=some (.pointer (some ⟨b,0,none⟩)):=by rw [Lib.cell_of_heap hb2];rfl
 have d1:w2.cell? ⟨b,1,none⟩=some v:=by rw [Lib.cell_of_heap hb2];rfl
 have f1:w2.frozen? ⟨b,1,none⟩=false:=Lib.frozen_of_heap hb2 1
 obtain ⟨ao,n',cap,rfl⟩:∃ao n' cap,v'=.slice ao n' cap:=by
  rcases hown'.2 with ⟨hv,_⟩ | ⟨g,cap,cur,fz,hv,_⟩
  ·exact ⟨_,_,_,hv⟩
  ·exact ⟨_,_,_,hv⟩
 go_wp2
 go_ret2
 have hcat:Lib.byteCells l++Lib.strCells ⟨s.toArray⟩=Lib.byteCells (l++s):=by rw [qK];simp [Lib.byteCells]
 have hA:Lib.BuilderAtF (ρ.t 72) (ρ.t 5) 0 b (.pointer (some ⟨b,0,none⟩)) (Lib.byteCells (l++s)) (w2.setCell ⟨b,1,none⟩ (.slice ao n' cap)):=
  Lib.BuilderAtF.put (T:=(ρ.t 72)) (e:=(ρ.t 5)) (Nat.zero_le _) hb2 (bs':=Lib.byteCells (l++s)) (by rw [←hcat,List.length_append,Lib.byteCells_length,Lib.strCells_length];exact hown') X.neB5
 refine ⟨rfl,(hb1.grown (hvg ▸ hgrow)).set 1 _,?_⟩
 obtain ⟨_,v2,k1,k2,k3⟩:=hA
 have hv2:v2=.slice ao n' cap:=by
  have e1:(w2.setCell ⟨b,1,none⟩ (.slice ao n' cap)).cell? ⟨b,1,none⟩=some v2:=by rw [Lib.cell_of_heap k1];rfl
  have e3:(w2.setCell ⟨b,1,none⟩ (.slice ao n' cap)).cell? ⟨b,1,none⟩=some (.slice ao n' cap):=by
   simp [World.cell?,World.setCell,hb2,Array.getElem?_modify]
  rw [e3] at e1
  exact (Option.some.inj e1).symm
 subst hv2
 refine ⟨_,⟨_,_,k1,.inr rfl,rfl,k3,by rwa [Lib.byteCells_length] at k2,fun e=>hnil.2 ⟨hem (List.append_eq_nil_iff.1 e).1,by rw [(List.append_eq_nil_iff.1 e).2]⟩⟩,fun k hk=>?_⟩
 rcases hwh k hk with h' | h'
 ·exact .inl (hvg ▸ h')
 ·exact .inr (Nat.le_trans hb1.size h')
set_option maxHeartbeats 2000000 in
set_option maxRecDepth 100000 in
theorem xL (L:Lays.n169 P ρ) (X:Builder.Extra P ρ) (b:Nat) (g:Option Nat) (l:Str) (w:World) (h:gG w (ρ.t 72) (ρ.t 5) b g l) :
  Calls P (ρ.f 169) #[.pointer (some ⟨b,0,none⟩)] w fun e w'=>e=.returned (.string ⟨l.toArray⟩)/\But w w' b g/\gG w' (ρ.t 72) (ρ.t 5) b g l:=by
 obtain ⟨p,v,hbk,hp,hvg,hne,hown,hem⟩:=h
 by_cases h0:l=[]
 ·obtain rfl:=hem h0
  subst h0
  refine (Any.Builder_String_nil L X w.heap.size b p w hbk).mono ?_
  rintro e w' ⟨rfl,hb⟩
  have hlt:b < w.heap.size:=(Array.getElem?_eq_some_iff.1 hbk).1
  exact ⟨rfl,⟨hb.os,hb.tape,hb.output,hb.size,fun k hk _ _=>hb.block k hk⟩,p,_,(hb.block b hlt).trans hbk,hp,hvg,hne,World.ownsRowF_nil _ _ _ _,fun _=>rfl⟩
 have hl0:l.length≠0:=by simpa using h0
 obtain ⟨g',cap,cur,fz,rfl,hbg,hg,hfz,hnc,hcm,hcs,htake⟩:∃g cap cur fz,v=.slice (some ⟨g,0,none⟩) l.length cap/\0<=g/\w.heap[g]?=some (.cells cur (ρ.t 5) fz)/\fz.2<=l.length *1/\l.length<=cap/\cap<=maxLen/\cur.size=cap *1/\cur.toList.take (l.length *1)=Lib.byteCells l:=by
  rcases hown.2 with ⟨_,hz⟩ | ⟨g,cap,cur,fz,hv,r⟩
  ·exact absurd hz hl0
  ·exact ⟨g,cap,cur,fz,hv,r⟩
 obtain rfl:some g'=g:=hvg
 have c1:w.drew.cell? ⟨b,1,none⟩=some (.slice (some ⟨g',0,none⟩) l.length cap):=by
  have:w.drew.heap[b]?=some (.cells #[p,.slice (some ⟨g',0,none⟩) l.length cap] (ρ.t 72) (0,0)):=hbk
  rw [Lib.cell_of_heap this];rfl
 have hSD:(Builtin.unsafeSliceData_ #[(ρ.t 37)] (ρ.t 127) #[.slice (some ⟨g',0,none⟩) l.length cap]).run P w.drew=.ok (.pointer (some ⟨g',0,none⟩)) w.drew:=
  Lib.run_unsafeSliceData_row _ _ _ _ _ _ (by omega)
 have hUS:(Builtin.unsafeString_ #[(ρ.t 127),(ρ.t 3)] (ρ.t 9) #[.pointer (some ⟨g',0,none⟩),.int .i64 l.length]).run P w.drew=.ok (.string ⟨l.toArray⟩) (w.drew.freeze ⟨g',0,none⟩ l.length):=by
  refine Lib.run_unsafeString_row w.drew (ρ.t 127) (ρ.t 3) (ρ.t 9) (ρ.t 5) L.t127 X.cellsByte g' cur.size (by have hg':w.drew.heap[g']?=some (.cells cur (ρ.t 5) fz):=hg;simp [World.shape?,hg']) l h0 (by omega) (by unfold maxLen at hcm;omega) ?_
  intro j x hx
  have:=hown.cells (g:=g') rfl j (.int .u8 x.toNat) (by simp [Lib.byteCells,hx])
  exact this
 have hA:Lib.BuilderAtF (ρ.t 72) (ρ.t 5) 0 b p (Lib.byteCells l) w.drew:=⟨Nat.zero_le _,_,hbk,by rw [Lib.byteCells_length];exact hown,hne⟩
 have hF:=hA.froze (g:=g') (cap:=cap) (by rw [Lib.byteCells_length];exact c1)
 rw [Lib.byteCells_length] at hF
 have hbut:But w (w.drew.freeze ⟨g',0,none⟩ l.length) b (some g'):=(But.refl w b (some g')).drew.freeze _
 have hkeep:gG (w.drew.freeze ⟨g',0,none⟩ l.length) (ρ.t 72) (ρ.t 5) b (some g') l:=by
  obtain ⟨_,v2,k1,k2,k3⟩:=hF
  have hbg':b≠g':=fun e=>hne (by rw [e])
  have hv2:v2=.slice (some ⟨g',0,none⟩) l.length cap:=by
   have e1:(w.drew.freeze ⟨g',0,none⟩ l.length).cell? ⟨b,1,none⟩=some v2:=by rw [Lib.cell_of_heap k1];rfl
   have e2:(w.drew.freeze ⟨g',0,none⟩ l.length).heap[b]?=w.drew.heap[b]?:=by
    unfold World.freeze
    split
    ·rfl
    ·simp only [Array.getElem?_modify]
     rw [if_neg (fun e=>hbg' e.symm)]
   rw [ah e2,c1] at e1
   exact (Option.some.inj e1).symm
  subst hv2
  exact ⟨p,_,k1,hp,rfl,hne,by rwa [Lib.byteCells_length] at k2,fun e=>absurd e h0⟩
 have mixed:=L.mixed
 have t72:=L.t72;have a72:=L.a72;have z72:=L.z72;have v72:=L.v72;have u72:=run_underlying L.t72
 have t70:=L.t70;have a70:=L.a70;have z70:=L.z70;have v70:=L.v70;have u70:=run_underlying L.t70
 have t37:=L.t37;have a37:=L.a37;have z37:=L.z37;have v37:=L.v37;have u37:=run_underlying L.t37
 have t127:=L.t127;have a127:=L.a127;have z127:=L.z127;have v127:=L.v127;have u127:=run_underlying L.t127
 have t3:=L.t3;have a3:=L.a3;have z3:=L.z3;have v3:=L.v3;have u3:=run_underlying L.t3
 have t9:=L.t9;have a9:=L.a9;have z9:=L.z9;have v9:=L.v9;have u9:=run_underlying L.t9
 have t5:=X.t5;have a5:=X.a5;have z5:=X.z5;have v5:=X.v5;have u5:=run_underlying X.t5
 go_enter L.f169,Body.n169_ntmps ρ
 go_wp2
 go_region_o
 all_goals (go_wp2;go_ret;exact ⟨rfl,hbut,hkeep⟩)
theorem After.bld {w w':World} {pub:Nat→Nat→Prop} {e:Nat→Option CObj} {S:List (Nat × SObj)}
  (hp:ic w pub) (hs:∀id o,ak S id=some o→b9 ⟨e,w,pub⟩ (fun _ _=>True) id o) (hd:∀id,ak S id=none→e id=none) (hi:Inj e)
  {k b:Nat} {g g':Option Nat} {t u t' u':Nat} {l l':Str} (hk:ak S k=some (.bld t u l)) (he:e k=some (.bld b g)) (hb:But w w' b g) (hB:gG w' t' u' b g' l') (hg:∀x,g'=some x→g=some x∨w.heap.size<=x) :
  After w pub e (ak (bU S [(k,.bld t' u' l')])) w' (fun b o=>pub b o∨False) (fun i=>if k=i then some (.bld b g') else e i):=by
 obtain ⟨b0,g0,he0,hown,_⟩:=hs k _ hk
 have he0:e k=some (.bld b0 g0):=he0
 rw [he] at he0
 cases he0
 have off:∀{b' o},¬pE e k b' o→b'≠b/\g≠some b':=fun h=>⟨fun hb=>h ⟨_,he,.inl hb⟩,fun hg=>h ⟨_,he,.inr hg⟩⟩
 have hnew:∀b' o,occ (.bld b g') b' o→w.heap.size<=b'∨pE e k b' o:=by
  intro b' o ho
  rcases ho with ho | ho
  ·exact .inr ⟨_,he,.inl ho⟩
  ·rcases hg b' ho with h | h
   ·exact .inr ⟨_,he,.inr h⟩
   ·exact .inl h
 refine After.slot hp hs hd hi (Q:=fun _ _=>False) hb.os hb.tape hb.output hb.size (fun b' h1 h2=>hb.block b' h1 (off (h2 0)).1 (off (h2 0)).2)
  (fun b' o h1 h2=>ah (hb.block b' h1 (off h2).1 (off h2).2) o) (fun b' h1 h2=>?_) (fun b' o h=>?_) (fun _ _ h=>h.elim) (fun c0 h=>?_) hnew (fun _=>?_)
 ·obtain ⟨o,ho⟩:=Classical.not_forall.1 h2
  have:=hb.block b' h1 (off ho).1 (off ho).2
  exact ⟨aR this,fun o=>aK this o⟩
 ·obtain ⟨v,hv⟩:=hp b' o h
  refine ah (hb.block b' (aE hv) (fun e=>?_) (fun e=>?_)) o
  ·exact (hown b' (.inl e) o).2 h
  ·exact (hown b' (.inr e) o).2 h
 ·rw [he] at h
  cases h
  exact rfl
 ·refine ⟨b,g',by simp,fun b' hb' o=>⟨?_,fun h=>?_⟩,hB⟩
  ·rcases hnew b' o hb' with h | ⟨c,h1,h2⟩
   ·exact .inl h
   ·exact .inr ⟨k,c,h1,h2⟩
  ·rcases h with h | h
   ·have h:pub b' o:=h
    rcases hnew b' o hb' with h2 | ⟨c,h1,h2⟩
    ·obtain ⟨v,hv⟩:=hp b' o h
     have:=aE hv
     omega
    ·rw [he] at h1
     cases h1
     exact (hown b' h2 o).2 h
   ·exact h
theorem V.bptr_inv {Ω:Om} {id:Nat} {v:Value} (h:V Ω (.bptr id) v):∃b g,Ω.e id=some (.bld b g)/\v=.pointer (some ⟨b,0,none⟩):=by
 cases h with
 | bptr _ b g he=>exact ⟨b,g,he,rfl⟩
theorem lQ (L:WL P ρ) (C:CC P ρ) (X:Builder.Extra P ρ) (l s:Str) (hlen:l.length+s.length<=140737488355328) :
  aw P (ρ.f 166) [.bptr 900,.str s] [(900,.bld (ρ.t 72) (ρ.t 5) l)] ⟨some (l.length+s.length<=140737488355328),none,.tup [.int .i64 s.length,.nilif],[(900,.bld (ρ.t 72) (ρ.t 5) (l++s))]⟩:=by
 intro w pub e vs hp ht hv hs hd hi
 obtain ⟨v1,v2,rfl,h1,h2⟩:=VL.two_inv hv
 obtain ⟨b,g,he,rfl⟩:=h1.bptr_inv
 have he:e 900=some (.bld b g):=he
 obtain ⟨rfl,hsl⟩:v2=.string ⟨s.toArray⟩/\s.length<=b8:=by cases h2 with | str _ h=>exact ⟨rfl,h⟩
 obtain ⟨b0,g0,he0,hown,hB⟩:=hs 900 _ rfl
 have he0:e 900=some (.bld b0 g0):=he0
 rw [he] at he0
 cases he0
 refine (nW L C X b g l s w hB hlen).mono ?_
 rintro en w' ⟨rfl,hb,g',hB',hg'⟩
 refine ⟨_,_,fun _ _ _ h=>(by cases h),?_,After.bld hp hs hd hi rfl he hb hB' hg'⟩
 refine .tup _ [_,_] rfl fun j c v hc hv=>?_
 match j,hc,hv with
 | 0,hc,hv=>simp at hc hv;subst hc hv;obtain ⟨b1,b2⟩:=fK (n:=s.length) hsl;exact .int .i64 _ b1 b2
 | 1,hc,hv=>simp at hc hv;subst hc hv;exact .nilif
 | j+2,hc,hv=>simp at hc
theorem sS (L:Lays.n169 P ρ) (X:Builder.Extra P ρ) (l:Str) (hl:l.length<=b8) :
  aw P (ρ.f 169) [.bptr 900] [(900,.bld (ρ.t 72) (ρ.t 5) l)] ⟨some (l.length<=b8),none,.str l,[(900,.bld (ρ.t 72) (ρ.t 5) l)]⟩:=by
 intro w pub e vs hp ht hv hs hd hi
 obtain ⟨v1,rfl,h1⟩:=VL.one_inv hv
 obtain ⟨b,g,he,rfl⟩:=h1.bptr_inv
 have he:e 900=some (.bld b g):=he
 obtain ⟨b0,g0,he0,hown,hB⟩:=hs 900 _ rfl
 have he0:e 900=some (.bld b0 g0):=he0
 rw [he] at he0
 cases he0
 refine (xL L X b g l w hB).mono ?_
 rintro en w' ⟨rfl,hb,hB'⟩
 exact ⟨_,_,fun _ _ _ h=>(by cases h),.str l hl,After.bld hp hs hd hi rfl he hb hB' (fun x h=>.inl h)⟩
def gw (t u:Nat):Pat:=fun args S=>
 match args,S with
 | [.bptr 900,.str s],[(900,.bld t' u' l)]=>if t'=t/\u'=u then some ⟨some (l.length+s.length<=140737488355328),none,.tup [.int .i64 s.length,.nilif],[(900,.bld t u (l++s))]⟩ else none
 | _,_=>none
def eZ (t u:Nat):Pat:=fun args S=>
 match args,S with
 | [.bptr 900],[(900,.bld t' u' l)]=>if t'=t/\u'=u then some ⟨some (l.length<=b8),none,.str l,[(900,.bld t u l)]⟩ else none
 | _,_=>none
theorem uF {f t u:Nat} (L:WL P ρ) (C:CC P ρ) (X:Builder.Extra P ρ) (hf:ρ.f 166=f) (ht:ρ.t 72=t) (hu:ρ.t 5=u) (he:an P f):ag P f (gw t u):=by
 subst hf ht hu
 intro args S A h hob hkeys
 unfold gw at h
 split at h
 ·split at h
  ·rename_i e
   obtain ⟨rfl,rfl⟩:=e
   cases h
   exact ⟨he,lQ L C X _ _ (hob _ rfl)⟩
  ·cases h
 ·cases h
theorem sT {f t u:Nat} (L:Lays.n169 P ρ) (X:Builder.Extra P ρ) (hf:ρ.f 169=f) (ht:ρ.t 72=t) (hu:ρ.t 5=u) (he:an P f):ag P f (eZ t u):=by
 subst hf ht hu
 intro args S A h hob hkeys
 unfold eZ at h
 split at h
 ·split at h
  ·rename_i e
   obtain ⟨rfl,rfl⟩:=e
   cases h
   exact ⟨he,sS L X _ (hob _ rfl)⟩
  ·cases h
 ·cases h
end Go.AL
end
section
namespace Go.AL
variable [Tabs]
open Go.Proofs Go.Shelf Go.RowKit
variable {P:Program} {ρ:Ren}
theorem CC.of (L:Lays.n240 P ρ) (X:Builder.X72 P ρ):CC P ρ:=
 ⟨enters_of L.f240 (by kernel_rfl) rfl,fun b w h=>Any.Builder_copyCheck_used L X b w h,fun b w h0 h1 h2=>Any.Builder_copyCheck_fresh L X b w h0 h1 h2⟩
end Go.AL
end
noncomputable section
namespace Go.AL
variable [Tabs]
open Go.Proofs Go.RowKit Go.Maps Go.Sort Go.Shelf
variable {P:Program} {ρ:Ren}
def du {α:Type} (F:Fence) (n:Nat) (P:Program) (g:Nat) (lb:Array Value) (enc:α→Value) (S:List α→Prop) (N:Nat) (w:World):Prop:=
 ∀(l:Nat) (J:List α→World→Prop) (W:World),Below w.heap.size w W→AbidesFrom W.heap.size J→(∀pre W1,J pre W1→Below w.heap.size w W1)→
  (∀pre x W1,J pre W1→pre.length < N→YieldAt F (n - 1) P l #[enc x] W1 fun e W'=>e=.returned (.bool true)/\J (pre++[x]) W'/\KeepsWalks W1 W')→
  J [] W→
  CallsIn F n P g (#[.func (.yield l) #[] #[]]++lb) W fun e W'=>(∃v,e=.returned v)/\∃xs,S xs/\J xs W'
theorem du.bounded {α:Type} {F:Fence} {n:Nat} {g:Nat} {lb:Array Value} {enc:α→Value} {S:List α→Prop} {N:Nat} {w:World}
  (h:du F n P g lb enc S N w):du F n P g lb enc (fun xs=>S xs/\xs.length<=N) N w:=fun l J W hW hJ hB hY h0=>by
 refine (h l (fun xs W'=>J xs W'/\xs.length<=N) W hW (fun s A B row hs hg hr=>⟨hJ s A B row hs.1 hg hr,hs.2⟩) (fun pre W1 h=>hB pre W1 h.1)
  (fun pre x W1 hj hl=>(hY pre x W1 hj.1 hl).mono (fun e w' hr=>⟨hr.1,⟨hr.2.1,by simp;omega⟩,hr.2.2⟩)) ⟨h0,Nat.zero_le _⟩).mono ?_
 rintro e W' ⟨hv,xs,hS,hJ',hlen⟩
 exact ⟨hv,xs,⟨hS,hlen⟩,hJ'⟩
set_option maxRecDepth 100000 in
set_option maxHeartbeats 2000000 in
theorem xM (L:SlLaysZ.n11 P ρ) (F:Fence) (n:Nat) (h11:F.fn (ρ.f 11)) (hro:F.round=none) (hn:2<=n) (g:Nat) (lb:Array Value) (hFg:F.fn g) (eg:∀args w,(callFunc g args).run P w=.ok (.enter g args) w)
  (S:List (List UInt8)→Prop) (N:Nat) (hN:N<=maxLen) (hNb:N *16<=140737488355328) (w:World) (hseq:du F (n - 1) P g lb encStr S N w) :
  CallsIn F n P (ρ.f 11) #[.slice none 0 0,.func (.func g) #[] lb] w fun e w'=>∃(v:Value) (ss:List (List UInt8)),e=.returned v/\S ss/\w'.ownsRow w.heap.size (ρ.t 26) 1 v ss.length (ss.map encStr)/\(v=.slice none 0 0↔ss=[])/\Below w.heap.size w w':=by
 have h1:1<=n:=by omega
 have mixed:=L.mixed;have t0:=L.t0;have a0:=L.a0;have z0:=L.z0;have v0:=L.v0;have t24:=L.t24;have a24:=L.a24;have z24:=L.z24;have v24:=L.v24;have t26:=L.t26;have a26:=L.a26;have z26:=L.z26;have v26:=L.v26;have t28:=L.t28;have a28:=L.a28;have z28:=L.z28;have v28:=L.v28
 have hne:ρ.t 24≠ρ.t 26:=fun e=>by have h:=L.t24;rw [e,L.t26] at h;cases h
 have u0:=run_underlying L.t0;have u24:=run_underlying L.t24;have u26:=run_underlying L.t26;have u28:=run_underlying L.t28
 obtain ⟨_,_,FG⟩:=L.f11
 refine callsIn_of_wp_marks FG rfl h11 ?_ hro
 simp only [SlBodyZ.n11_ntmps ρ,List.size_toArray,List.length_cons,List.length_nil,Nat.reduceAdd,Nat.reduceSub,Array.replicate_succ,Array.replicate_zero,List.push_toArray,List.append_toArray,List.nil_append,List.cons_append]
 gi_wp2
 refine wpIn_rangeFunc ?_
 intro fn hfn
 rw [hro]
 obtain ⟨W0,hW0⟩:∃W0,w.alloc (.cells #[.slice none 0 0] (ρ.t 24))=W0:=⟨_,rfl⟩
 have hs0:W0.heap.size=w.heap.size+1:=by rw [←hW0];simp
 have hv0:W0.heap[w.heap.size]?=some (.cells #[.slice none 0 0] (ρ.t 24) (0,0)):=by rw [←hW0];exact World.alloc_heap_new w _
 have hb0:Below w.heap.size w W0:=by rw [←hW0];exact (Below.refl _ w).alloc (Nat.le_refl _) _
 rw [hW0]
 obtain ⟨W1,hW1⟩:∃W1,(W0.alloc (.deferred (some []))).alloc (.loop (AnyZ.apRec ρ fn (.func (.func g) #[] lb) w.heap.size W0.heap.size .ready none))=W1:=⟨_,rfl⟩
 have hold:∀k,k < W0.heap.size→W1.heap[k]?=W0.heap[k]?:=fun k hk=>by
  rw [←hW1];exact (Below.heap_alloc _ _ k (by simp;omega)).trans (Below.heap_alloc _ _ k hk)
 have hb1:Below w.heap.size w W1:=by rw [←hW1];exact (hb0.alloc hb0.size _).alloc (by have:=hb0.size;simp;omega) _
 have hs1:W1.heap.size=W0.heap.size+2:=by rw [←hW1];simp
 have hM:AnyZ.ApAt ρ w fn (.func (.func g) #[] lb) w.heap.size (W0.heap.size+1) W0.heap.size [] W1:=
  ⟨⟨_,(hold w.heap.size (by omega)).trans hv0,⟨rfl,.inl ⟨rfl,rfl⟩⟩,by simp⟩,
   by rw [←hW1];have:=World.alloc_heap_new (W0.alloc (.deferred (some []))) (.loop (AnyZ.apRec ρ fn (.func (.func g) #[] lb) w.heap.size W0.heap.size .ready none));rwa [World.size_alloc] at this,
   by rw [←hW1];exact (Below.heap_alloc _ _ _ (by simp)).trans (World.alloc_heap_new W0 _),hb1⟩
 refine ⟨W0.heap.size+1,[{target:=.collected W0.heap.size,args:=#[]}],W1,{target:=.fn (.func g) lb,args:=#[.func (.yield (W0.heap.size+1)) #[] #[]]},W1,g,
  #[.func (.yield (W0.heap.size+1)) #[] #[]]++lb,W1,?_,?_,?_,?_,fun _=>h1,?_⟩
 ·rw [←hW1];exact run_enterLoop_outer _ _ _ _ _
 ·simp [resolve,go_sem]
 ·intro f' hf';simp [Target.leads] at hf';subst hf';exact hFg
 ·simp [invoke,go_sem,eg]
 ·refine (hseq (W0.heap.size+1) (AnyZ.ApAt ρ w fn (.func (.func g) #[] lb) w.heap.size (W0.heap.size+1) W0.heap.size) W1 hb1 (AnyZ.ap_abides ρ _ _ _ _ _ _ _ hb1.size) (fun _ _ h=>h.below)
   (fun pre x W hJ hl=>AnyZ.apYield {L with} F (n - 1 - 1) w fn hfn _ w.heap.size (W0.heap.size+1) W0.heap.size (by omega) (by omega) (by omega) (Nat.le_refl _) (by omega) N hN hNb pre x W hJ hl) hM).mono ?_
  rintro e W2 ⟨⟨v0,rfl⟩,ss,hS,h2⟩
  obtain ⟨v,hv,hrow,hnil⟩:=h2.box
  have hend:=run_endLoop (P:=P) h2.L (by simp [AnyZ.apRec])
  obtain ⟨W3,hW3⟩:∃W3,W2.putObj (W0.heap.size+1) (.loop {AnyZ.apRec ρ fn (.func (.func g) #[] lb) w.heap.size W0.heap.size .ready none with state:=.exhausted})=W3:=⟨_,rfl⟩
  rw [hW3] at hend
  have hg3:W2.grownBy W3 (some (W0.heap.size+1)):=by rw [←hW3];exact grownBy_putObj_a _ _ _
  have hv3:W3.heap[w.heap.size]?=some (.cells #[v] (ρ.t 24) (0,0)):=by rw [←hW3];exact (World.putObj_heap_other (by omega)).trans hv
  have hK3:W3.heap[W0.heap.size]?=some (.deferred (some [])):=by rw [←hW3];exact (World.putObj_heap_other (by omega)).trans h2.K
  have hrow3:=hrow.kept hg3 (ownsRow_ne_a hrow h2.L (fun cur e=>by first | cases e | exact hne (Obj.cells.inj e).2.1))
  have hb3:Below w.heap.size w W3:=h2.below.grown hg3 h2.below.size (fun k e=>by cases e;omega)
  obtain ⟨hc3,hf3⟩:=cell_of_box_a hv3
  clear hW3
  refine ⟨none,W3,hend,?_⟩
  gi_wp2
  rw [←hs0]
  refine ⟨by simp,.inl ⟨_,_,rfl,run_takeDeferred hK3,?_⟩⟩
  exact ⟨_,results_tmp rfl _ _ _,v,ss,rfl,hS,hrow3.kept (grownBy_putObj_a _ _ _) (ownsRow_ne_a hrow3 hK3 (fun cur e=>by first | cases e | exact hne (Obj.cells.inj e).2.1)),hnil,hb3.grown (grownBy_putObj_a _ _ _) hb3.size (fun k e=>by cases e;omega)⟩
set_option maxRecDepth 100000 in
set_option maxHeartbeats 2000000 in
theorem Dy (L:SlLaysZ.n8 P ρ) (F:Fence) (n:Nat) (h8:F.fn (ρ.f 8)) (h11:F.fn (ρ.f 11)) (hro:F.round=none) (hn:3<=n) (g:Nat) (lb:Array Value) (hFg:F.fn g) (eg:∀args w,(callFunc g args).run P w=.ok (.enter g args) w)
  (S:List (List UInt8)→Prop) (N:Nat) (hN:N<=maxLen) (hNb:N *16<=140737488355328) (w:World) (hseq:du F (n - 1 - 1) P g lb encStr S N w) :
  CallsIn F n P (ρ.f 8) #[.func (.func g) #[] lb] w fun e w'=>∃(v:Value) (ss:List (List UInt8)),e=.returned v/\S ss/\w'.ownsRow w.heap.size (ρ.t 26) 1 v ss.length (ss.map encStr)/\(v=.slice none 0 0↔ss=[])/\Below w.heap.size w w':=by
 have h1:1<=n:=by omega
 have e11:∀args w,(callFunc (ρ.f 11) args).run P w=.ok (.enter (ρ.f 11) args) w:=L.f11.enters rfl
 have mixed:=L.mixed;have t0:=L.t0;have a0:=L.a0;have z0:=L.z0;have v0:=L.v0;have t24:=L.t24;have a24:=L.a24;have z24:=L.z24;have v24:=L.v24;have t26:=L.t26;have a26:=L.a26;have z26:=L.z26;have v26:=L.v26;have t28:=L.t28;have a28:=L.a28;have z28:=L.z28;have v28:=L.v28
 have u0:=run_underlying L.t0;have u24:=run_underlying L.t24;have u26:=run_underlying L.t26;have u28:=run_underlying L.t28
 obtain ⟨_,_,FG⟩:=L.f8
 refine callsIn_of_wp FG rfl h8 ?_ hro
 simp only [SlBodyZ.n8_ntmps ρ,List.size_toArray,List.length_cons,List.length_nil,Nat.reduceAdd,Nat.reduceSub,Array.replicate_succ,Array.replicate_zero,List.push_toArray,List.append_toArray,List.nil_append,List.cons_append]
 gi_wp2_with (gi_at_fn (ρ.f 11);refine (xM {L with} F (n - 1) h11 hro (by omega) g lb hFg eg S N hN hNb _ hseq).mono ?_;rintro e w' ⟨v,ss,rfl,hS,hrow,hnil,hb⟩)
 go_ret
 exact ⟨v,ss,rfl,hS,hrow,hnil,hb⟩
set_option maxRecDepth 100000 in
set_option maxHeartbeats 2000000 in
theorem FL (L:SlLaysZ.n6 P ρ) (F:Fence) (n:Nat) (h6:F.fn (ρ.f 6)) (h8:F.fn (ρ.f 8)) (h9:F.fn (ρ.f 9)) (h11:F.fn (ρ.f 11)) (hro:F.round=none) (hn:4<=n) (hsort:AnyZ.SortsIn P ρ F (n - 1)) (e9:∀args w,(callFunc (ρ.f 9) args).run P w=.ok (.enter (ρ.f 9) args) w) (g:Nat) (lb:Array Value) (hFg:F.fn g) (eg:∀args w,(callFunc g args).run P w=.ok (.enter g args) w)
  (S:List (List UInt8)→Prop) (N:Nat) (hN:N<=maxLen) (hNb:N *16<=140737488355328) (w:World) (hseq:du F (n - 1 - 1 - 1) P g lb encStr S N w) :
  CallsIn F n P (ρ.f 6) #[.func (.func g) #[] lb] w fun e w'=>∃(v:Value) (ss:List (List UInt8)),e=.returned v/\S ss/\
   w'.ownsRow w.heap.size (ρ.t 26) 1 v ss.length ((ss.mergeSort (fun x y=>decide (x<=y))).map encStr)/\(v=.slice none 0 0↔ss=[])/\Below w.heap.size w w':=by
 have h1:1<=n:=by omega
 have e8:∀args w,(callFunc (ρ.f 8) args).run P w=.ok (.enter (ρ.f 8) args) w:=L.f8.enters rfl
 have mixed:=L.mixed;have t0:=L.t0;have a0:=L.a0;have z0:=L.z0;have v0:=L.v0;have t24:=L.t24;have a24:=L.a24;have z24:=L.z24;have v24:=L.v24;have t26:=L.t26;have a26:=L.a26;have z26:=L.z26;have v26:=L.v26;have t28:=L.t28;have a28:=L.a28;have z28:=L.z28;have v28:=L.v28
 have u0:=run_underlying L.t0;have u24:=run_underlying L.t24;have u26:=run_underlying L.t26;have u28:=run_underlying L.t28
 obtain ⟨_,_,FG⟩:=L.f6
 refine callsIn_of_wp FG rfl h6 ?_ hro
 simp only [SlBodyZ.n6_ntmps ρ,List.size_toArray,List.length_cons,List.length_nil,Nat.reduceAdd,Nat.reduceSub,Array.replicate_succ,Array.replicate_zero,List.push_toArray,List.append_toArray,List.nil_append,List.cons_append]
 gi_wp2_with (gi_at_fn (ρ.f 8);refine (Dy {L with} F (n - 1) h8 h11 hro (by omega) g lb hFg eg _ N hN hNb _ (du.bounded hseq)).mono ?_;rintro e W ⟨v,ss,rfl,⟨hS,hlen⟩,hrow,hnil,hb⟩)
 rcases hrow.2 with ⟨rfl,hz⟩ | ⟨gb,cap,cur,rfl,hbase,hgb,r1,r2,r3,r4⟩
 ·
  have hss:ss=[]:=List.eq_nil_of_length_eq_zero hz
  subst hss
  gi_wp2_with (gi_at_fn (ρ.f 9);refine (hsort.2 none 0 W).mono ?_;rintro e w' ⟨rfl,rfl⟩)
  go_ret
  exact ⟨.slice none 0 0,[],rfl,hS,by simpa using hrow,by simp,hb⟩
 ·have hH:Go.Sort.Holds encStr W gb 0 ss.toArray:=holds_of_block hgb (by simpa using r4)
  have hgl:gb < W.heap.size:=(Array.getElem?_eq_some_iff.1 hgb).1
  have hsz:ss.length < 4611686018427387904:=by omega
  have cS:=hsort.1 gb 0 cap ss W hH hgl hsz
  gi_wp2_with (gi_at_fn (ρ.f 9);refine cS.mono ?_;rintro e w' ⟨rfl,nn,os,rfl⟩)
  go_ret
  exact ⟨_,ss,rfl,hS,ownsRow_sorted (by simp) hbase hgb r1 r2 r3,hnil,hb.grown (grownBy_sorted _) hb.size (fun j hj=>by cases hj;exact hbase)⟩
theorem Bl {f:Nat} {args:List AV} {S:List (Nat × SObj)} {ob:Option Prop} {T:TypeId} {ss:List Str} (hk:ak S 0=none)
  (hC:∀w pub e vs,ic w pub→VL ⟨e,w,pub⟩ args vs→(∀id o,ak S id=some o→b9 ⟨e,w,pub⟩ (fun _ _=>True) id o)→
   (∀s∈ss,s.length<=b8)/\Calls P f vs.toArray w fun en w'=>∃v,en=.returned v/\w'.ownsRow w.heap.size T 1 v ss.length (ss.map encStr)/\Below w.heap.size w w') :
  aw P f args S ⟨ob,none,.arr 0 ss.length 1,[(0,.box (.row .str ss))]⟩:=by
 intro w pub e vs hp ht hv hs hd hi
 obtain ⟨hlen,hC⟩:=hC w pub e vs hp hv hs
 refine hC.mono ?_
 rintro en w' ⟨v,rfl,⟨hl,hrow⟩,hb⟩
 have hpl:(ab (.row .str ss)).length=ss.length:=by
  have:=bg .str ss
  rw [show ae .str=1 from rfl,Nat.mul_one] at this
  exact this
 rcases hrow with ⟨rfl,hz⟩ | ⟨g,cap,cur,rfl,hbase,hg,h1,h2,h3,h4⟩
 ·have hss:ss=[]:=List.eq_nil_of_length_eq_zero hz
  subst hss
  refine ⟨_,_,fun _ _ _ h=>(by cases h),?_,After.fresh1 (c:=.box w.heap.size 0 0) hp hs hd hi hb hk (fun b o ho=>by obtain ⟨_,_,h⟩:=ho;omega) ⟨w.heap.size,0,by simp;rfl,fun j c' hc=>?_⟩⟩
  ·exact .arr 0 0 1 w.heap.size 0 0 none (by simp) (by omega) (by omega) (by unfold b8;omega) (.inr ⟨rfl,rfl,rfl⟩)
  ·simp [ab,aY] at hc
 ·refine ⟨_,_,fun _ _ _ h=>(by cases h),?_,After.fresh1 (c:=.box g 0 (ab (.row .str ss)).length) hp hs hd hi hb hk (fun b o ho=>by obtain ⟨rfl,_,_⟩:=ho;exact hbase) ⟨g,0,by simp,fun j c' hc=>?_⟩⟩
  ·exact .arr 0 ss.length 1 g (ab (.row .str ss)).length cap (some ⟨g,0,none⟩) (by simp) (by omega) h1 (by unfold maxLen at h2;unfold b8;omega) (.inl rfl)
  ·have hj:j < ss.length:=by
    rw [←hpl]
    rcases Nat.lt_or_ge j (ab (.row .str ss)).length with k | k
    ·exact k
    ·rw [List.getElem?_eq_none k] at hc;cases hc
   have hcx:=gj .str ss j ss[j] 0 (.str ss[j]) (by simp [hj]) rfl
   have hc0:(ab (.row .str ss))[j]?=some (.str ss[j]):=by rw [show j *ae .str+0=j by rw [show ae .str=1 from rfl];omega] at hcx;exact hcx
   rw [hc0] at hc
   cases hc
   have hcur:cur[j]?=some (encStr ss[j]):=by
    have:(cur.toList.take (ss.length *1))[j]?=some (encStr ss[j]):=by rw [h4];simp [hj]
    rw [List.getElem?_take] at this
    split at this
    ·simpa using this
    ·cases this
   refine ⟨.inl hbase,fun h=>?_,dH hg _,encStr ss[j],by rw [Nat.zero_add,aD hg];exact hcur,.str _ (hlen _ (List.getElem_mem hj))⟩
   rcases h with h | h
   ·obtain ⟨v,hv⟩:=hp _ _ h
    have:=aE hv
    omega
   ·exact h
def ea (l:List Str):List Str:=l.mergeSort fun x y=>decide (x<=y)
theorem lR (l:List Str):(ea l).length=l.length:=List.length_mergeSort _
theorem Bm {l:List Str} {s:Str}:s∈ea l↔s∈l:=List.mem_mergeSort
structure SortL (P:Program) (ρ:Ren):Prop where
 lay:SlLaysZ.n6 P ρ
 sorts:AnyZ.SortsIn P ρ Fence.wide 4
 e9:∀args w,(callFunc (ρ.f 9) args).run P w=.ok (.enter (ρ.f 9) args) w
theorem sU (L:SortL P ρ) {g:Nat} {lb:Array Value} (eg:∀args w,(callFunc g args).run P w=.ok (.enter g args) w) {ks:List Str} (hN:ks.length *16<=140737488355328) {w:World}
  (hseq:du Fence.wide 2 P g lb encStr (fun ss=>ss.Perm ks) ks.length w) :
  Calls P (ρ.f 6) #[.func (.func g) #[] lb] w fun en w'=>∃v,en=.returned v/\w'.ownsRow w.heap.size (ρ.t 26) 1 v (ea ks).length ((ea ks).map encStr)/\Below w.heap.size w w':=by
 refine callsIn_wide.1 ((FL L.lay Fence.wide 5 trivial trivial trivial trivial rfl (by omega) L.sorts L.e9 g lb trivial eg _ ks.length (by unfold maxLen;omega) hN w hseq).mono ?_)
 rintro en w' ⟨v,ss,rfl,hS,hrow,_,hb⟩
 have e:ss.mergeSort (fun x y=>decide (x<=y))=ea ks:=mergeSort_of_perm hS
 have hl:ss.length=(ea ks).length:=by rw [lR];exact hS.length_eq
 rw [e,hl] at hrow
 exact ⟨v,rfl,hrow,hb⟩
theorem V.fn_inv {Ω:Om} {f:Nat} {cs:List AV} {v:Value} (h:V Ω (.fn f cs) v):∃vs,v=.func (.func f) #[] vs.toArray/\VL Ω cs vs:=by
 cases h with
 | fn _ _ vs h1 h2=>exact ⟨vs,rfl,h1,h2⟩
def Strs (n₀:Nat) (W:World) (sv:Value) (zs:List Str):Prop:=
 ((∃a cap,sv=.slice a 0 cap)/\zs=[])∨∃b off cap,sv=.slice (some ⟨b,off,none⟩) zs.length cap/\b < n₀/\∀j,j < zs.length→W.cell? ⟨b,off+j,none⟩=some (encStr (zs[j]?.getD []))
def upto {α:Type} (f:Nat→α) (k:Nat):List α:=(List.range k).map f
theorem Bn {α:Type} (f:Nat→α) (k:Nat):upto f (k+1)=upto f k++[f k]:=by simp [upto,List.range_succ]
theorem uG {α:Type} (f:Nat→α) (k:Nat):(upto f k).length=k:=by simp [upto]
theorem Dz (zs:List Str):upto (fun j=>zs[j]?.getD []) zs.length=zs:=by
 apply List.ext_getElem
 ·simp [upto]
 ·intro i h1 h2
  simp [upto,h2]
def sV (P:Program) (g:Nat):Prop:=
 ∀(w:World) (b o:Nat) (sv:Value) (zs:List Str),zs.length<=maxLen→w.cell? ⟨b,o,none⟩=some sv→Strs w.heap.size w sv zs→
  du Fence.wide 2 P g #[.pointer (some ⟨b,o,none⟩)] encStr (fun ss=>ss=zs) zs.length w
theorem V.dropTok {Ω:Om} {τ:Ty} {xs:List (den τ)} {o:Option Nat} {v:Value} (h:V Ω (.lst τ xs o) v):V Ω (.lst τ xs none) v:=by
 cases h with
 | lstNil=>exact .lstNil τ none (fun _ h=>by cases h)
 | lstVoid _ a=>exact .lstVoid τ a
 | lst _ _ _ b off cap vals h1 h2 h3 h4 h5=>exact .lst τ xs none b off cap vals h1 h2 (fun _ h=>by cases h) h4 h5
theorem kV (L:SortL P ρ) {g:Nat} (eg:∀args w,(callFunc g args).run P w=.ok (.enter g args) w) (K:sV P g) (zs:List Str) (hN:zs.length *16<=140737488355328) (tok:Option Nat) :
  aw P (ρ.f 6) [.fn g [.ptr 900 0]] [(900,.box (.lst .str zs tok))] ⟨some (zs.length *16<=140737488355328),none,.arr 0 (ea zs).length 1,[(0,.box (.row .str (ea zs)))]⟩:=by
 refine Bl (T:=ρ.t 26) rfl fun w pub e vs hp hv hs=>?_
 obtain ⟨v1,rfl,h1⟩:=VL.one_inv hv
 obtain ⟨us,rfl,hus⟩:=h1.fn_inv
 obtain ⟨u,rfl,hu⟩:=VL.one_inv hus
 obtain ⟨b,o,len,rfl,he⟩:=hu.ptr_inv
 obtain ⟨b',o',he',hbox⟩:=hs 900 _ rfl
 rw [he] at he'
 cases he'
 obtain ⟨_,_,_,v,hcell,hvm⟩:=hbox 0 (.lst .str zs tok) rfl
 have hst:Strs w.heap.size w v zs:=by
  cases hvm with
  | lstNil=>exact .inl ⟨⟨_,_,rfl⟩,rfl⟩
  | lstVoid=>exact .inl ⟨⟨_,_,rfl⟩,rfl⟩
  | lst _ _ _ g0 off cap vals h1 h2 h3 h4 h5=>
   rcases Nat.eq_zero_or_pos zs.length with hz | hz
   ·have:=List.eq_nil_of_length_eq_zero hz
    subst this
    exact .inl ⟨⟨_,_,rfl⟩,rfl⟩
   ·have at_:∀j (hj:j < zs.length),w.cell? ⟨g0,off+j,none⟩=some (encStr zs[j]):=by
     intro j hj
     have q:=h4 j zs[j] (by simp [hj]) 0 (.str zs[j]) rfl
     have r:=h5 j zs[j] (by simp [hj]) 0 (.str zs[j]) rfl
     obtain ⟨r1,_⟩:=r.str_inv
     have:=q.2
     rw [r1] at this
     simpa [ae] using this
    exact .inr ⟨g0,off,cap,rfl,aE (at_ 0 hz),fun j hj=>by rw [at_ j hj];simp [hj]⟩
 refine ⟨fun s hs=>?_,?_⟩
 ·have hw:Wf (.lst .str) zs:=⟨_,_,V.dropTok hvm⟩
  exact (hw.mem (Bm.1 hs)).str
 have hsq:=K w b (o+0) v zs (by unfold maxLen;omega) hcell hst
 refine sU L eg hN (w:=w) ?_
 intro l J W a1 a2 a3 a4 a5
 refine (hsq l J W a1 a2 a3 a4 a5).mono ?_
 rintro e W' ⟨h1,xs,rfl,h3⟩
 exact ⟨h1,xs,.refl _,h3⟩
end Go.AL
end
noncomputable section
namespace Go.AL
variable [Tabs]
open Go.Proofs Go.RowKit Go.Maps Go.Sort Go.Shelf
variable {P:Program} {ρ:Ren}
theorem After.row {w w':World} {pub:Nat→Nat→Prop} {e:Nat→Option CObj} {S:List (Nat × SObj)}
  (hp:ic w pub) (hs:∀id o,ak S id=some o→b9 ⟨e,w,pub⟩ (fun _ _=>True) id o) (hd:∀id,ak S id=none→e id=none) (hi:Inj e)
  {k b:Nat} {c c':AV} (hk:ak S k=some (.box c)) (he:e k=some (.box b 0 (ab c).length)) (hl:(ab c').length=(ab c).length)
  (os:w'.os=w.os) (tape:w'.tape=w.tape) (output:w'.output=w.output) (size:w.heap.size<=w'.heap.size)
  (hblock:∀b',b' < w.heap.size→b'≠b∨(ab c).length=0→w'.heap[b']?=w.heap[b']?)
  (hcell:∀j,(ab c).length<=j→w'.cell? ⟨b,j,none⟩=w.cell? ⟨b,j,none⟩)
  (hkind:w'.shape? b=w.shape? b/\∀o,w'.frozen? ⟨b,o,none⟩=w.frozen? ⟨b,o,none⟩)
  (hval:∀(j:Nat) (c0:AV),(ab c')[j]?=some c0→∃v,w'.cell? ⟨b,j,none⟩=some v/\∀Ω',V Ω' c0 v) :
  After w pub e (ak (bU S [(k,.box c')])) w' (fun b o=>pub b o∨False) (fun i=>if k=i then some (.box b 0 (ab c).length) else e i):=by
 obtain ⟨b0,off0,he0,hbox⟩:=hs k _ hk
 have he0:e k=some (.box b0 off0 (ab c).length):=he0
 rw [he] at he0
 simp only [Xs,CObj.box.injEq] at he0
 obtain ⟨rfl,rfl,_⟩:=he0
 have inE:∀{o},o < (ab c).length→pE e k b o:=fun h=>⟨_,he,rfl,by omega,by omega⟩
 have outE:∀{b' o},¬pE e k b' o→b'≠b∨(ab c).length<=o:=by
  intro b' o h
  rcases Nat.lt_or_ge o (ab c).length with h' | h'
  ·exact .inl fun e=>h (e ▸ inE h')
  ·exact .inr h'
 have cell:∀b' o,b' < w.heap.size→¬pE e k b' o→w'.cell? ⟨b',o,none⟩=w.cell? ⟨b',o,none⟩:=by
  intro b' o h1 h2
  by_cases hb:b'=b
  ·subst hb
   rcases outE h2 with h | h
   ·exact absurd rfl h
   ·exact hcell o h
  ·exact ah (hblock b' h1 (.inl hb)) o
 refine After.slot hp hs hd hi (Q:=fun _ _=>False) os tape output size (fun b' h1 h2=>?_) cell (fun b' h1 h2=>?_) (fun b' o h=>?_) (fun _ _ h=>h.elim) (fun c0 h=>?_) (fun b' o h=>?_) (fun _=>?_)
 ·refine hblock b' h1 ?_
  rcases outE (h2 0) with h | h
  ·exact .inl h
  ·exact .inr (by omega)
 ·by_cases hb:b'=b
  ·subst hb;exact hkind
  ·have:=hblock b' h1 (.inl hb)
   exact ⟨aR this,fun o=>aK this o⟩
 ·obtain ⟨v,hv⟩:=hp b' o h
  refine cell b' o (aE hv) ?_
  rintro ⟨c1,h1,h2⟩
  rw [he] at h1
  cases h1
  obtain ⟨rfl,_,h3⟩:=h2
  have hj:o < (ab c).length:=by omega
  have:=(hbox o _ (List.getElem?_eq_getElem hj)).2.1
  exact this (by simpa using h)
 ·rw [he] at h
  cases h
  exact ⟨rfl,rfl,rfl⟩
 ·exact .inr ⟨_,he,h⟩
 ·refine ⟨b,0,by simp [hl],fun j c0 hc=>?_⟩
  have hj:j < (ab c).length:=by
   rw [←hl]
   rcases Nat.lt_or_ge j (ab c').length with q | q
   ·exact q
   ·rw [List.getElem?_eq_none q] at hc;cases hc
  obtain ⟨_,q2,q3,_⟩:=hbox j _ (List.getElem?_eq_getElem hj)
  obtain ⟨v,hv,hV⟩:=hval j c0 hc
  rw [Nat.zero_add] at q2 q3 ⊢
  refine ⟨.inr ⟨k,_,he,rfl,by omega,by omega⟩,fun h=>?_,?_,v,hv,hV _⟩
  ·rcases h with h | h
   ·exact q2 h
   ·exact h
  ·exact (hkind.2 j).trans q3
theorem uH {α:Type} [Inhabited α] (enc:α→Value) (w:World) (b:Nat) (d:Array α) (k:Nat) (h:k≠b∨d.size=0):(putRow enc w b 0 d).heap[k]?=w.heap[k]?:=by
 unfold putRow mapBlock
 simp only [Array.getElem?_modify]
 by_cases hk:b=k
 ·subst hk
  rcases h with h | h
  ·exact absurd rfl h
  ·simp only [if_true]
   cases hw:w.heap[b]? with
   | none=>rfl
   | some o=>
    simp only [Option.map_some,Xs]
    cases o with
    | cells c e f=>
     simp only [onCells,Obj.cells.injEq,and_true,true_and]
     apply Array.ext
     ·simp [putCells]
     ·intro i h1 h2
      simp [putCells,h]
    | _=>rfl
 ·rw [if_neg hk]
theorem sW {α:Type} [Inhabited α] (enc:α→Value) (w:World) (b:Nat) (d:Array α):(putRow enc w b 0 d).shape? b=w.shape? b:=by
 unfold putRow mapBlock World.shape?
 simp only [Array.getElem?_modify,if_true]
 cases w.heap[b]? with
 | none=>rfl
 | some o=>cases o <;> simp [onCells,putCells]
theorem fa {τ:Ty} (hw:ae τ=1) (xs:List (den τ)):(ab (.row τ xs)).length=xs.length:=by
 have:=bg τ xs
 rw [hw,Nat.mul_one] at this
 exact this
theorem jG {τ:Ty} (hw:ae τ=1) (xs:List (den τ)) (j:Nat) (x:den τ) (c:AV) (hx:xs[j]?=some x) (hc:(cells τ x)[0]?=some c):(ab (.row τ xs))[j]?=some c:=by
 have:=gj τ xs j x 0 c hx hc
 rw [hw,Nat.mul_one,Nat.add_zero] at this
 exact this
theorem strRow {Ω:Om} {own:Nat→Nat→Prop} {id b:Nat} {ss:List Str} (h:b9 Ω own id (.box (.row .str ss))) {len:Nat} (he:Ω.e id=some (.box b 0 len)) :
  len=ss.length/\Go.Sort.Holds encStr Ω.w b 0 ss.toArray/\∀s∈ss,s.length<=b8:=by
 obtain ⟨b',off,h1,h2⟩:=h
 rw [he] at h1
 simp only [Xs,CObj.box.injEq] at h1
 obtain ⟨rfl,rfl,h1⟩:=h1
 have at_:∀j (hj:j < ss.length),Ω.w.frozen? ⟨b,0+j,none⟩=false/\Ω.w.cell? ⟨b,0+j,none⟩=some (encStr ss[j])/\ss[j].length<=b8:=by
  intro j hj
  obtain ⟨_,_,q3,v,q4,q5⟩:=h2 j _ (jG (τ:=.str) rfl ss j ss[j] (.str ss[j]) (by simp [hj]) rfl)
  obtain ⟨rfl,q6⟩:=q5.str_inv
  exact ⟨q3,q4,q6⟩
 refine ⟨by rw [h1];exact fa (τ:=.str) rfl ss,fun j hj=>?_,fun s hs=>?_⟩
 ·have hj':j < ss.length:=by simpa using hj
  obtain ⟨q1,q2,_⟩:=at_ j hj'
  exact ⟨by rw [q2];simp [hj'],q1⟩
 ·obtain ⟨j,hj,rfl⟩:=List.getElem_of_mem hs
  exact (at_ j hj).2.2
theorem uI {ss:List Str} {s:Str} (h:s∈Lib.compact ss):s∈ss:=by
 unfold Lib.compact Lib.compactUpTo at h
 obtain ⟨j,hj,rfl⟩:=List.mem_map.1 h
 have:=(List.mem_filter.1 hj).1
 rw [List.mem_range] at this
 simp [this]
theorem After.strRow {w:World} {pub:Nat→Nat→Prop} {e:Nat→Option CObj} {S:List (Nat × SObj)}
  (hp:ic w pub) (hs:∀id o,ak S id=some o→b9 ⟨e,w,pub⟩ (fun _ _=>True) id o) (hd:∀id,ak S id=none→e id=none) (hi:Inj e)
  {k b len q:Nat} {ss ts:List Str} {gs:Array Obj} (hk:ak S k=some (.box (.row .str ss))) (he:e k=some (.box b 0 len)) (hl:ts.length=ss.length) (hb:b < w.heap.size) (ht:∀s∈ts,s.length<=b8) :
  After w pub e (ak (bU S [(k,.box (.row .str ts))])) (grow (putRow encStr (Sort.ahead w q) b 0 ts.toArray) gs) (fun b o=>pub b o∨False) (fun i=>if k=i then some (.box b 0 (ab (.row .str ss)).length) else e i):=by
 obtain ⟨rfl,hH,_⟩:=AL.strRow (hs k _ hk) he
 have hsz:(putRow encStr (Sort.ahead w q) b 0 ts.toArray).heap.size=w.heap.size:=by simp
 have old:∀j,j < w.heap.size→(grow (putRow encStr (Sort.ahead w q) b 0 ts.toArray) gs).heap[j]?=(putRow encStr (Sort.ahead w q) b 0 ts.toArray).heap[j]?:=by
  intro j hj
  unfold grow
  simp only
  rw [Array.getElem?_append_left (by rw [hsz];exact hj)]
 have hpl:=fa (τ:=.str) rfl ss
 refine After.row hp hs hd hi hk (by rw [he,hpl]) (by rw [fa rfl,fa rfl,hl]) rfl rfl rfl (by simp [grow]) (fun b' h1 h2=>?_) (fun j hj=>?_) ⟨?_,fun o=>?_⟩ (fun j c0 hc=>?_)
 ·rw [old b' h1,uH encStr (Sort.ahead w q) b ts.toArray b' (by rw [hpl] at h2;simpa [hl] using h2)]
  rfl
 ·rw [ah (old b hb) j,cell?_putRow_other encStr (Sort.ahead w q) b 0 ts.toArray ⟨b,j,none⟩ (.inr (.inr (by rw [hpl] at hj;simp;omega)))]
  rfl
 ·rw [aR (old b hb),sW]
  rfl
 ·rw [aK (old b hb) o,frozen?_putRow]
  rfl
 ·have hj:j < ts.length:=by
   rw [←fa (τ:=.str) rfl ts]
   rcases Nat.lt_or_ge j (ab (.row .str ts)).length with q | q
   ·exact q
   ·rw [List.getElem?_eq_none q] at hc;cases hc
  rw [jG (τ:=.str) rfl ts j ts[j] (.str ts[j]) (by simp [hj]) rfl] at hc
  cases hc
  refine ⟨encStr ts[j],?_,fun Ω'=>.str _ (ht _ (List.getElem_mem hj))⟩
  rw [ah (old b hb) j]
  have:=cell?_putRow encStr (Sort.ahead w q) b 0 ss.toArray ts.toArray hH (by simp [hl]) j (by simpa using hj)
  rw [Nat.zero_add] at this
  rw [this]
  simp [hj]
theorem qM (L:Lays.n194 P ρ) (n:Nat) (ss:List Str) (hn:n=ss.length) :
  aw P (ρ.f 194) [.arr 900 n 1] [(900,.box (.row .str ss))]
   ⟨some (n=ss.length),none,.arr 900 (Lib.compact ss).length 1,[(900,.box (.row .str (Lib.compact ss++List.replicate (ss.length - (Lib.compact ss).length) [])))]⟩:=by
 subst hn
 intro w pub e vs hp ht hv hs hd hi
 obtain ⟨v,rfl,h1⟩:=VL.one_inv hv
 have hcl:(Lib.compact ss).length<=ss.length:=by
  unfold Lib.compact Lib.compactUpTo
  rw [List.length_map]
  exact Nat.le_trans (List.length_filter_le _ _) (by simp)
 cases h1 with
 | arr _ _ _ b len cap a he h2 h3 h4 h5=>
  have he:e 900=some (.box b 0 len):=he
  obtain ⟨rfl,hH,hlen⟩:=strRow (hs 900 _ rfl) he
  have hpl:=fa (τ:=.str) rfl ss
  rcases h5 with rfl | ⟨rfl,hz,rfl⟩
  ·by_cases h0:ss=[]
   ·subst h0
    refine (Any.slices_Compact_string_empty L (some ⟨b,0,none⟩) cap w).mono ?_
    rintro en w' ⟨rfl,rfl⟩
    refine ⟨_,_,fun _ _ _ h=>(by cases h),?_,After.row (c':=.row .str []) hp hs hd hi rfl (show e 900=some (.box b 0 (ab (.row .str [])).length) from he) rfl rfl rfl rfl (Nat.le_refl _) (fun _ _ _=>rfl) (fun _ _=>rfl) ⟨rfl,fun _=>rfl⟩ (fun j c0 hc=>by simp [ab,aY] at hc)⟩
    exact .arr 900 0 1 b (ab (.row .str [])).length cap _ (by simp) (by omega) (by omega) h4 (.inl rfl)
   ·have hpos:0 < ss.length:=List.length_pos_iff.2 h0
    have hb:b < w.heap.size:=aE (hH 0 (by simpa using hpos)).1
    refine (Any.slices_Compact_string L b 0 cap ss w hH (by unfold b8 at h4;omega) h3).mono ?_
    rintro en w' ⟨rfl,q,rfl⟩
    have hA:=After.strRow (q:=q) (gs:=#[]) (ts:=Lib.compact ss++List.replicate (ss.length - (Lib.compact ss).length) []) hp hs hd hi rfl he (by simp;omega) hb (fun s hs'=>by
     rcases List.mem_append.1 hs' with h | h
     ·exact hlen s (uI h)
     ·obtain ⟨_,rfl⟩:=List.mem_replicate.1 h;exact Nat.zero_le _)
    rw [grow_empty] at hA
    exact ⟨_,_,fun _ _ _ h=>(by cases h),.arr 900 (Lib.compact ss).length 1 b (ab (.row .str ss)).length cap _ (by simp) (by rw [hpl];omega) (by omega) h4 (.inl rfl),hA⟩
  ·have h0:ss=[]:=List.eq_nil_of_length_eq_zero hz
   subst h0
   refine (Any.slices_Compact_string_empty L none 0 w).mono ?_
   rintro en w' ⟨rfl,rfl⟩
   refine ⟨_,_,fun _ _ _ h=>(by cases h),?_,After.row (c':=.row .str []) hp hs hd hi rfl (show e 900=some (.box b 0 (ab (.row .str [])).length) from he) rfl rfl rfl rfl (Nat.le_refl _) (fun _ _ _=>rfl) (fun _ _=>rfl) ⟨rfl,fun _=>rfl⟩ (fun j c0 hc=>by simp [ab,aY] at hc)⟩
   exact .arr 900 0 1 b (ab (.row .str [])).length 0 _ (by simp) (by omega) (by omega) h4 (.inr ⟨rfl,rfl,rfl⟩)
end Go.AL
end
noncomputable section
namespace Go.AL
variable [Tabs]
open Go.Proofs Go.Shelf
variable {P:Program} {ρ:Ren}
def Hu (gv gk:Nat):Pat:=fun args S=>
 match args,S with
 | [.fn g [.ptr 900 0]],[(900,.box (.lst .str zs _))]=>
  if g=gv then some ⟨some (zs.length *16<=140737488355328),none,.arr 0 (ea zs).length 1,[(0,.box (.row .str (ea zs)))]⟩ else none
 | [.fn g [.ptr 900 0]],[(900,.box (.map 901)),(901,.map .str _ m)]=>
  if g=gk then some ⟨some (m.length *16<=140737488355328),none,.arr 0 (ea (m.map (·.1))).length 1,[(0,.box (.row .str (ea (m.map (·.1)))))]⟩ else none
 | _,_=>none
def dN (gv:Nat):Pat:=fun args S=>
 match args,S with
 | [.fn g [.ptr 900 0]],[(900,.box (.lst .str zs _))]=>
  if g=gv then some ⟨some (zs.length *16<=140737488355328),none,.arr 0 (ea zs).length 1,[(0,.box (.row .str (ea zs)))]⟩ else none
 | _,_=>none
theorem qN {f gv:Nat} (L:SortL P ρ) (hf:ρ.f 6=f) (eg:∀args w,(callFunc gv args).run P w=.ok (.enter gv args) w) (V:sV P gv) (he:an P f):ag P f (dN gv):=by
 subst hf
 intro args S A h hob hkeys
 unfold dN at h
 split at h
 ·split at h
  ·rename_i e
   subst e
   cases h
   exact ⟨he,kV L eg V _ (hob _ rfl) _⟩
  ·cases h
 ·cases h
def dO:Pat:=fun args S=>
 match args,S with
 | [.arr 900 n 1],[(900,.box (.row .str ss))]=>
  some ⟨some (n=ss.length),none,.arr 900 (Lib.compact ss).length 1,[(900,.box (.row .str (Lib.compact ss++List.replicate (ss.length - (Lib.compact ss).length) [])))]⟩
 | _,_=>none
theorem qO {f:Nat} (L:Lays.n194 P ρ) (hf:ρ.f 194=f) (he:an P f):ag P f dO:=by
 subst hf
 intro args S A h hob hkeys
 unfold dO at h
 split at h
 ·cases h
  exact ⟨he,qM L _ _ (hob _ rfl)⟩
 ·cases h
end Go.AL
end
noncomputable section
namespace Go.AL
open Go.Lib
theorem uJ {l:List Str} (hs:l.Pairwise (·<= ·)):(Lib.compact l).length=l.length↔l.Nodup:=by
 unfold Lib.compact Lib.compactUpTo
 rw [List.length_map]
 have e:((List.range l.length).filter (keeps l.toArray)).length=l.length↔∀j,j < l.length→keeps l.toArray j=true:=by
  have h:=List.length_filter_eq_length_iff (p:=keeps l.toArray) (l:=List.range l.length)
  rw [List.length_range] at h
  rw [h]
  simp
 rw [e,List.nodup_iff_pairwise_ne,List.pairwise_iff_getElem]
 rw [List.pairwise_iff_getElem] at hs
 constructor
 ·intro h i j hi hj hij eq
  have hk:=h j hj
  have hj1:j - 1 < l.length:=by omega
  have h1:l[i]<=l[j - 1]:=by
   rcases Nat.lt_or_ge i (j - 1) with q | q
   ·exact hs i (j - 1) hi hj1 q
   ·have:i=j - 1:=by omega
    subst this
    exact List.le_refl _
  have h2:l[j - 1]<=l[j]:=hs (j - 1) j hj1 hj (by omega)
  have h3:l[j - 1]=l[j]:=List.le_antisymm h2 (by rw [←eq];exact h1)
  unfold keeps at hk
  simp [hj,hj1,h3] at hk
  omega
 ·intro h j hj
  unfold keeps
  rcases Nat.eq_zero_or_pos j with q | q
  ·simp [q]
  ·have hj1:j - 1 < l.length:=by omega
   have:=h (j - 1) j hj1 hj (by omega)
   simp [hj,hj1]
   exact .inr fun e=>this e.symm
theorem sX (l:List Str):(ea l).Pairwise (·<= ·):=by
 have tr:∀a b c:Str,decide (a<=b)=true→decide (b<=c)=true→decide (a<=c)=true:=fun a b c h1 h2=>by
  simp only [decide_eq_true_eq] at *;exact List.le_trans h1 h2
 have to:∀a b:Str,(decide (a<=b) || decide (b<=a))=true:=fun a b=>by
  simp only [Bool.or_eq_true,decide_eq_true_eq];exact List.le_total _ _
 exact (List.pairwise_mergeSort tr to l).imp fun h=>by simpa using h
theorem uK {l:List Str}:(ea l).Nodup↔l.Nodup:=(List.mergeSort_perm l _).nodup_iff
theorem gx (l:List Str):(Lib.compact (ea l)).length=l.length↔l.Nodup:=by
 letI:=sw
 rw [←lR l,uJ (sX l),uK]
end Go.AL
end
section
namespace Go.Pd
open Go.AL
def bO (c:Int):Bool:=decide (97<=c) && decide (c<=122)
def bS (c:Int):Bool:=decide (65<=c) && decide (c<=90)
def bJ (c:Int):Bool:=decide (48<=c) && decide (c<=57)
def dx (c:Int):Bool:=bO c || bS c || bJ c || decide (c=95)
def bI (b:UInt8):Int:=(b.toNat:Int)
def cu (first:Int→Bool) (s:Str):Bool:=!decide (s=[]) && decide (s.length<=24) && first (bI (s.getD 0 0)) && s.all fun c=>dx (bI c)
def str (s:String):Str:=s.toUTF8.data.toList
def GB:List Str:=[[109,111,100,117,108,101],[105,109,112,111,114,116],[112,105,110],[114,97,110,103,101],[116,121,112,101],[111,112,97,113,117,101],[108,101,116],[105,110],[101,120,112,111,114,116],[102,117,110],[105,102],[116,104,101,110],[101,108,115,101],[99,97,115,101],[111,102],[97,115],[110,101,119],[114,97,119],[116,114,117,101],[102,97,108,115,101]]
def lS (s:Str):Bool:=decide (s∈GB)
def al (s:Str):Bool:=cu bO s && !lS s
def bB (s:Str):Bool:=cu bS s
mutual
def sz:Shape→Nat
 | ⟨_,_,_,_,ps⟩=>szL ps+1
def szL:List Shape→Nat
 | []=>0
 | p ::r=>sz p+szL r
end
mutual
def eqS:Shape→Shape→Bool
 | ⟨k,p,n,ns,ps⟩,⟨k',p',n',ns',ps'⟩=>decide (k=k') && decide (p=p') && decide (n=n') && decide (ns=ns') && eqL ps ps'
def eqL:List Shape→List Shape→Bool
 | [],[]=>true
 | a ::r,b ::s=>eqS a b && eqL r s
 | _,_=>false
end
mutual
def allS (f:Shape→Bool):Shape→Bool
 | ⟨k,p,n,ns,ps⟩=>f ⟨k,p,n,ns,ps⟩ && allL f ps
def allL (f:Shape→Bool):List Shape→Bool
 | []=>true
 | p ::r=>allS f p && allL f r
end
mutual
def deepS:Shape→Int→Int
 | ⟨_,_,_,_,ps⟩,l=>deepL ps (l+1) l
def deepL:List Shape→Int→Int→Int
 | [],_,d=>d
 | p ::r,l,d=>deepL r l (max d (deepS p l))
end
def jH (s:Str):Bool:=decide (s=[73,110,116]) || decide (s=[66,111,111,108]) || decide (s=[84,101,120,116]) || decide (s=[65,110,121])
theorem gz (a:Shape):sz a=szL a.parts+1:=by cases a;rfl
theorem dA:∀{l:List Shape} {a:Shape},a∈l→sz a<=szL l
 | b ::r,a,h=>by
  simp only [szL]
  rcases List.mem_cons.1 h with rfl | h
  ·omega
  ·have:=dA h;omega
theorem ow:∀{a b:List Shape},a.length≠b.length→eqL a b=false
 | [],[],h=>absurd rfl h
 | [],_ ::_,_=>rfl
 | _ ::_,[],_=>rfl
 | a ::r,b ::s,h=>by
  simp only [eqL]
  rw [ow (fun e=>h (by simp [e]))]
  simp
def cN (s:Shape):Bool:=decide (s.names.length=s.parts.length) && s.names.all al && decide s.names.Nodup
def aV (s:Shape):Bool:=
 let bare:=decide (s.pkg=[]) && decide (s.name=[])
 if s.kind=1∨s.kind=2∨s.kind=3∨s.kind=4 then bare && decide (s.names=[]) && decide (s.parts=[])
 else if s.kind=5 then bare && decide (s.names=[]) && decide (s.parts.length=1)
 else if s.kind=6∨s.kind=7 then bare && cN s
 else if s.kind=8 then bare && decide (s.names=[]) && !decide (s.parts=[])
 else if s.kind=9 then bB s.name && (decide (s.pkg=[]) && !jH s.name || al s.pkg) && decide (s.names=[]) && decide (s.parts=[])
 else if s.kind=10 then bB s.name && al s.pkg && decide (s.names=[]) && decide (s.parts=[])
 else false
theorem dP (a:Shape):0 < sz a:=by rw [gz];omega
theorem lT:∀(l:List Shape),l.length<=szL l
 | []=>Nat.zero_le _
 | a ::r=>by
  have:=lT r
  have:=dP a
  simp only [szL,List.length_cons]
  omega
theorem eC (f:Shape→Bool) (s:Shape):allS f s=(f s && allL f s.parts):=by cases s;rfl
theorem bw {α:Type} (l:List α) (k:Nat) (d:α) (h:k < l.length):l.take (k+1)=l.take k++[l.getD k d]:=by
 rw [List.take_add_one,List.getD_eq_getElem?_getD,List.getElem?_eq_getElem h]
 rfl
end Go.Pd
end
section
namespace Go.Pd
open Go.AL
def bj (s:Shape):Int:=if 400 < sz s then 3 else if 40 < deepS s 1 then 91 else if allS aV s=true then 0 else 70
def GC (t:Nat) (c:Int):Ans:=⟨some (0<=c/\c<=400),some (decide (400 < c+1),.iface t (.agg []),[(900,.box (.int .i64 (c+1)))]),.tup [],[(900,.box (.int .i64 (c+1)))]⟩
def sY (t:Nat):Pat:=fun args S=>
 match args,S with
 | [.ptr 900 0],[(900,.box (.int .i64 c))]=>some (GC t c)
 | _,_=>none
theorem xN [Tabs] {P:Program} {f t:Nat} (he:an P f) (h:∀c,0<=c/\c<=400→aw P f [.ptr 900 0] [(900,.box (.int .i64 c))] (GC t c)):ag P f (sY t):=by
 intro args S A hA ho _
 unfold sY at hA
 split at hA
 ·simp only [Xs] at hA
  subst hA
  exact ⟨he,h _ (ho _ rfl)⟩
 ·cases hA
def DA (t:Nat) (s:Shape) (l c:Int) (q:Prop):Ans:=
 ⟨some (q/\0<=c/\c<=400/\1<=l/\l<=c+1),some (decide (400 < c+(sz s:Int)),.iface t (.agg []),[(900,.box (.int .i64 401))]),.int .i64 (deepS s l),[(900,.box (.int .i64 (c+(sz s:Int))))]⟩
def ox (t g:Nat) (n:Nat):Pat:=fun args S=>
 match args,S with
 | [a,.int .i64 l,.fn g' [.ptr 900 0]],[(900,.box (.int .i64 c))]=>
  (match Nat.beq g' g,arg (.st .shape) a with
  | true,some s=>some (DA t s l c (sz s<=n))
  | _,_=>none)
 | _,_=>none
theorem pF [Tabs] {P:Program} {f t g n:Nat} (he:an P f) (h:∀s l c,Wf (.st .shape) s→sz s<=n→(0<=c/\c<=400/\1<=l/\l<=c+1)→aw P f [.st .shape s,.int .i64 l,.fn g [.ptr 900 0]] [(900,.box (.int .i64 c))] (DA t s l c (sz s<=n))) :
  ag P f (ox t g n):=by
 intro args S A hA ho _
 unfold ox at hA
 split at hA
 ·split at hA
  ·rename_i s hb hs
   simp only [Xs] at hA
   subst hA
   have e:=Nat.eq_of_beq_eq_true hb
   subst e
   obtain ⟨h1,h2⟩:=ho _ rfl
   exact ⟨he,aw.args (.cons (Rd.arg hs) (.cons (Rd.refl _) (.cons (Rd.refl _) .nil))) (aw.wf fun hw=>h _ _ _ hw.one h1 h2)⟩
  ·cases hA
 ·cases hA
theorem kC:∀(l:List Shape) (k:Nat) (d:Shape),k < l.length→szL (l.take (k+1))=szL (l.take k)+sz (l.getD k d)
 | a ::r,0,d,_=>by simp [szL]
 | a ::r,k+1,d,h=>by
  have:=kC r k d (by simpa using h)
  simp only [List.take_succ_cons,szL,List.getD_cons_succ] at this ⊢
  omega
theorem uL (l:List Shape) (k:Nat):szL (l.take k)<=szL l:=by
 induction l generalizing k with
 | nil=>simp [szL]
 | cons a r ih=>
  cases k with
  | zero=>simp [szL]
  | succ k=>have:=ih k;simp only [List.take_succ_cons,szL];omega
theorem jI {s:Shape} (h:bj s=0):sz s<=400/\deepS s 1<=40/\allS aV s=true:=by
 unfold bj at h
 split at h
 ·omega
 split at h
 ·omega
 split at h
 ·exact ⟨by omega,by omega,by assumption⟩
 ·omega
end Go.Pd
end
section
namespace Go.Pd
open Go.AL
abbrev PS:=Par
def Hy (l:List Tokn) (a:Int):Tokn:=
 if a < (l.length:Int) then l.getD a.toNat (dfl (.st .token))
 else if l.length=0 then ⟨0,[],0⟩ else ⟨0,[],(l.getD ((l.length:Int) - 1).toNat (dfl (.st .token))).pos⟩
def kE (s:Str):Int:=s.foldl (fun n c=>10 *n+((c.toNat:Int) - 48)) 0
end Go.Pd
end
