/- Plain facts. The layer: Go code as conditions, and that they are sound. What the functions' conditions say, proved. The contracts of the functions. No condition. -/
import Derived.Test.YtpiedfeneggkmaaGreatDoorT03
import Derived.BigQuiet
import Derived.Deep.DeepWitnessRowRef
import Derived.Deep.QuietTactic
import Derived.KernelRfl
import Derived.Lib.LaidIn
import Derived.Lib.LaidU8T
import Derived.LoopIn
import Derived.LoopN
import Derived.LoopNIn
import Derived.OwnWalkIn
import Derived.PinnedBridge
import Derived.ProofKit
import Derived.RangeFuncBox
import Derived.RangeFuncLeaves
import Derived.Recover
import Derived.Shelf.SlIter.Sorted
import Derived.Shelf.SlSortCmp.Whole1
import Derived.Shelf.Slices.Clone
import Derived.Shelf.Slices.CompactS
import Derived.Shelf.Small.Strs
import Derived.Shelf.Sort.Plain
import Derived.Shelf.Strconv.Atoi
import Derived.Shelf.Strings.Cut
import Derived.Shelf.Strings.Search3
import Derived.Shelf.Strings.SlTrimAscii
import Derived.Shelf.Strings.Split
import Derived.Shelf.Unicode.DecodeAny
import Derived.Shelf.Unicode.ValidAny
import Derived.Shelf.Vars
import Derived.Sort.Walk0
import Derived.TacticsInMore
import Derived.Test.YtpiedfeneggkmaaGreatDoorCards
import Derived.Test.YtpiedfeneggkmaaGreatDoorProg
import Derived.Test.YtpiedfeneggkmaaGreatDoorTie
import Derived.WalkKit
set_option linter.all false
set_option maxRecDepth 100000
section
namespace Go.AL
open Go.Proofs Go.Shelf Go.RowKit Go.Pd
theorem dD{c:UInt8}:∀{s:Str},Lib.indexByte s c=-1->c∉s
 |[],_=>xJ
 |b::r,h=>by
  unfold Lib.indexByte at h;by_cases e:b=c
  ·subst e;simp at h
  ·have e':(b ==c)=false:=xt.2 e;rw[e']at h;simp only[wX,wA]at h;have hg:=Lib.indexByte_ge r c;split at h
   ·rename_i k;have:=dD (s:=r) (by simpa using k);rw[wC,yP];exact⟨fun q=>e q.symm,this⟩
   ·omega
theorem cJ{c:UInt8}:∀{s:Str},Lib.indexByte s c≠-1->∃k:Nat,Lib.indexByte s c=k/\k<s.length/\s=s.take k++c::s.drop (k+1)/\c∉s.take k
 |[],h=>absurd rfl h
 |b::r,h=>by
  unfold Lib.indexByte at h⊢;by_cases e:b=c
  ·subst e;refine⟨0,by simp,by simp,by simp,by simp⟩
  ·have e':(b ==c)=false:=xt.2 e;rw[e']at h⊢;simp only[wX,wA]at h⊢;split at h
   ·exact absurd rfl h
   ·rename_i k;obtain⟨j,j1,j2,j3,j4⟩:=cJ (s:=r) (by simpa using k);rw[w5 k];refine⟨j+1,by rw[j1];rfl,by simp;omega,?_,?_⟩
    ·rw[xm,xF,xb,<-j3]
    ·rw[xm,wC,yP];exact⟨fun q=>e q.symm,j4⟩
theorem l7{c:UInt8}:∀{s:Str},c∉s->splitB c s=[s]
 |[],_=>rfl
 |b::r,h=>by rw[wC,yP]at h;unfold splitB;rw[w5 (fun e=>h.1 e.symm),l7 h.2]
theorem mf{c:UInt8}:∀{a:Str} (r:Str),c∉a->splitB c (a++c::r)=a::splitB c r
 |[],r,_=>by rw[wZ,splitB,wh rfl]
 |b::a,r,h=>by rw[wC,yP]at h;rw[xb,splitB,w5 (fun e=>h.1 e.symm),mf r h.2]
theorem l8(c:UInt8):∀(n:Nat)(s:Str),s.length<=n->Lib.splitK [c] 0 (s.count c) s=splitB c s
 |n,s,hn=>by
  by_cases h:Lib.indexByte s c=-1
  ·have hm:=dD h;rw[List.count_eq_zero.2 hm,l7 hm];rfl
  ·obtain⟨k,k1,k2,k3,k4⟩:=cJ h;have hc:s.count c=(s.drop (k+1)).count c+1:=by have e:=xq (List.count c) k3;rw[List.count_append,List.count_cons_self,List.count_eq_zero.2 k4]at e;omega
   rw[hc];unfold Lib.splitK;rw[Lib.index_one,w5 (by simpa using h),k1];have hd:(k:Int).toNat+[c].length=k+1:=rfl;have ht:(k:Int).toNat+0=k:=rfl;rw[hd,ht]
   cases n with
   |zero=>omega
   |succ n=>
    rw[l8 c n (s.drop (k+1)) (by rw[List.length_drop];omega)];conv=>rhs;rw[k3]
    rw[mf _ k4]
theorem iG{c:UInt8}:∀{a:Str} (r:Str),c∉a->(a++c::r).takeWhile (fun b=>!decide (b=c))=a
 |[],r,_=>by simp
 |b::a,r,h=>by rw[wC,yP]at h;have hb:¬b=c:=fun e=>h.1 e.symm;rw[xb,List.takeWhile_cons];simp only[hb,yS,Bool.not_false,wR];rw[iG r h.2]
theorem lI{c:UInt8}{s:Str}(h:c∉s):s.takeWhile (fun b=>!decide (b=c))=s:=by
 induction s with
 |nil=>rfl
 |cons b r ih=>rw[wC,yP]at h;have hb:¬b=c:=fun e=>h.1 e.symm;rw[List.takeWhile_cons];simp only[hb,yS,Bool.not_false,wR];rw[ih h.2]
theorem sY(s:Str):Lib.cut s [45]=(ez s,ie s,j9 s):=by
 unfold Lib.cut;rw[Lib.index_one];by_cases h:Lib.indexByte s 45=-1
 ·have hm:=dD h;rw[h,w5 (by decide)];have e:ez s=s:=lI hm;unfold ie j9;rw[e,List.drop_eq_nil_of_le (by omega)];simp
 ·obtain⟨k,k1,k2,k3,k4⟩:=cJ h;rw[k1,wh (by omega)]
  have e:ez s=s.take k:=by
   unfold ez;conv=>lhs;rw[k3]
   exact iG _ k4
  have hl:(s.take k).length=k:=by rw[List.length_take];omega
  unfold ie j9;rw[e,hl];simp[k2]
theorem uo(s:Str)(c:Int)(h0:0<=c)(h1:c<=255):∀k:Nat,um (fun b=>!decide (bI b=c)) s k=if Lib.indexByte s c.toNat.toUInt8=-1 then -1 else Lib.indexByte s c.toNat.toUInt8+k:=by
 have hb:∀b:UInt8,(bI b=c)↔b=c.toNat.toUInt8:=by
  intro b;unfold bI;constructor
  ·intro e;have:c.toNat=b.toNat:=by omega
   rw[this];simp
  ·intro e;rw[e];simp[Nat.toUInt8];omega
 induction s with
 |nil=>intro k;rfl
 |cons b r ih=>
  intro k;rw[um];by_cases e:bI b=c
  ·have e2:=(hb b).1 e;rw[w5 (by simp[e])];unfold Lib.indexByte;rw[e2];simp
  ·have e2:(b ==c.toNat.toUInt8)=false:=xt.2 (fun q=>e ((hb b).2 q));rw[wh (by simp[e]),ih (k+1)];have hg:=Lib.indexByte_ge r c.toNat.toUInt8;have e3:Lib.indexByte (b::r) c.toNat.toUInt8=(if b ==c.toNat.toUInt8 then 0 else if Lib.indexByte r c.toNat.toUInt8 ==-1 then -1 else Lib.indexByte r c.toNat.toUInt8+1):=rfl;rw[e3,e2];simp only[wX,wA,wG];by_cases q:Lib.indexByte r c.toNat.toUInt8=-1
   ·rw[wh q,wh q];rfl
   ·rw[w5 q,w5 q,w5 (by omega)];omega
theorem oh(s:Str)(c:UInt8):decide (0<=Lib.indexByte s c)=decide (c∈s):=by
 have hg:=Lib.indexByte_ge s c;rw[decide_eq_decide];by_cases h:Lib.indexByte s c=-1
 ·exact⟨fun e=>by omega,fun e=>absurd e (dD h)⟩
 ·obtain⟨k,k1,k2,k3,k4⟩:=cJ h;exact⟨fun _=>by rw[k3];simp,fun _=>by omega⟩
variable [Tabs] {P:Program} {X:Ren}
theorem Below.drawn(w:World)(n:Nat):Below w.heap.size w (w.drewN n):=⟨rfl,rfl,rfl,wj _,fun _ _=>rfl⟩
theorem After.news{w w':World}{pub:Nat->Nat->Prop}{e:Nat->Option CObj}(hp:fL w pub)(hd:∀id,e id=none)(hb:Below w.heap.size w w'){p:Nat->Prop}(hc:∀o,p o->∃v,w'.cell? ⟨w.heap.size,o,none⟩=some v) :
  After w pub e (ae (b5 [] [])) w' (fun b o=>pub b o∨(b=w.heap.size/\p o)) e where
 os:=hb.os
 tape:=hb.tape
 output:=hb.output
 size:=hb.size
 block b h _:=hb.block b h
 cell b o h _:=ab (hb.block b h) o
 kind b h _:=⟨aJ (hb.block b h),fun o=>az (hb.block b h) o⟩
 ext:=⟨fun _ c h=>⟨c,h,CLe.refl c⟩,fun _ _ h=>.inl h,fun b o h=>by obtain⟨v,hv⟩:=hp b o h;exact ab (hb.block b (ay hv)) o⟩
 fresh b o h:=by
  rcases h with h|⟨rfl,_⟩
  ·exact .inl h
  ·exact .inr (.inl (wj _))
 ok b o h:=by
  rcases h with h|⟨rfl,h⟩
  ·obtain⟨v,hv⟩:=hp b o h;exact⟨v,(ab (hb.block b (ay hv)) o).trans hv⟩
  ·exact hc o h
 slots id o h:=by simp[b5,aw,aq]at h
 dom id _:=hd id
 inj i j c d b o h:=by rw[hd i]at h;cases h
theorem dq{f:Nat}{args:List AV}{A:AV}{ob:Option Prop}(h:∀(w:World)(pub:Nat->Nat->Prop)(vs:List Value),dU w pub (fun _=>none)->VL ⟨fun _=>none,w,pub⟩ args vs->Calls P f vs.toArray w fun e w'=>(∃v,e=.returned v/\∀E,V E A v)/\Below w.heap.size w w') :
  aO P f args [] ⟨ob,none,A,[]⟩:=by
 intro w pub e vs hp ht hv hs hd hi;have he:e=fun _=>none:=funext fun id=>hd id rfl;subst he;refine(h w pub vs ht hv).mono ?_;rintro en w' ⟨⟨v,rfl,hV⟩,hb⟩;exact⟨pub,_,And.intro (fun b pv u h=>by cases h) (And.intro (hV _) (After.below hp (fun _=>rfl) hb))⟩
theorem VL.two_str{E:Om}{a b:Str}{vs:List Value}(h:VL E [.str a,.str b] vs):vs=[.string ⟨a.toArray⟩,.string ⟨b.toArray⟩]/\a.length<=aS/\b.length<=aS:=by obtain⟨v1,v2,rfl,h1,h2⟩:=VL.two_inv h;obtain⟨rfl,l1⟩:=h1.str_inv;obtain⟨rfl,l2⟩:=h2.str_inv;exact⟨rfl,l1,l2⟩
def uq:Pat:=p2 .str .str fun a b=>⟨some (b=l0),none,.str (l6 a),[]⟩
set_option maxRecDepth 100000 in
theorem sZ(b:UInt8):l0.contains b=jx b:=by
 have h:∀b:Fin 256,l0.contains (UInt8.ofNat b.val)=jx (UInt8.ofNat b.val):=by decide
 have:=h ⟨b.toNat,b.toNat_lt⟩;simpa using this
theorem pM{f:Nat}(L:Lays.n160 P X)(h116:(P.info? (X.t 116)).map (fun i=>(i.zero,i.size))=some (some (.agg (Array.replicate 256 (.bool false))),256))(hf:X.f 160=f)(he:aM P f):aD P f uq:=by
 subst hf;refine gp he fun a b _ _ ho=>?_;have hb:=ho _ rfl;subst hb;refine dq fun w pub vs _ hv=>?_;obtain⟨rfl,l1,l2⟩:=VL.two_str hv;have l1':a.length<=9223372036854775807:=l1;refine(Any.strings_Trim_laid L h116 ⟨a.toArray⟩ ⟨l0.toArray⟩ w (by simpa[ByteArray.size]using l1') (by decide) (fun j b hj=>?_)).mono ?_
 ·have hd:∀b∈l0,b.toNat<128:=by decide
  exact hd b (wq hj)
 ·rintro en w' ⟨rfl,hb⟩;refine⟨⟨_,rfl,fun E=>?_⟩,hb⟩;have e:Lib.trimS a l0=l6 a:=by have ef:(fun b=>l0.contains b)=jx:=funext sZ;unfold Lib.trimS Lib.trimLeftS Lib.trimRightS l6;rw[ef]
  have e2:(⟨a.toArray⟩:ByteArray).data.toList=a:=rfl;have e3:(⟨l0.toArray⟩:ByteArray).data.toList=l0:=rfl;rw[e2,e3,e];exact .str _ (xB (sW a) l1)
def vk:Pat:=p2 .str .str fun a b=>⟨some (b=[45]/\a.length<4294967281),none,.tup [.str (ez a),.str (ie a),.bool (j9 a)],[]⟩
theorem rL{f:Nat}{m:Int}(L:Lays.n145 P X)(hm:Tabs.tab (X.g 1) 0 (.int .i64 m))(hf:X.f 145=f)(he:aM P f):aD P f vk:=by
 subst hf;refine gp he fun a b _ _ ho=>?_;obtain⟨hb,hl⟩:=ho _ rfl;subst hb;refine dq fun w pub vs ht hv=>?_;obtain⟨rfl,l1,l2⟩:=VL.two_str hv;refine(Any.strings_Cut L ⟨a.toArray⟩ ⟨([45]:Str).toArray⟩ m w (by simpa[ByteArray.size]using hl) (ht.1 _ _ _ hm).2).mono ?_;rintro en w' ⟨rfl,n,rfl⟩;refine⟨⟨_,rfl,fun E=>?_⟩,Below.drawn w n⟩;have e2:(⟨a.toArray⟩:ByteArray).data.toList=a:=rfl;have e3:(⟨([45]:Str).toArray⟩:ByteArray).data.toList=[45]:=rfl;rw[e2,e3,sY];refine V.of_tup (VL.cons (.str _ ?_) (VL.cons (.str _ ?_) (VL.cons (.bool _) .nil)))
 ·exact xB (rK a) l1
 ·unfold ie;rw[List.length_drop];exact xB (Nat.sub_le _ _) l1
def oi:Pat:=p2 .str .str fun a b=>⟨some (b.length=1),none,.bool (decide (b.getD 0 0∈a)),[]⟩
theorem l9{f:Nat}(L:Lays.n144 P X)(hf:X.f 144=f)(he:aM P f):aD P f oi:=by
 subst hf;refine gp he fun a b _ _ ho=>?_;have hb:b.length=1:=ho _ rfl
 obtain⟨c,rfl⟩:∃c,b=[c]:=by
  match b,hb with
  |[c],_=>exact⟨c,rfl⟩
 refine dq fun w pub vs ht hv=>?_;obtain⟨rfl,l1,l2⟩:=VL.two_str hv;refine(Any.strings_Contains_one L ⟨a.toArray⟩ c w).mono ?_;rintro en w' ⟨rfl,rfl⟩;refine⟨⟨_,rfl,fun E=>?_⟩,Below.refl _ _⟩;have e2:(⟨a.toArray⟩:ByteArray).data.toList=a:=rfl;rw[e2,oh];exact .bool _
def nh:Pat:=p2 .str (.int .u8) fun a c=>.ret (.int .i64 (sV a c))
theorem jI{f:Nat}(L:Lays.n137 P X)(hf:X.f 137=f)(he:aM P f):aD P f nh:=by
 subst hf;refine gp he fun a c _ _ ho=>?_;refine dq fun w pub vs ht hv=>?_;obtain⟨v1,v2,rfl,h1,h2⟩:=VL.two_inv hv;obtain⟨rfl,l1⟩:=h1.str_inv;obtain⟨rfl,c1,c2⟩:=(show V _ (.int .u8 c) v2 from h2).int_inv;have c1:(0:Int)<=c:=c1;have c2:c<=(255:Int):=c2;refine(Any.strings_IndexByte L ⟨a.toArray⟩ c w).mono ?_;rintro en w' ⟨rfl,rfl⟩;refine⟨⟨_,rfl,fun E=>?_⟩,Below.refl _ _⟩;have e2:(⟨a.toArray⟩:ByteArray).data.toList=a:=rfl
 have e:sV a c=Lib.indexByte a c.toNat.toUInt8:=by
  unfold sV;rw[uo a c c1 c2 0];split
  ·rename_i h;exact h.symm
  ·simp
 rw[e2,e];have hg:=Lib.indexByte_ge a c.toNat.toUInt8
 have hu:Lib.indexByte a c.toNat.toUInt8<=(a.length:Int):=by
  by_cases q:Lib.indexByte a c.toNat.toUInt8=-1
  ·omega
  ·obtain⟨k,k1,k2,_⟩:=cJ q;omega
 have l1':a.length<=9223372036854775807:=l1;have b1:inR .i64 (Lib.indexByte a c.toNat.toUInt8):=fF (by omega) (by omega);exact .int _ _ b1.1 b1.2
def ta:Pat:=p2 .str .str fun a b=>⟨some (b=[46]/\a.length<4294967281),none,.lst .str (splitB 46 a) none,[]⟩
theorem ld(c:UInt8):∀(s:Str),∀x∈splitB c s,x.length<=s.length
 |[],x,h=>by rw[List.mem_singleton.1 h];exact wj _
 |b::r,x,h=>by
  have ih:=ld c r;unfold splitB at h;split at h
  ·rcases wC.1 h with e|e
   ·rw[e];exact wP _
   ·have:=ih x e;rw[wo];omega
  ·split at h
   ·rw[List.mem_singleton.1 h,wo];simp
   ·rename_i p ps e0;rcases wC.1 h with e|e
    ·have:=ih p (by rw[e0];exact wK ..);rw[e,wo,wo];omega
    ·have:=ih x (by rw[e0];exact wa _ e);rw[wo];omega
theorem oj{f:Nat}{m:Int}(L:Lays.n146 P X)(hi9:(P.info? (X.t 9)).map (fun i=>(i.zero,i.size,i.bytes))=some (some (.string ByteArray.empty),1,16))(hm:Tabs.tab (X.g 1) 0 (.int .i64 m))(hf:X.f 146=f)(he:aM P f):aD P f ta:=by
 subst hf;refine gp he fun a b _ _ ho=>?_;obtain⟨hb,hl⟩:=ho _ rfl;subst hb;intro w pub e vs hp ht hv hs hd hi;obtain⟨rfl,l1,l2⟩:=VL.two_str hv;have l1':a.length<=9223372036854775807:=l1;refine(Any.strings_Split L hi9 ⟨a.toArray⟩ ⟨([46]:Str).toArray⟩ m w (by simpa[ByteArray.size]using hl) (ht.1 _ _ _ hm).2 (by decide)).mono ?_;rintro en w' ⟨rfl,rfl⟩;have e2:(⟨a.toArray⟩:ByteArray).data.toList=a:=rfl;have e3:(⟨([46]:Str).toArray⟩:ByteArray).data.toList=[46]:=rfl;have hcount:Lib.countB ⟨a.toArray⟩ ⟨([46]:Str).toArray⟩=a.count 46:=by show Lib.count a [46]=_;rw[Lib.count_one]
 have hsp:(Lib.splitB ⟨([46]:Str).toArray⟩ 0 (Lib.countB ⟨a.toArray⟩ ⟨([46]:Str).toArray⟩) ⟨a.toArray⟩).map (·.data.toList)=splitB 46 a:=by rw[Lib.splitB_data,hcount];exact l8 46 a.length a (wj _)
 generalize Lib.splitB ⟨([46]:Str).toArray⟩ 0 (Lib.countB ⟨a.toArray⟩ ⟨([46]:Str).toArray⟩) ⟨a.toArray⟩=bs at hsp
 have hcl:(splitB 46 a).length=Lib.countB ⟨a.toArray⟩ ⟨([46]:Str).toArray⟩+1:=by
  rw[hcount]
  have:∀s:Str,(splitB 46 s).length=s.count 46+1:=by
   intro s
   induction s with
   |nil=>rfl
   |cons b r ih=>
    unfold splitB;split
    ·rename_i h;subst h;rw[wo,ih,List.count_cons_self]
    ·rename_i h;rw[List.count_cons_of_ne h];split
     ·rename_i e0;rw[e0]at ih;simp at ih
     ·rename_i p ps e0;rw[e0]at ih;simpa using ih
  exact this a
 have hbl:bs.length=(splitB 46 a).length:=by rw[<-hsp,xP]
 have hsz:=gX 46 a;rw[<-hcl];have hnew:(w.alloc (.cells (bs.map Value.string).toArray (X.t 9))).heap[w.heap.size]?=some (.cells (bs.map Value.string).toArray (X.t 9) (0,0)):=b6 _ _;have hbw:Below w.heap.size w (w.alloc (.cells (bs.map Value.string).toArray (X.t 9))):=⟨rfl,rfl,rfl,by simp,fun b hb=>dj _ _ _ hb⟩;refine⟨fun b o=>pub b o∨(b=w.heap.size/\o<bs.length),e,And.intro (fun b pv u h=>by cases h) (And.intro ?_ (After.news hp (fun id=>hd id rfl) hbw (p:=fun o=>o<bs.length) (fun o ho=>?_)))⟩
 ·refine kx (E:=⟨e,w.alloc (.cells (bs.map Value.string).toArray (X.t 9)),fun b o=>pub b o∨(b=w.heap.size/\o<bs.length)⟩) (I:=.str) (xs:=splitB 46 a) (vs:=bs.map Value.string) hnew ?_ ?_ (wj _) (by unfold aS;omega) (fun i hi=>.inr ⟨rfl,by rw[hbl];simpa[a8]using hi⟩) (fun id hid=>by cases hid)
  ·have e1:(splitB 46 a).length *a8 .str=bs.length:=by rw[hbl];exact yN _
   rw[e1];exact xM (by simp)
  ·have ef:aH .str (splitB 46 a)=(splitB 46 a).map AV.str:=by unfold aH;rw[yB];rfl
   rw[ef,<-hsp];refine⟨by simp,fun j c v hc hv=>?_⟩;rw[List.map_map,wx,we]at hc;rw[wx,we]at hv;obtain⟨x,hx,rfl⟩:=hc;obtain⟨y,hy,rfl⟩:=hv;rw[hx]at hy;cases hy;have hmem:x.data.toList∈splitB 46 a:=by rw[<-hsp];exact List.mem_map_of_mem (wq hx)
   have hle:=ld 46 a _ hmem;have:=V.str (E:=⟨e,w.alloc (.cells (bs.map Value.string).toArray (X.t 9)),fun b o=>pub b o∨(b=w.heap.size/\o<bs.length)⟩) x.data.toList (xB hle l1);exact this
 ·rw[al hnew];exact⟨_,xc (by simpa using ho)⟩
def jW[Tabs](g3 g4:Nat):Prop:=
 (∀c,c<256->Tabs.tab g3 c (.int .u8 (Lib.firstT c)))/\(∀i,i<16->Tabs.tab g4 (2 *i) (.int .u8 (Lib.accLo i))/\Tabs.tab g4 (2 *i+1) (.int .u8 (Lib.accHi i)))
theorem jW.tabs{g3 g4:Nat}(h:jW g3 g4){w:World}{pub:Nat->Nat->Prop}{e:Nat->Option CObj}(ht:dU w pub e):Lib.Utf8Tabs g3 g4 w:=
 ⟨fun c hc=>(ht.1 _ _ _ (h.1 c hc)).2,fun i hi=>⟨(ht.1 _ _ _ (h.2 i hi).1).2,(ht.1 _ _ _ (h.2 i hi).2).2⟩⟩
theorem ur(s:Str)(k:Nat)(h:k<s.length):((⟨s.toArray⟩:ByteArray).get! k)=s.getD k 0:=by rw[Utf8W.get!_of_lt _ k (by simpa[ByteArray.size]using h)];have:(⟨s.toArray⟩:ByteArray)[k]'(by simpa[ByteArray.size]using h)=s[k]:=rfl;rw[this];simp[vZ,h]
theorem om(n b0 b1 b2 b3 c1 c2 c3:Nat)(h1:1<n->b1=c1)(h2:2<n->b2=c2)(h3:3<n->b3=c3):Lib.decodeN n b0 b1 b2 b3=Lib.decodeN n b0 c1 c2 c3:=by
 rcases w4 3 n with k|k
 ·rw[h1 (by omega),h2 (by omega),h3 k]
 rcases w4 2 n with k2|k2
 ·rw[h1 (by omega),h2 k2];unfold Lib.decodeN;have e:¬3<n:=by omega
  simp only[e,false_and,and_false,wA]
 rcases w4 1 n with k1|k1
 ·rw[h1 k1];unfold Lib.decodeN;have e:¬3<n:=by omega
  have e':¬2<n:=by omega
  simp only[e,e',false_and,and_false,wA]
 ·unfold Lib.decodeN;have e:¬3<n:=by omega
  have e':¬2<n:=by omega
  have e'':¬1<n:=by omega
  simp only[e,e',e'',false_and,and_false,wA]
theorem oq(s:Str):Lib.decodeGo ⟨s.toArray⟩=fM s:=by
 unfold Lib.decodeGo fM;have hs:(⟨s.toArray⟩:ByteArray).size=s.length:=by simp[ByteArray.size]
 rw[hs];by_cases h:s=[]
 ·subst h;rfl
 have hl:=yE.2 h;rw[w5 (by omega),w5 h,Lib.decode_at,hs,xY,ur s 0 hl];exact om _ _ _ _ _ _ _ _ (fun k=>by rw[ur s 1 k]) (fun k=>by rw[ur s 2 k]) (fun k=>by rw[ur s 3 k])
def lJ:Pat:=p1 .str fun s=>.ret (.tup [.int .i32 ((fM s).1:Int),.int .i64 ((fM s).2:Int)])
theorem pN(s:Str):(fM s).1<=1114111/\(fM s).2<=s.length:=by
 by_cases h:s=[]
 ·subst h;decide
 ·have:=sX h;exact⟨this.2.2.1,this.2.2.2.2⟩
theorem ja{f:Nat}(L:Lays.n197 P X)(hu:jW (X.g 3) (X.g 4))(hf:X.f 197=f)(he:aM P f):aD P f lJ:=by subst hf;refine kU he fun s _ ho=>?_;refine dq fun w pub vs ht hv=>?_;obtain⟨v,rfl,h1⟩:=VL.one_inv hv;obtain⟨rfl,hl⟩:=h1.str_inv;have hl':s.length<=9223372036854775807:=hl;refine(Any.utf8_DecodeRuneInString L ⟨s.toArray⟩ w (hu.tabs ht)).mono ?_;rintro en w' ⟨rfl,hb⟩;refine⟨⟨_,rfl,fun E=>?_⟩,hb⟩;rw[oq];obtain⟨d1,d2⟩:=pN s;exact V.of_tup (VL.cons (.int .i32 _ (by show(-2147483648:Int)<=_;omega) (by show _<=(2147483647:Int);omega)) (VL.cons (.int .i64 _ (by show(-9223372036854775808:Int)<=_;omega) (by show _<=(9223372036854775807:Int);omega)) .nil))
end Go.AL
end
section
namespace Go.Proofs
open Go.Proofs.Tryz
open Go.Shelf
def Tryz.lays160_ren:Go.Shelf.Ren:=⟨fun|160=>129|232=>188|231=>187|227=>189|234=>191|233=>190|236=>193|235=>192|228=>234|271=>236|151=>235|197=>186|120=>263|152=>262|260=>233|137=>199|119=>289|224=>290|225=>291|217=>242|266=>272|n=>n,fun|9=>9|4=>4|3=>3|5=>5|117=>188|116=>187|0=>0|124=>191|21=>21|105=>183|46=>131|119=>221|139=>224|138=>223|n=>n,fun|3=>1|4=>2|n=>n⟩
theorem Tryz.lays160:Go.Proofs.Lays.n160 prog Tryz.lays160_ren:={
 mixed:=by kernel_rfl
 f119:=Xt func289
 f120:=Xt func263
 f137:=Xt func199
 f151:=Xt func235
 f152:=Xt func262
 f160:=Xt func129
 f197:=Xt func186
 f217:=Xt func242
 f224:=Xt func290
 f225:=Xt func291
 f227:=Xt func189
 f228:=Xt func234
 f231:=Xt func187
 f232:=Xt func188
 f233:=Xt func190
 f234:=Xt func191
 f235:=Xt func192
 f236:=Xt func193
 f260:=Xt func233
 f266:=Xt func272
 f271:=Xt func236
 t0:=underlying0
 a0:=isAgg0
 z0:=sizeOf0
 v0:=zeroValue0
 t3:=underlying3
 a3:=isAgg3
 z3:=sizeOf3
 v3:=zeroValue3
 t4:=underlying4
 a4:=isAgg4
 z4:=sizeOf4
 v4:=zeroValue4
 t5:=underlying5
 a5:=isAgg5
 z5:=sizeOf5
 v5:=zeroValue5
 t9:=underlying9
 a9:=isAgg9
 z9:=sizeOf9
 v9:=zeroValue9
 t21:=underlying21
 a21:=isAgg21
 z21:=sizeOf21
 v21:=zeroValue21
 t46:=underlying131
 a46:=isAgg131
 z46:=sizeOf131
 v46:=zeroValue131
 t105:=underlying183
 a105:=isAgg183
 z105:=sizeOf183
 v105:=zeroValue183
 t116:=underlying187
 a116:=isAgg187
 z116:=sizeOf187
 t117:=underlying188
 a117:=isAgg188
 z117:=sizeOf188
 v117:=zeroValue188
 t119:=underlying221
 a119:=isAgg221
 z119:=sizeOf221
 t124:=underlying191
 a124:=isAgg191
 z124:=sizeOf191
 v124:=zeroValue191
 t138:=underlying223
 a138:=isAgg223
 z138:=sizeOf223
 v138:=zeroValue223
 t139:=underlying224
 a139:=isAgg224
 z139:=sizeOf224
 v139:=zeroValue224
 g3:=by kernel_rfl
 g4:=by kernel_rfl}
def Tryz.lays145_ren:Go.Shelf.Ren:=⟨fun|145=>194|220=>237|219=>264|217=>242|225=>291|224=>290|267=>292|266=>272|314=>304|n=>n,fun|9=>9|4=>4|59=>192|3=>3|5=>5|46=>131|146=>284|51=>180|n=>n,fun|1=>0|n=>n⟩
theorem Tryz.lays145:Go.Proofs.Lays.n145 prog Tryz.lays145_ren:={
 mixed:=by kernel_rfl
 f145:=Xt func194
 f217:=Xt func242
 f219:=Xt func264
 f220:=Xt func237
 f224:=Xt func290
 f225:=Xt func291
 f266:=Xt func272
 f267:=Xt func292
 f314:=Xt func304
 t3:=underlying3
 a3:=isAgg3
 z3:=sizeOf3
 v3:=zeroValue3
 t4:=underlying4
 a4:=isAgg4
 z4:=sizeOf4
 v4:=zeroValue4
 t5:=underlying5
 a5:=isAgg5
 z5:=sizeOf5
 v5:=zeroValue5
 t9:=underlying9
 a9:=isAgg9
 z9:=sizeOf9
 v9:=zeroValue9
 t46:=underlying131
 a46:=isAgg131
 z46:=sizeOf131
 v46:=zeroValue131
 t51:=underlying180
 a51:=isAgg180
 z51:=sizeOf180
 v51:=zeroValue180
 t59:=underlying192
 a59:=isAgg192
 z59:=sizeOf192
 v59:=zeroValue192
 t146:=underlying284
 a146:=isAgg284
 z146:=sizeOf284
 v146:=zeroValue284
 g1:=by kernel_rfl}
def Tryz.lays146_ren:Go.Shelf.Ren:=⟨fun|146=>195|221=>238|268=>265|138=>266|143=>243|195=>293|197=>186|218=>294|219=>264|260=>233|217=>242|225=>291|224=>290|267=>292|266=>272|314=>304|n=>n,fun|9=>9|31=>22|3=>3|4=>4|0=>0|105=>183|21=>21|5=>5|46=>131|119=>221|139=>224|138=>223|146=>284|51=>180|n=>n,fun|1=>0|3=>1|4=>2|n=>n⟩
theorem Tryz.lays146:Go.Proofs.Lays.n146 prog Tryz.lays146_ren:={
 mixed:=by kernel_rfl
 f138:=Xt func266
 f143:=Xt func243
 f146:=Xt func195
 f195:=Xt func293
 f197:=Xt func186
 f217:=Xt func242
 f218:=Xt func294
 f219:=Xt func264
 f221:=Xt func238
 f224:=Xt func290
 f225:=Xt func291
 f260:=Xt func233
 f266:=Xt func272
 f267:=Xt func292
 f268:=Xt func265
 f314:=Xt func304
 t0:=underlying0
 a0:=isAgg0
 z0:=sizeOf0
 v0:=zeroValue0
 t3:=underlying3
 a3:=isAgg3
 z3:=sizeOf3
 v3:=zeroValue3
 t4:=underlying4
 a4:=isAgg4
 z4:=sizeOf4
 v4:=zeroValue4
 t5:=underlying5
 a5:=isAgg5
 z5:=sizeOf5
 v5:=zeroValue5
 t9:=underlying9
 a9:=isAgg9
 z9:=sizeOf9
 v9:=zeroValue9
 t21:=underlying21
 a21:=isAgg21
 z21:=sizeOf21
 v21:=zeroValue21
 t31:=underlying22
 a31:=isAgg22
 z31:=sizeOf22
 v31:=zeroValue22
 t46:=underlying131
 a46:=isAgg131
 z46:=sizeOf131
 v46:=zeroValue131
 t51:=underlying180
 a51:=isAgg180
 z51:=sizeOf180
 v51:=zeroValue180
 t105:=underlying183
 a105:=isAgg183
 z105:=sizeOf183
 v105:=zeroValue183
 t119:=underlying221
 a119:=isAgg221
 z119:=sizeOf221
 t138:=underlying223
 a138:=isAgg223
 z138:=sizeOf223
 v138:=zeroValue223
 t139:=underlying224
 a139:=isAgg224
 z139:=sizeOf224
 v139:=zeroValue224
 t146:=underlying284
 a146:=isAgg284
 z146:=sizeOf284
 v146:=zeroValue284
 g1:=by kernel_rfl
 g3:=by kernel_rfl
 g4:=by kernel_rfl}
def Tryz.lays144_ren:Go.Shelf.Ren:=⟨fun|144=>201|143=>243|219=>264|217=>242|225=>291|224=>290|267=>292|266=>272|314=>304|n=>n,fun|9=>9|4=>4|3=>3|5=>5|46=>131|146=>284|51=>180|n=>n,fun|1=>0|n=>n⟩
theorem Tryz.lays144:Go.Proofs.Lays.n144 prog Tryz.lays144_ren:={
 mixed:=by kernel_rfl
 f143:=Xt func243
 f144:=Xt func201
 f217:=Xt func242
 f219:=Xt func264
 f224:=Xt func290
 f225:=Xt func291
 f266:=Xt func272
 f267:=Xt func292
 f314:=Xt func304
 t3:=underlying3
 a3:=isAgg3
 z3:=sizeOf3
 v3:=zeroValue3
 t4:=underlying4
 a4:=isAgg4
 z4:=sizeOf4
 v4:=zeroValue4
 t5:=underlying5
 a5:=isAgg5
 z5:=sizeOf5
 v5:=zeroValue5
 t9:=underlying9
 a9:=isAgg9
 z9:=sizeOf9
 v9:=zeroValue9
 t46:=underlying131
 a46:=isAgg131
 z46:=sizeOf131
 v46:=zeroValue131
 t51:=underlying180
 a51:=isAgg180
 z51:=sizeOf180
 v51:=zeroValue180
 t146:=underlying284
 a146:=isAgg284
 z146:=sizeOf284
 v146:=zeroValue284
 g1:=by kernel_rfl}
def Tryz.lays137_ren:Go.Shelf.Ren:=⟨fun|137=>199|217=>242|266=>272|n=>n,fun|9=>9|5=>5|3=>3|n=>n,fun|n=>n⟩
theorem Tryz.lays137:Go.Proofs.Lays.n137 prog Tryz.lays137_ren:={
 mixed:=by kernel_rfl
 f137:=Xt func199
 f217:=Xt func242
 f266:=Xt func272
 t3:=underlying3
 a3:=isAgg3
 z3:=sizeOf3
 v3:=zeroValue3
 t5:=underlying5
 a5:=isAgg5
 z5:=sizeOf5
 v5:=zeroValue5
 t9:=underlying9
 a9:=isAgg9
 z9:=sizeOf9
 v9:=zeroValue9}
def Tryz.lays197_ren:Go.Shelf.Ren:=⟨fun|197=>186|260=>233|n=>n,fun|9=>9|21=>21|3=>3|4=>4|5=>5|105=>183|119=>221|0=>0|46=>131|139=>224|138=>223|n=>n,fun|3=>1|4=>2|n=>n⟩
theorem Tryz.lays197:Go.Proofs.Lays.n197 prog Tryz.lays197_ren:={
 mixed:=by kernel_rfl
 f197:=Xt func186
 f260:=Xt func233
 t0:=underlying0
 a0:=isAgg0
 z0:=sizeOf0
 v0:=zeroValue0
 t3:=underlying3
 a3:=isAgg3
 z3:=sizeOf3
 v3:=zeroValue3
 t4:=underlying4
 a4:=isAgg4
 z4:=sizeOf4
 v4:=zeroValue4
 t5:=underlying5
 a5:=isAgg5
 z5:=sizeOf5
 v5:=zeroValue5
 t9:=underlying9
 a9:=isAgg9
 z9:=sizeOf9
 v9:=zeroValue9
 t21:=underlying21
 a21:=isAgg21
 z21:=sizeOf21
 v21:=zeroValue21
 t46:=underlying131
 a46:=isAgg131
 z46:=sizeOf131
 v46:=zeroValue131
 t105:=underlying183
 a105:=isAgg183
 z105:=sizeOf183
 v105:=zeroValue183
 t119:=underlying221
 a119:=isAgg221
 z119:=sizeOf221
 t138:=underlying223
 a138:=isAgg223
 z138:=sizeOf223
 v138:=zeroValue223
 t139:=underlying224
 a139:=isAgg224
 z139:=sizeOf224
 v139:=zeroValue224
 g3:=by kernel_rfl
 g4:=by kernel_rfl}
def Tryz.lays196_ren:Go.Shelf.Ren:=⟨fun|196=>165|259=>223|n=>n,fun|9=>9|4=>4|3=>3|5=>5|12=>12|119=>221|0=>0|46=>131|139=>224|138=>223|53=>182|n=>n,fun|3=>1|4=>2|n=>n⟩
theorem Tryz.lays196:Go.Proofs.Lays.n196 prog Tryz.lays196_ren:={
 mixed:=by kernel_rfl
 f196:=Xt func165
 f259:=Xt func223
 t0:=underlying0
 a0:=isAgg0
 z0:=sizeOf0
 v0:=zeroValue0
 t3:=underlying3
 a3:=isAgg3
 z3:=sizeOf3
 v3:=zeroValue3
 t4:=underlying4
 a4:=isAgg4
 z4:=sizeOf4
 v4:=zeroValue4
 t5:=underlying5
 a5:=isAgg5
 z5:=sizeOf5
 v5:=zeroValue5
 t9:=underlying9
 a9:=isAgg9
 z9:=sizeOf9
 v9:=zeroValue9
 t12:=underlying12
 a12:=isAgg12
 z12:=sizeOf12
 v12:=zeroValue12
 t46:=underlying131
 a46:=isAgg131
 z46:=sizeOf131
 v46:=zeroValue131
 t53:=underlying182
 a53:=isAgg182
 z53:=sizeOf182
 v53:=zeroValue182
 t119:=underlying221
 a119:=isAgg221
 z119:=sizeOf221
 t138:=underlying223
 a138:=isAgg223
 z138:=sizeOf223
 v138:=zeroValue223
 t139:=underlying224
 a139:=isAgg224
 z139:=sizeOf224
 v139:=zeroValue224
 g3:=by kernel_rfl
 g4:=by kernel_rfl}
end Go.Proofs
end
section
namespace Go.Proofs
open Go.Proofs.Tryz
open Go.Shelf
def Tryz.lays190_ren:Go.Shelf.Ren:=⟨fun|190=>225|125=>112|258=>260|128=>181|129=>182|302=>280|303=>281|304=>282|305=>283|306=>284|307=>285|308=>286|309=>287|310=>288|333=>300|329=>229|330=>230|334=>301|335=>302|336=>303|344=>308|n=>n,fun|31=>22|9=>9|3=>3|46=>131|0=>0|51=>180|53=>182|4=>4|183=>173|182=>172|131=>177|5=>5|218=>227|222=>231|228=>246|229=>66|n=>n,fun|n=>n⟩
theorem Tryz.lays190:Go.Proofs.Lays.n190 prog Tryz.lays190_ren:={
 mixed:=by kernel_rfl
 f125:=Xt func112
 f128:=Xt func181
 f129:=Xt func182
 f190:=Xt func225
 f258:=Xt func260
 f302:=Xt func280
 f303:=Xt func281
 f304:=Xt func282
 f305:=Xt func283
 f306:=Xt func284
 f307:=Xt func285
 f308:=Xt func286
 f309:=Xt func287
 f310:=Xt func288
 f329:=Xt func229
 f330:=Xt func230
 f333:=Xt func300
 f334:=Xt func301
 f335:=Xt func302
 f336:=Xt func303
 f344:=Xt func308
 t0:=underlying0
 a0:=isAgg0
 z0:=sizeOf0
 v0:=zeroValue0
 t3:=underlying3
 a3:=isAgg3
 z3:=sizeOf3
 v3:=zeroValue3
 t4:=underlying4
 a4:=isAgg4
 z4:=sizeOf4
 v4:=zeroValue4
 t5:=underlying5
 a5:=isAgg5
 z5:=sizeOf5
 v5:=zeroValue5
 t9:=underlying9
 a9:=isAgg9
 z9:=sizeOf9
 v9:=zeroValue9
 t31:=underlying22
 a31:=isAgg22
 z31:=sizeOf22
 v31:=zeroValue22
 t46:=underlying131
 a46:=isAgg131
 z46:=sizeOf131
 v46:=zeroValue131
 t51:=underlying180
 a51:=isAgg180
 z51:=sizeOf180
 v51:=zeroValue180
 t53:=underlying182
 a53:=isAgg182
 z53:=sizeOf182
 v53:=zeroValue182
 t131:=underlying177
 a131:=isAgg177
 z131:=sizeOf177
 v131:=zeroValue177
 t182:=underlying172
 a182:=isAgg172
 z182:=sizeOf172
 v182:=zeroValue172
 t183:=underlying173
 a183:=isAgg173
 z183:=sizeOf173
 v183:=zeroValue173
 t218:=underlying227
 a218:=isAgg227
 z218:=sizeOf227
 v218:=zeroValue227
 t222:=underlying231
 a222:=isAgg231
 z222:=sizeOf231
 v222:=zeroValue231
 t228:=underlying246
 a228:=isAgg246
 z228:=sizeOf246
 v228:=zeroValue246
 t229:=underlying66
 a229:=isAgg66
 z229:=sizeOf66
 v229:=zeroValue66}
def Tryz.lays194_ren:Go.Shelf.Ren:=⟨fun|194=>169|n=>n,fun|31=>22|9=>9|3=>3|4=>4|0=>0|n=>n,fun|n=>n⟩
theorem Tryz.lays194:Go.Proofs.Lays.n194 prog Tryz.lays194_ren:={
 mixed:=by kernel_rfl
 f194:=Xt func169
 t0:=underlying0
 a0:=isAgg0
 z0:=sizeOf0
 v0:=zeroValue0
 t3:=underlying3
 a3:=isAgg3
 z3:=sizeOf3
 v3:=zeroValue3
 t4:=underlying4
 a4:=isAgg4
 z4:=sizeOf4
 v4:=zeroValue4
 t9:=underlying9
 a9:=isAgg9
 z9:=sizeOf9
 v9:=zeroValue9
 t31:=underlying22
 a31:=isAgg22
 z31:=sizeOf22
 v31:=zeroValue22}
def Tryz.lays172_ren:Go.Shelf.Ren:=⟨fun|172=>197|244=>239|245=>240|247=>267|279=>268|280=>269|281=>270|282=>271|287=>295|316=>296|171=>298|205=>297|321=>305|322=>306|243=>307|246=>309|283=>310|284=>311|285=>312|286=>313|129=>182|317=>314|318=>315|319=>316|320=>317|337=>318|338=>319|n=>n,fun|9=>9|3=>3|75=>197|76=>198|4=>4|5=>5|167=>250|37=>164|0=>0|85=>251|2=>2|168=>253|53=>182|175=>276|46=>131|210=>280|127=>287|145=>290|143=>288|21=>21|171=>293|173=>295|212=>298|51=>180|20=>20|213=>299|232=>300|233=>301|80=>302|n=>n,fun|15=>3|16=>4|17=>5|18=>6|19=>7|n=>n⟩
theorem Tryz.lays172:Go.Proofs.Lays.n172 prog Tryz.lays172_ren:={
 mixed:=by kernel_rfl
 f129:=Xt func182
 f171:=Xt func298
 f172:=Xt func197
 f205:=Xt func297
 f243:=Xt func307
 f244:=Xt func239
 f245:=Xt func240
 f246:=Xt func309
 f247:=Xt func267
 f279:=Xt func268
 f280:=Xt func269
 f281:=Xt func270
 f282:=Xt func271
 f283:=Xt func310
 f284:=Xt func311
 f285:=Xt func312
 f286:=Xt func313
 f287:=Xt func295
 f316:=Xt func296
 f317:=Xt func314
 f318:=Xt func315
 f319:=Xt func316
 f320:=Xt func317
 f321:=Xt func305
 f322:=Xt func306
 f337:=Xt func318
 f338:=Xt func319
 t0:=underlying0
 a0:=isAgg0
 z0:=sizeOf0
 v0:=zeroValue0
 t2:=underlying2
 a2:=isAgg2
 z2:=sizeOf2
 v2:=zeroValue2
 t3:=underlying3
 a3:=isAgg3
 z3:=sizeOf3
 v3:=zeroValue3
 t4:=underlying4
 a4:=isAgg4
 z4:=sizeOf4
 v4:=zeroValue4
 t5:=underlying5
 a5:=isAgg5
 z5:=sizeOf5
 v5:=zeroValue5
 t9:=underlying9
 a9:=isAgg9
 z9:=sizeOf9
 v9:=zeroValue9
 t20:=underlying20
 a20:=isAgg20
 z20:=sizeOf20
 v20:=zeroValue20
 t21:=underlying21
 a21:=isAgg21
 z21:=sizeOf21
 v21:=zeroValue21
 t37:=underlying164
 a37:=isAgg164
 z37:=sizeOf164
 v37:=zeroValue164
 t46:=underlying131
 a46:=isAgg131
 z46:=sizeOf131
 v46:=zeroValue131
 t51:=underlying180
 a51:=isAgg180
 z51:=sizeOf180
 v51:=zeroValue180
 t53:=underlying182
 a53:=isAgg182
 z53:=sizeOf182
 v53:=zeroValue182
 t75:=underlying197
 a75:=isAgg197
 z75:=sizeOf197
 v75:=zeroValue197
 t76:=underlying198
 a76:=isAgg198
 z76:=sizeOf198
 v76:=zeroValue198
 t85:=underlying251
 a85:=isAgg251
 z85:=sizeOf251
 v85:=zeroValue251
 t127:=underlying287
 a127:=isAgg287
 z127:=sizeOf287
 v127:=zeroValue287
 t143:=underlying288
 a143:=isAgg288
 z143:=sizeOf288
 v143:=zeroValue288
 t145:=underlying290
 a145:=isAgg290
 z145:=sizeOf290
 v145:=zeroValue290
 t167:=underlying250
 a167:=isAgg250
 z167:=sizeOf250
 v167:=zeroValue250
 t168:=underlying253
 a168:=isAgg253
 z168:=sizeOf253
 v168:=zeroValue253
 t171:=underlying293
 a171:=isAgg293
 z171:=sizeOf293
 v171:=zeroValue293
 t173:=underlying295
 a173:=isAgg295
 z173:=sizeOf295
 v173:=zeroValue295
 t175:=underlying276
 a175:=isAgg276
 z175:=sizeOf276
 v175:=zeroValue276
 t210:=underlying280
 a210:=isAgg280
 z210:=sizeOf280
 v210:=zeroValue280
 t212:=underlying298
 a212:=isAgg298
 z212:=sizeOf298
 v212:=zeroValue298
 t213:=underlying299
 a213:=isAgg299
 z213:=sizeOf299
 t232:=underlying300
 a232:=isAgg300
 z232:=sizeOf300
 v232:=zeroValue300
 t233:=underlying301
 a233:=isAgg301
 z233:=sizeOf301
 v233:=zeroValue301
 g15:=by kernel_rfl
 g16:=by kernel_rfl
 g17:=by kernel_rfl
 g18:=by kernel_rfl
 g19:=by kernel_rfl}
def Tryz.sorted200_ren:Go.Shelf.Ren:=⟨fun|6=>167|8=>224|9=>225|11=>259|13=>112|12=>260|23=>181|24=>182|14=>280|15=>281|16=>282|17=>283|18=>284|19=>285|20=>286|21=>287|22=>288|25=>300|26=>229|27=>230|28=>301|29=>302|30=>303|31=>308|n=>n,fun|26=>9|28=>168|24=>22|0=>0|3=>3|37=>131|48=>180|50=>182|4=>4|40=>173|39=>172|45=>177|5=>5|9=>9|51=>227|55=>231|57=>246|58=>66|33=>122|n=>n,fun|n=>n⟩
theorem Tryz.sorted200:Go.Proofs.SlLaysZ.n6 prog Tryz.sorted200_ren:={
 mixed:=by kernel_rfl
 f6:=⟨Tryz.f167.name,by decide,Xt func167⟩
 f8:=⟨Tryz.f224.name,by decide,Xt func224⟩
 f11:=⟨Tryz.f259.name,by decide,Xt func259⟩
 t0:=underlying0
 a0:=isAgg0
 z0:=sizeOf0
 v0:=zeroValue0
 t24:=underlying22
 a24:=isAgg22
 z24:=sizeOf22
 v24:=zeroValue22
 t26:=underlying9
 a26:=isAgg9
 z26:=sizeOf9
 v26:=zeroValue9
 t28:=underlying168
 a28:=isAgg168
 z28:=sizeOf168
 v28:=zeroValue168
 i26:=by kernel_rfl}
def Tryz.lays106_ren:Go.Shelf.Ren:=⟨fun|106=>63|213=>113|265=>183|n=>n,fun|9=>9|3=>3|n=>n,fun|n=>n⟩
theorem Tryz.lays106:Go.Proofs.Lays.n106 prog Tryz.lays106_ren:={
 mixed:=by kernel_rfl
 f106:=Xt func63
 f213:=Xt func113
 f265:=Xt func183
 t3:=underlying3
 a3:=isAgg3
 z3:=sizeOf3
 v3:=zeroValue3
 t9:=underlying9
 a9:=isAgg9
 z9:=sizeOf9
 v9:=zeroValue9}
def Tryz.sortf61_ren:Go.Shelf.Ren:=⟨fun|6=>61|15=>112|14=>111|28=>181|29=>182|20=>173|21=>174|22=>175|23=>176|24=>177|25=>178|26=>179|27=>180|46=>228|47=>229|48=>230|49=>231|50=>232|57=>261|n=>n,fun|22=>77|24=>3|25=>86|3=>3|39=>131|0=>0|53=>180|55=>182|4=>4|46=>173|45=>172|50=>177|5=>5|9=>9|66=>227|70=>231|76=>246|77=>66|n=>n,fun|n=>n⟩
theorem Tryz.sortf61:Go.Proofs.SlLaysF.n6 prog Tryz.sortf61_ren:={
 mixed:=by kernel_rfl
 f6:=⟨Tryz.f61.name,by decide,Xt func61⟩
 f14:=⟨Tryz.f111.name,by decide,Xt func111⟩
 f15:=Xt func112
 f20:=⟨Tryz.f173.name,by decide,Xt func173⟩
 f21:=⟨Tryz.f174.name,by decide,Xt func174⟩
 f22:=⟨Tryz.f175.name,by decide,Xt func175⟩
 f23:=⟨Tryz.f176.name,by decide,Xt func176⟩
 f24:=⟨Tryz.f177.name,by decide,Xt func177⟩
 f25:=⟨Tryz.f178.name,by decide,Xt func178⟩
 f26:=⟨Tryz.f179.name,by decide,Xt func179⟩
 f27:=⟨Tryz.f180.name,by decide,Xt func180⟩
 f28:=Xt func181
 f29:=Xt func182
 f46:=⟨Tryz.f228.name,by decide,Xt func228⟩
 f47:=Xt func229
 f48:=Xt func230
 f49:=⟨Tryz.f231.name,by decide,Xt func231⟩
 f50:=⟨Tryz.f232.name,by decide,Xt func232⟩
 f57:=⟨Tryz.f261.name,by decide,Xt func261⟩
 t0:=underlying0
 a0:=isAgg0
 z0:=sizeOf0
 v0:=zeroValue0
 t3:=underlying3
 a3:=isAgg3
 z3:=sizeOf3
 v3:=zeroValue3
 t4:=underlying4
 a4:=isAgg4
 z4:=sizeOf4
 v4:=zeroValue4
 t5:=underlying5
 a5:=isAgg5
 z5:=sizeOf5
 v5:=zeroValue5
 t9:=underlying9
 a9:=isAgg9
 z9:=sizeOf9
 v9:=zeroValue9
 t22:=underlying77
 a22:=isAgg77
 z22:=sizeOf77
 v22:=zeroValue77
 a24:=isAgg3
 z24:=sizeOf3
 t25:=underlying86
 a25:=isAgg86
 z25:=sizeOf86
 v25:=zeroValue86
 t39:=underlying131
 a39:=isAgg131
 z39:=sizeOf131
 v39:=zeroValue131
 t45:=underlying172
 a45:=isAgg172
 z45:=sizeOf172
 v45:=zeroValue172
 t46:=underlying173
 a46:=isAgg173
 z46:=sizeOf173
 v46:=zeroValue173
 t50:=underlying177
 a50:=isAgg177
 z50:=sizeOf177
 v50:=zeroValue177
 t53:=underlying180
 a53:=isAgg180
 z53:=sizeOf180
 v53:=zeroValue180
 t55:=underlying182
 a55:=isAgg182
 z55:=sizeOf182
 v55:=zeroValue182
 t66:=underlying227
 a66:=isAgg227
 z66:=sizeOf227
 v66:=zeroValue227
 t70:=underlying231
 a70:=isAgg231
 z70:=sizeOf231
 v70:=zeroValue231
 t76:=underlying246
 a76:=isAgg246
 z76:=sizeOf246
 v76:=zeroValue246
 t77:=underlying66
 a77:=isAgg66
 z77:=sizeOf66
 v77:=zeroValue66}
end Go.Proofs
end
section
namespace Go.Proofs
open Go.RowKit Go.Shelf Go.AL
variable [Tabs]
attribute [local go_sem] Oper.semAt_some
set_option maxRecDepth 100000 in
set_option maxHeartbeats 2000000 in
theorem Tryz.values1(F:Fence)(n:Nat)(h7:F.fn 226)(hro:F.round=none)(hn:1<=n)(l Bs Bo b off len cap:Nat)(zs:List Str)(hreach:len<=maxLen)(J:List Str->World->Prop)(hBl:∀pre W,J pre W->W.cell? ⟨Bs,Bo,none⟩=some (.slice (some ⟨b,off,none⟩) len cap)/\∀j,j<len->W.cell? ⟨b,off+j,none⟩=some (encStr (zs[j]?.getD [])))
 (hY:∀pre x W,J pre W->pre.length<len->YieldAt F (n-1) Tryz.prog l #[encStr x] W fun e W'=>e=.returned (.bool true)/\J (pre++[x]) W')
 (W:World)(h0:J [] W) :
  CallsIn F n Tryz.prog 226 #[.func (.yield l) #[] #[],.pointer (some ⟨Bs,Bo,none⟩)] W fun e W'=>(∃v,e=.returned v)/\∃ys,ys=lD (fun j=>zs[j]?.getD []) len/\J ys W':=by
 obtain⟨hBs,hc⟩:=hBl _ _ h0;refine callsIn_of_wp Tryz.func226 rfl h7 ?_ hro;simp only[Tryz.ntmps226,xA,wo,xg,Nat.reduceAdd,Nat.reduceSub,xC,xD,xS,xH,wZ,xb]
 gi_wp2
 gi_loopw [7] (fun i wr=>∃k:Nat,k<=len/\i=.int .i64 k/\J (lD (fun j=>zs[j]?.getD []) k) wr)
  (fun i _=>len-(intOf i).toNat)
 case atStart=>exact⟨0,wP _,rfl,h0⟩
 case round=>
  obtain⟨k,hk,rfl,hJs⟩:=hrel;have hcx:k<len->wr.cell? ⟨b,off+k,none⟩=some (encStr (zs[k]?.getD [])):=fun h=>(hBl _ _ hJs).2 k h;by_cases hlt:k<len
  ·obtain⟨fn,tmps,assign,body,hy,hR⟩:=hY _ (zs[k]?.getD []) wr hJs (by rw[oa];exact hlt);have hcx':=hcx hlt;have hsmall:(k:Int)+1<=9223372036854775807:=by unfold maxLen at hreach;omega
   gi_wp2
   refine hR.mono ?_;rintro e W3 ⟨rfl,hJ3⟩
   gi_wp2
   go_roundw
   case rel=>exact⟨k+1,by omega,by simp,by rw[rH];exact hJ3⟩
   case measure=>simp[intOf];omega
  ·obtain rfl:k=len:=by omega
   gi_wp2
   go_end0
   exact⟨⟨_,rfl⟩,_,rfl,hJs⟩
set_option maxRecDepth 100000 in
set_option maxHeartbeats 1000000 in
theorem Tryz.values1_nil(F:Fence)(n:Nat)(h7:F.fn 226)(hro:F.round=none)(l Bs Bo cap:Nat)(a:Option Addr)(J:List Str->World->Prop)(W:World)(hBs:W.cell? ⟨Bs,Bo,none⟩=some (.slice a 0 cap))(h0:J [] W) :
  CallsIn F n Tryz.prog 226 #[.func (.yield l) #[] #[],.pointer (some ⟨Bs,Bo,none⟩)] W fun e W'=>(∃v,e=.returned v)/\J [] W':=by
 refine callsIn_of_wp Tryz.func226 rfl h7 ?_ hro;simp only[Tryz.ntmps226,xA,wo,xg,Nat.reduceAdd,Nat.reduceSub,xC,xD,xS,xH,wZ,xb]
 gi_wp2
 gi_loopw [7] (fun i wr=>i=.int .i64 0/\J [] wr) (fun _ _=>0)
 case atStart=>exact⟨rfl,h0⟩
 case round=>
  obtain⟨rfl,hJs⟩:=hrel
  gi_wp2
  go_end0
  exact⟨⟨_,rfl⟩,hJs⟩
theorem Tryz.valuesL:na Tryz.prog 226:=by
 intro w b o sv zs hz hc hs l J W a1 a2 a3 a4 a5;have hb:=ay hc;rcases hs with⟨⟨a,cap,rfl⟩,rfl⟩|⟨g,off,cap,rfl,hg,hcs⟩
 ·refine(Tryz.values1_nil Fence.wide 2 trivial rfl l b o cap a J W ((a1.cell (p:=⟨b,o,none⟩) hb).trans hc) a5).mono ?_;rintro e W' ⟨h1,h2⟩;exact⟨h1,[],rfl,h2⟩
 ·refine(Tryz.values1 Fence.wide 2 trivial rfl (by omega) l b o g off zs.length cap zs hz J (fun pre W1 hJ=>⟨((a3 _ _ hJ).cell (p:=⟨b,o,none⟩) hb).trans hc,fun j hj=>((a3 _ _ hJ).cell (p:=⟨g,off+j,none⟩) hg).trans (hcs j hj)⟩)
   (fun pre x W1 h1 h2=>(a4 pre x W1 h1 h2).mono fun e W' h=>⟨h.1,h.2.1⟩) W a5).mono ?_
  rintro e W' ⟨h1,ys,h2,h3⟩;exact⟨h1,ys,by rw[h2,sR],h3⟩
end Go.Proofs
end
section
namespace Go.AL.Seat
open Go Go.AL Go.Proofs Go.Shelf Go.Pd
variable [Tabs]
theorem vM:SortL Tryz.prog Tryz.sorted200_ren:=
 ⟨Tryz.sorted200,⟨fun blk off cap ss W hH hblk hsz=>callsIn_wide.2 (Any.slices_Sort_string Tryz.lays190 blk off cap ss W hH hblk hsz),fun p cap W=>callsIn_wide.2 (Any.slices_Sort_string_none Tryz.lays190 p cap W)⟩,enters_of Tryz.func225 (by kernel_rfl) rfl⟩
theorem pO:aD Tryz.prog 167 (cm 226):=
 lF vM rfl (enters_of Tryz.func226 (by kernel_rfl) rfl) Tryz.valuesL (aM.mk' Tryz.func167 (by kernel_rfl))
theorem ot:aD Tryz.prog 169 cn:=lG Tryz.lays194 rfl (aM.mk' Tryz.func169 (by kernel_rfl))
theorem tc:aD Tryz.prog 197 (p1 .str fun t=>⟨some (me t),none,.tup [.int .i64 (gW t),.nilif],[]⟩):=pL Tryz.lays172 rfl (aM.mk' Tryz.func197 (by kernel_rfl))
end Go.AL.Seat
end
section
namespace Go.AL.Seat
open Go Go.AL Go.Proofs Go.Shelf Go.Pd
class SeatLaid[Tabs]:Prop where
 max:∃m:Int,Tabs.tab 0 0 (.int .i64 m)
 utf:jW 1 2
variable [Tabs] [SeatLaid]
theorem td:aD Tryz.prog 129 (p2 .str .str fun a b=>⟨some (b=l0),none,.str (l6 a),[]⟩):=pM Tryz.lays160 (by kernel_rfl) rfl (aM.mk' Tryz.func129 (by kernel_rfl))
theorem uu:aD Tryz.prog 194 (p2 .str .str fun a b=>⟨some (b=[45]/\a.length<4294967281),none,.tup [.str (ez a),.str (ie a),.bool (j9 a)],[]⟩):=
 let ⟨_,hm⟩:=SeatLaid.max;rL Tryz.lays145 hm rfl (aM.mk' Tryz.func194 (by kernel_rfl))
theorem rM:aD Tryz.prog 195 (p2 .str .str fun a b=>⟨some (b=[46]/\a.length<4294967281),none,.lst .str (splitB 46 a) none,[]⟩):=
 let ⟨_,hm⟩:=SeatLaid.max;oj Tryz.lays146 (by kernel_rfl) hm rfl (aM.mk' Tryz.func195 (by kernel_rfl))
theorem ni:aD Tryz.prog 201 (p2 .str .str fun a b=>⟨some (b.length=1),none,.bool (decide (b.getD 0 0∈a)),[]⟩):=l9 Tryz.lays144 rfl (aM.mk' Tryz.func201 (by kernel_rfl))
theorem lK:aD Tryz.prog 199 (p2 .str (.int .u8) fun a c=>.ret (.int .i64 (sV a c))):=jI Tryz.lays137 rfl (aM.mk' Tryz.func199 (by kernel_rfl))
theorem lf:aD Tryz.prog 186 (p1 .str fun s=>.ret (.tup [.int .i32 ((fM s).1:Int),.int .i64 ((fM s).2:Int)])):=ja Tryz.lays197 SeatLaid.utf rfl (aM.mk' Tryz.func186 (by kernel_rfl))
end Go.AL.Seat
end
section
namespace Go.Proofs.YtpiedfeneggkmaaGreatDoor.Join
open Go.AL Go.AL.Seat Go.ChangeShapes Go.WideShapes Go.RowKit Go.Lib Go.Shelf
set_option maxRecDepth 1000000
theorem own:ownKnob Tryz.prog.godebug=none:=by kernel_rfl
theorem uv:laidOutB Tryz.prog=true:=by kernel_rfl
theorem undB:Tryz.prog.underlying 4=some .bool:=by kernel_rfl
theorem undI:Tryz.prog.underlying 3=some (.int .i64):=by kernel_rfl
theorem vN:Tryz.prog.underlying 27=some (.slice 48):=by kernel_rfl
theorem uw:ShapeAt Tryz.prog 34:=⟨_,_,_,_,_,9,Tryz.underlying34,by kernel_rfl,⟨rfl,rfl,rfl,rfl,rfl⟩,⟨by kernel_rfl,by kernel_rfl,by kernel_rfl,by kernel_rfl,by kernel_rfl⟩,by kernel_rfl,by kernel_rfl,by kernel_rfl,by kernel_rfl,by kernel_rfl,by kernel_rfl,by kernel_rfl⟩
theorem te:BindAt Tryz.prog 48:=⟨_,_,_,Tryz.underlying48,by kernel_rfl,⟨rfl,rfl,rfl⟩,⟨by kernel_rfl,by kernel_rfl,by kernel_rfl⟩,by kernel_rfl,by kernel_rfl,uw⟩
theorem vO:EnvAt Tryz.prog 29:=⟨_,_,_,_,48,Tryz.underlying29,by kernel_rfl,⟨rfl,rfl,rfl,rfl⟩,⟨by kernel_rfl,by kernel_rfl,by kernel_rfl,by kernel_rfl⟩,by kernel_rfl,⟨by kernel_rfl,by kernel_rfl,by kernel_rfl⟩,te⟩
theorem vP:Tryz.prog.readableRec 29=true:=by kernel_rfl
theorem vQ:Tryz.prog.readableRec 27=true:=by kernel_rfl
theorem uQ:40<Tryz.prog.types.size:=Xo (by kernel_rfl)
def laid:List (String×DataW Unit):=Rows.synthTypesRow.laid
theorem vR:(Rows.laid_unicode_utf8_acceptRanges:DataW Unit)=acceptData:=by kernel_rfl
theorem vS{W:World}(h:W.ShapedOpen Tryz.prog):∃m,W.cell? ⟨0,0,none⟩=some (.int .i64 m):=
 cell_of_shapedOpen_int (t:=3) (zero:=#[.int .i64 0]) h (Xo (by kernel_rfl)) (by kernel_rfl) rfl (by kernel_rfl) (by kernel_rfl) undI
theorem vT{W:World}(h:laidMet Tryz.prog laid W):Utf8Tabs 1 2 W:=
 utf8Tabs_of_readsT (ρ:=Tryz.lays196_ren) (U8Types.of196 Tryz.lays196) ⟨by kernel_rfl,by kernel_rfl,by kernel_rfl,by kernel_rfl,by kernel_rfl,by kernel_rfl,by kernel_rfl⟩
  (Pinned.utf8First_eq ▸ laidMet.reads h (by simp[laid,Rows.synthTypesRow,Rows.laid_unicode_utf8_first])) (vR ▸ laidMet.reads h (by simp[laid,Rows.synthTypesRow]))
theorem tg{W:World}(h:laidMet Tryz.prog laid W)(hs:W.ShapedOpen Tryz.prog):@SeatLaid (kW W):=by
 letI:Tabs:=kW W
 obtain⟨m,hm⟩:=vS hs;obtain⟨u1,u2⟩:=vT h;exact⟨⟨m,by decide,hm⟩,fun c hc=>⟨by decide,u1 c hc⟩,fun i hi=>⟨⟨by decide,(u2 i hi).1⟩,by decide,(u2 i hi).2⟩⟩
def z32:List Int:=[0,1,28,2,29,14,24,3,30,22,20,15,25,17,4,8,31,27,13,23,21,19,16,7,26,12,18,6,11,5,10,9]
def z64:List Int:=[0,1,56,2,57,49,28,3,61,58,42,50,38,29,17,4,62,47,59,36,45,43,51,22,53,39,33,30,24,18,12,5,63,55,48,27,60,41,37,16,46,35,44,21,52,32,23,11,54,26,40,15,34,20,31,10,25,14,19,9,13,8,7,6]
def zPow:List Int:=[1,10,100,1000,10000,100000,1000000,10000000,100000000,1000000000,10000000000,100000000000,1000000000000,10000000000000,100000000000000,1000000000000000,10000000000000000,100000000000000000,1000000000000000000,10000000000000000000]
def zAcc:List Int:=[128,191,160,191,128,159,144,191,128,143,0,0,0,0,0,0,0,0,0,0,0,0,0,0,0,0,0,0,0,0,0,0]
def vl:List Int:=List.map Int.ofNat Pinned.utf8FirstZ
noncomputable def gJ(os:Os):World:=
 let N:=(World.settled Tryz.prog os).heap.size
 let w0:=World.holding Tryz.prog os ⟨#[.cells #[.string ⟨#[118,97,108,117,101,32,111,117,116,32,111,102,32,114,97,110,103,101]⟩] 290,.cells #[.string ⟨#[105,110,118,97,108,105,100,32,115,121,110,116,97,120]⟩] 290],#[],[]⟩
 let put (h:Array Obj) (g:Nat) (cs:Array Value):Array Obj:=h.modify g fun
  |.cells _ t frozen=>.cells cs t frozen
  |o=>o
 let h0:=put (put w0.heap 3 #[.iface 288 (.pointer (some ⟨N+1,0,none⟩))]) 4 #[.iface 288 (.pointer (some ⟨N,0,none⟩))]
 let h1:=put (put (put h0 5 (zPow.map (Value.int .u64)).toArray) 6 (z32.map (Value.int .u8)).toArray) 7 (z64.map (Value.int .u8)).toArray
 let h2:=put (put h1 1 (vl.map (Value.int .u8)).toArray) 2 (zAcc.map (Value.int .u8)).toArray
 {w0 with heap:=h2}
noncomputable abbrev N0:Nat:=(World.settled Tryz.prog default).heap.size
theorem vm(os:Os)(args:Array Value):LaidIn Tryz.prog ((gJ os).forCall (fun _ _=>0) ⟨#[],args,[]⟩).memory laid [6,7,5,2,4,N0,3,N0+1,1]:=
 LaidIn.of_run [6,7,5,2,4,N0,3,N0+1,1] 10 (by kernel_rfl) (by kernel_rfl) (by kernel_rfl) (by kernel_rfl)
theorem th(os:Os)(args:Array Value):laidMet Tryz.prog laid ((gJ os).forCall (fun _ _=>0) ⟨#[],args,[]⟩).memory:=(vm os args).met
end Go.Proofs.YtpiedfeneggkmaaGreatDoor.Join
end
section
open Go Go.AL Go.Proofs
namespace Go.AL.Seat
variable [Tabs]
def r1:TR:=⟨.other,1,8,[.undef],none⟩
def r2:TR:=⟨.int .i64,1,8,[.int .i64 0],some (.int .i64)⟩
def r5:TR:=⟨.int .u8,1,1,[.int .u8 0],some (.int .u8)⟩
def r7:TR:=⟨.strct true [(0,2),(1,3),(2,4),(3,6)],4,24,[.int .i64 0,.int .i64 0,.bool false,.int .u8 0],none⟩
def r9:TR:=⟨.str,1,16,[.str []],some .str⟩
def r12:TR:=⟨.int .u64,1,8,[.int .u64 0],some (.int .u64)⟩
def r13:TR:=⟨.strct false [(0,9),(1,12)],2,24,[.str [],.int .u64 0],none⟩
def r18:TR:=⟨.strct false [(0,17)],1,8,[.nilp],none⟩
def r20:TR:=⟨.iface,1,16,[.nilif],none⟩
def r21:TR:=⟨.int .i32,1,4,[.int .i32 0],some (.int .i32)⟩
def r90:TR:=⟨.strct true [(0,9),(1,3)],2,24,[.str [],.int .i64 0],none⟩
def r92:TR:=⟨.strct false [(0,91),(2,70),(3,37)],5,64,[.str [],.int .i64 0,.nils,.int .i64 0,.int .i64 0],none⟩
def r118:TR:=⟨.strct true [(0,3),(1,3),(2,3),(3,3)],4,32,[.int .i64 0,.int .i64 0,.int .i64 0,.int .i64 0],none⟩
def r125:TR:=⟨.strct false [],0,0,[],none⟩
def r222:TR:=⟨.strct true [(0,5),(1,5)],2,2,[.int .u8 0,.int .u8 0],none⟩
def r257:TR:=⟨.strct false [(0,256)],1,8,[.undef],none⟩
def r265:TR:=⟨.strct false [(0,264)],1,8,[.nilm],none⟩
def r279:TR:=⟨.strct false [(0,9),(1,9),(2,197)],3,48,[.str [],.str [],.nilif],none⟩
def r289:TR:=⟨.strct true [(0,9)],1,16,[.str []],none⟩
def r303:TR:=⟨.strct false [(0,17),(1,17),(2,17),(3,9)],4,40,[.nilp,.nilp,.nilp,.str []],none⟩
def r314:TR:=⟨.strct false [(0,12),(1,12),(2,180),(3,309),(4,5),(5,5),(6,310),(7,311),(8,287),(9,312),(10,313)],11,48,[.int .u64 0,.int .u64 0,.int .u32 0,.int .u8 0,.int .u8 0,.int .u8 0,.int .u8 0,.undef,.nilp,.int .i32 0,.int .i32 0],none⟩
def tbl:List (Nat×TR):=[(1,r1),
 (2,r2),
 (3,r2),
 (4,⟨.bool,1,1,[.bool false],some .bool⟩),
 (5,r5),
 (6,r5),
 (7,r7),
 (8,r7),
 (9,r9),
 (10,r9),
 (11,r9),
 (12,r12),
 (13,r13),
 (14,r13),
 (15,⟨.ptr 304,1,8,[.nilp],none⟩),
 (16,⟨.ptr 307,1,8,[.nilp],none⟩),
 (17,⟨.ptr 315,1,8,[.nilp],none⟩),
 (18,r18),
 (19,r18),
 (20,r20),
 (21,r21),
 (22,⟨.slice 9,1,24,[.nils],some (.lst .str)⟩),
 (23,⟨.slice 34,1,24,[.nils],some (.lst (.st .shape))⟩),
 (24,⟨.slice 26,1,24,[.nils],some (.lst (.st .term))⟩),
 (25,⟨.strct false [(0,3),(1,9),(2,9),(3,3),(4,22),(5,22),(6,23),(7,24),(8,3)],9,152,[.int .i64 0,.str [],.str [],.int .i64 0,.nils,.nils,.nils,.nils,.int .i64 0],none⟩),
 (26,⟨.strct false [(0,3),(1,9),(2,9),(3,3),(4,22),(5,22),(6,23),(7,24),(8,3)],9,152,[.int .i64 0,.str [],.str [],.int .i64 0,.nils,.nils,.nils,.nils,.int .i64 0],some (.st .term)⟩),
 (27,⟨.slice 48,1,24,[.nils],some (.lst (.st .bind))⟩),
 (28,⟨.strct false [(0,9),(1,27),(2,27),(3,27)],4,88,[.str [],.nils,.nils,.nils],none⟩),
 (29,⟨.strct false [(0,9),(1,27),(2,27),(3,27)],4,88,[.str [],.nils,.nils,.nils],some (.st .env)⟩),
 (30,r1),
 (31,r1),
 (32,r1),
 (33,⟨.strct false [(0,3),(1,9),(2,9),(3,22),(4,23)],5,88,[.int .i64 0,.str [],.str [],.nils,.nils],none⟩),
 (34,⟨.strct false [(0,3),(1,9),(2,9),(3,22),(4,23)],5,88,[.int .i64 0,.str [],.str [],.nils,.nils],some (.st .shape)⟩),
 (35,r2),
 (36,⟨.strct true [(0,35),(1,3)],2,16,[.int .i64 0,.int .i64 0],none⟩),
 (37,⟨.strct true [(0,35),(1,3)],2,16,[.int .i64 0,.int .i64 0],some (.st .fault)⟩),
 (39,r1),
 (40,r1),
 (41,r1),
 (42,r1),
 (43,r1),
 (44,r1),
 (45,r1),
 (46,r1),
 (47,⟨.strct false [(0,9),(1,9),(2,34)],7,120,[.str [],.str [],.int .i64 0,.str [],.str [],.nils,.nils],none⟩),
 (48,⟨.strct false [(0,9),(1,9),(2,34)],7,120,[.str [],.str [],.int .i64 0,.str [],.str [],.nils,.nils],some (.st .bind)⟩),
 (49,r1),
 (50,r1),
 (51,r1),
 (52,r1),
 (53,r1),
 (54,r1),
 (55,r1),
 (56,r1),
 (57,r1),
 (59,r1),
 (60,r1),
 (61,r1),
 (62,r1),
 (63,r1),
 (64,r1),
 (65,r1),
 (67,r1),
 (68,r1),
 (69,r1),
 (70,⟨.slice 99,1,24,[.nils],some (.lst (.st .token))⟩),
 (72,r1),
 (74,r1),
 (75,r1),
 (76,r1),
 (77,⟨.slice 3,1,24,[.nils],some (.lst (.int .i64))⟩),
 (78,r1),
 (80,r1),
 (81,r1),
 (83,r1),
 (84,r1),
 (85,r1),
 (86,r1),
 (87,r1),
 (88,r1),
 (89,⟨.ptr 93,1,8,[.nilp],none⟩),
 (90,r90),
 (91,r90),
 (92,r92),
 (93,r92),
 (94,r1),
 (95,r1),
 (96,r1),
 (97,r1),
 (98,⟨.strct true [(0,3),(1,9),(2,3)],3,32,[.int .i64 0,.str [],.int .i64 0],none⟩),
 (99,⟨.strct true [(0,3),(1,9),(2,3)],3,32,[.int .i64 0,.str [],.int .i64 0],some (.st .token)⟩),
 (100,⟨.ptr 105,1,8,[.nilp],none⟩),
 (101,r1),
 (102,⟨.strct false [(0,70),(1,3),(2,37)],4,48,[.nils,.int .i64 0,.int .i64 0,.int .i64 0],none⟩),
 (103,⟨.strct false [(0,70),(1,3),(2,37)],4,48,[.nils,.int .i64 0,.int .i64 0,.int .i64 0],some (.st .par)⟩),
 (104,⟨.strct false [(0,103)],4,48,[.nils,.int .i64 0,.int .i64 0,.int .i64 0],none⟩),
 (105,⟨.strct false [(0,103)],4,48,[.nils,.int .i64 0,.int .i64 0,.int .i64 0],some (.st .par)⟩),
 (106,r1),
 (107,r1),
 (108,r1),
 (110,r1),
 (111,r1),
 (112,r1),
 (114,r1),
 (116,r1),
 (117,r1),
 (118,r118),
 (119,r118),
 (120,r1),
 (121,r1),
 (122,r1),
 (123,r1),
 (124,r1),
 (125,r125),
 (126,r125),
 (128,r1),
 (129,r1),
 (130,r1),
 (131,r12),
 (132,r1),
 (133,r1),
 (134,r1),
 (135,⟨.ptr 91,1,8,[.nilp],none⟩),
 (137,r1),
 (138,r1),
 (139,r1),
 (140,r1),
 (141,⟨.strct true [(0,3),(1,3),(2,3),(3,9)],4,40,[.int .i64 0,.int .i64 0,.int .i64 0,.str []],none⟩),
 (142,⟨.strct true [(0,3),(1,3),(2,3),(3,9)],4,40,[.int .i64 0,.int .i64 0,.int .i64 0,.str []],some (.st .version)⟩),
 (144,r1),
 (146,r1),
 (147,⟨.ptr 103,1,8,[.nilp],none⟩),
 (148,r1),
 (149,r1),
 (150,r1),
 (151,r1),
 (152,r1),
 (153,r1),
 (154,r1),
 (156,r1),
 (158,r1),
 (159,r1),
 (160,r1),
 (162,r1),
 (163,r1),
 (164,⟨.slice 5,1,24,[.nils],some (.lst (.int .u8))⟩),
 (165,r1),
 (166,r1),
 (167,r1),
 (168,r1),
 (169,r1),
 (170,r1),
 (171,r1),
 (172,r2),
 (174,r1),
 (175,r1),
 (176,r1),
 (178,r1),
 (179,r1),
 (180,⟨.int .u32,1,4,[.int .u32 0],some (.int .u32)⟩),
 (181,r1),
 (182,r12),
 (184,r1),
 (185,r1),
 (189,r1),
 (190,r1),
 (191,⟨.ptr 187,1,8,[.nilp],none⟩),
 (193,r1),
 (194,r1),
 (195,⟨.arr 3 3,3,24,[.int .i64 0,.int .i64 0,.int .i64 0],none⟩),
 (196,r20),
 (197,r20),
 (199,r1),
 (200,r1),
 (201,r1),
 (202,r1),
 (203,r1),
 (205,r1),
 (206,r1),
 (207,r1),
 (208,r1),
 (209,r1),
 (210,r1),
 (212,r1),
 (213,r1),
 (214,r1),
 (216,r1),
 (217,r1),
 (218,r1),
 (219,r1),
 (220,r1),
 (222,r222),
 (223,r222),
 (225,r1),
 (226,r1),
 (227,r12),
 (228,r1),
 (229,r1),
 (230,r1),
 (231,⟨.ptr 3,1,8,[.nilp],none⟩),
 (232,r1),
 (233,r1),
 (234,r1),
 (235,r1),
 (236,r1),
 (237,⟨.ptr 258,1,8,[.nilp],none⟩),
 (238,r1),
 (239,r1),
 (240,⟨.ptr 266,1,8,[.nilp],none⟩),
 (241,r1),
 (242,r1),
 (243,r1),
 (244,r1),
 (245,r1),
 (246,⟨.ptr 227,1,8,[.nilp],none⟩),
 (247,r1),
 (248,r1),
 (249,r1),
 (250,r2),
 (252,r1),
 (253,⟨.ptr 280,1,8,[.nilp],none⟩),
 (254,r1),
 (255,r1),
 (256,r1),
 (257,r257),
 (258,r257),
 (259,⟨.ptr 34,1,8,[.nilp],none⟩),
 (260,r1),
 (261,r1),
 (262,⟨.strct true [(0,9),(1,9)],2,32,[.str [],.str []],none⟩),
 (263,⟨.strct true [(0,9),(1,9)],2,32,[.str [],.str []],some (.st .nm)⟩),
 (264,⟨.map 263 34,1,8,[.nilm],none⟩),
 (265,r265),
 (266,r265),
 (267,r1),
 (268,r1),
 (269,r1),
 (270,r1),
 (271,r1),
 (272,r1),
 (273,r1),
 (274,r1),
 (275,r1),
 (277,r1),
 (278,r1),
 (279,r279),
 (280,r279),
 (281,r1),
 (282,r1),
 (283,r1),
 (285,r1),
 (286,r1),
 (287,⟨.ptr 5,1,8,[.nilp],none⟩),
 (288,⟨.ptr 290,1,8,[.nilp],none⟩),
 (289,r289),
 (290,r289),
 (291,r1),
 (292,r1),
 (294,r1),
 (296,r1),
 (297,r1),
 (302,r1),
 (303,r303),
 (304,r303),
 (308,r1),
 (309,r5),
 (310,r5),
 (311,r1),
 (312,r21),
 (313,r21),
 (314,r314),
 (315,r314)]
theorem tk{t:Nat}{r:TR}(h1:(Tryz.prog.info? t).map (fun i=>(i.size,i.bytes,i.zero.map fun z=>z.cells.toList.map aW))=some (r.size,r.bytes,some r.zero):=by kernel_rfl)
 (h2:(Tryz.prog.underlying t).map (ar Tryz.prog r.ti)=some true:=by kernel_rfl)
 (h3:(cA r.zero r.size&&(Nat.beq r.size 0||Nat.blt 0 r.bytes)&&(match r.ty with | some I=>Nat.beq (a8 I) r.size&&(tP I ==r.isAgg) | none=>true))=true:=by kernel_rfl)
 (h8:(Tryz.prog.info? t).map (fun i=>i.zero.map fun z=>oZ z ==r.isAgg)=some (some true):=by kernel_rfl)
 (h9:(match r.ti with|.strct true _=>!Tryz.prog.stoodInHeld t&&!Tryz.prog.eqGuardType Tryz.prog.depth t|_=>true)=true:=by kernel_rfl):TRok Tryz.prog t r:=TRok.mk' h1 h2 h3 h8 h9
theorem jy:aG Tryz.prog tbl:=
 .cons tk (.cons tk (.cons tk (.cons tk (.cons tk (.cons tk (.cons tk (.cons tk (.cons tk (.cons tk (.cons tk (.cons tk (.cons tk (.cons tk (.cons tk (.cons tk (.cons tk (.cons tk (.cons tk (.cons tk (.cons tk (.cons tk (.cons tk (.cons tk (.cons tk (.cons tk (.cons tk (.cons tk (.cons tk (.cons tk (.cons tk (.cons tk (.cons tk (.cons tk (.cons tk (.cons tk (.cons tk (.cons tk (.cons tk (.cons tk (.cons tk (.cons tk (.cons tk (.cons tk (.cons tk (.cons tk (.cons tk (.cons tk (.cons tk (.cons tk (.cons tk (.cons tk (.cons tk (.cons tk (.cons tk (.cons tk (.cons tk (.cons tk (.cons tk (.cons tk (.cons tk (.cons tk (.cons tk (.cons tk (.cons tk (.cons tk (.cons tk (.cons tk (.cons tk (.cons tk (.cons tk (.cons tk (.cons tk (.cons tk (.cons tk (.cons tk (.cons tk (.cons tk (.cons tk (.cons tk (.cons tk (.cons tk (.cons tk (.cons tk (.cons tk (.cons tk (.cons tk (.cons tk (.cons tk (.cons tk (.cons tk (.cons tk (.cons tk (.cons tk (.cons tk (.cons tk (.cons tk (.cons tk (.cons tk (.cons tk (.cons tk (.cons tk (.cons tk (.cons tk (.cons tk (.cons tk (.cons tk (.cons tk (.cons tk (.cons tk (.cons tk (.cons tk (.cons tk (.cons tk (.cons tk (.cons tk (.cons tk (.cons tk (.cons tk (.cons tk (.cons tk (.cons tk (.cons tk (.cons tk (.cons tk (.cons tk (.cons tk (.cons tk (.cons tk (.cons tk (.cons tk (.cons tk (.cons tk (.cons tk (.cons tk (.cons tk (.cons tk (.cons tk (.cons tk (.cons tk (.cons tk (.cons tk (.cons tk (.cons tk (.cons tk (.cons tk (.cons tk (.cons tk (.cons tk (.cons tk (.cons tk (.cons tk (.cons tk (.cons tk (.cons tk (.cons tk (.cons tk (.cons tk (.cons tk (.cons tk (.cons tk (.cons tk (.cons tk (.cons tk (.cons tk (.cons tk (.cons tk (.cons tk (.cons tk (.cons tk (.cons tk (.cons tk (.cons tk (.cons tk (.cons tk (.cons tk (.cons tk (.cons tk (.cons tk (.cons tk (.cons tk (.cons tk (.cons tk (.cons tk (.cons tk (.cons tk (.cons tk (.cons tk (.cons tk (.cons tk (.cons tk (.cons tk (.cons tk (.cons tk (.cons tk (.cons tk (.cons tk (.cons tk (.cons tk (.cons tk (.cons tk (.cons tk (.cons tk (.cons tk (.cons tk (.cons tk (.cons tk (.cons tk (.cons tk (.cons tk (.cons tk (.cons tk (.cons tk (.cons tk (.cons tk (.cons tk (.cons tk (.cons tk (.cons tk (.cons tk (.cons tk (.cons tk (.cons tk (.cons tk (.cons tk (.cons tk (.cons tk (.cons tk (.cons tk (.cons tk (.cons tk (.cons tk (.cons tk (.cons tk (.cons tk (.cons tk (.cons tk (.cons tk (.cons tk (.cons tk (.cons tk (.cons tk (.cons tk (.cons tk (.cons tk (.cons tk (.cons tk (.cons tk (.cons tk (.cons tk (.cons tk (.cons tk (.cons tk (.cons tk (.cons tk (.cons tk (.cons tk (.cons tk (.cons tk (.cons tk (.cons tk (.cons tk (.cons tk (.cons tk (.cons tk (.cons tk (.cons tk (.cons tk (.cons tk (.cons tk (.cons tk (.cons tk (.cons tk (.nil)))))))))))))))))))))))))))))))))))))))))))))))))))))))))))))))))))))))))))))))))))))))))))))))))))))))))))))))))))))))))))))))))))))))))))))))))))))))))))))))))))))))))))))))))))))))))))))))))))))))))))))))))))))))))))))))))))))))))))))))))))))))))))))))))))))))))))))))))
theorem mixed:Tryz.prog.follows .mixedOrders=true:=by kernel_rfl
end Go.AL.Seat
end
noncomputable section
namespace Go.AL
variable [Tabs]
def vn:AV->Bool
 |.ptr k 0=>aP k
 |_=>false
def ptrIn(ks:List Nat):AV->Bool
 |.ptr k _=>ks.contains k
 |_=>false
def uz(ks:List Nat)(t:List (Nat×AV)):List (Nat×AV):=t.map fun x=>(x.1,if ptrIn ks x.2 then x.2 else .undef)
structure RC where
 r0:Code
 rest:Code
 crest:Code
 t5:Nat
 caps:List Operand
 t6:Nat
 t3:Nat
def vo(g:Nat)(c cc:Code):Option RC:=
 match c,cc with
 |.seq r0 (.seq (.region _ o1 false) rest),.seq (.region _ o2 false) crest=>
  match o1.toList,o2.toList with
  |[⟨some t5,.makeFunc (.func g') fst caps,_,_,_,none⟩,⟨none,.defer ⟨.value (.tmp t5'),asx,_⟩,_,_,_,none⟩],
   [⟨some t6,.call ⟨.builtin .recover,as2,_⟩,_,_,_,none⟩,⟨some t3,.assign (.tmp t6'),_,_,_,none⟩]=>
   if Nat.beq g' g&&Nat.beq t5' t5&&Nat.beq t6' t6&&fst.isEmpty&&asx.isEmpty&&as2.isEmpty then some ⟨r0,rest,crest,t5,caps.toList,t6,t3⟩else none
  |_,_=>none
 |_,_=>none
def tj(C:Cfg)(rs:List ResultVar)(L:List bz)(s1:St)(S1:List (Nat×SObj))(S:List (Nat×SObj))(A:Ans)(t2:List (Nat×AV))(s3:St):Prop:=
 match aF (ao s3.b)&&(ao S1).all (fun k=>(ao s3.b).contains k)with
 |true=>
  match fK C.tbl ⟨uz (ao S1) t2,s3.b⟩ rs with
  |some l=>
   (match fI (ae s1.b) L 998 (dz S1 s3.b),mapVs (jg L 998) (dy L 998) (dy L 998) l with
   |some u',some l'=>dh ⟨[],b5 s1.b u'⟩ fun s4=>lQ (some l') s4 A.val (b5 S A.upd)
   |_,_=>False)
  |none=>False
 |false=>False
def ou(C:Cfg)(annC:An)(clo:Func)(R:RC)(caps:List AV)(v:AV)(s2:St)(fin:St->Prop):Prop:=
 ed (List.range clo.ntmps) fun keep=>dh ⟨fb (bk 0 caps) R.t3 v,s2.b⟩ fun s=>swp C keep annC R.crest s fun
  |.exit _,_=>False
  |.pan _,_=>False
  |_,s3=>fin s3
def fwpR(C:Cfg)(ann annC:An)(fn:Func)(g:Nat)(clo:Func)(args:List AV)(S:List (Nat×SObj))(A:Ans):Prop:=
 match fn.body,clo.body,A.pan with
 |some c,some cc,none=>
  match vo g c cc with
  |none=>False
  |some R=>
   match aR fn.ntmps c&&aR clo.ntmps cc&&Nat.blt R.t5 fn.ntmps&&gM args fn.ntmps&&(ao S).all aP&&clo.results.isEmpty&&gM R.caps clo.ntmps&&gM R.caps R.t6 with
   |false=>False
   |true=>ed ((List.range fn.ntmps)) fun keep=>dh ⟨bk 0 args,S⟩ fun i=>swp C keep ann R.r0 i fun
    |.normal,s1=>
     (match(ao s1.b).map (fun i=>(i,(none:Option (Nat×Nat))))with
     |L=>
      (match aF (L.map (·.1))&&Nat.ble L.length 100,mapVs (toP L) (toI L) (toI L) ((List.range fn.ntmps).map (aE s1.t)),mapVs (toP L) (toI L) (toI L) (R.caps.map (opd (aE s1.t))),ir (ae s1.b) L L 900 with
      |true,some as1,some caps,some S1=>
       (match caps.all vn with
       |true=>dh ⟨fb (bk 0 as1) R.t5 .undef,S1⟩ fun i=>swp C keep ann R.rest i fun
        |.exit _,_=>False
        |.pan v,s2=>ou C annC clo R caps v s2 (tj C fn.results.toList L s1 S1 S A s2.t)
        |_,s2=>ou C annC clo R caps .nilif s2 (tj C fn.results.toList L s1 S1 S A s2.t)
       |false=>False)
      |_,_,_,_=>False))
    |_,_=>False
 |_,_,_=>False
theorem jb:∀(u S:List (Nat×SObj))(i:Nat),aF (u.map (·.1))=true->ae (b5 S u) i=(ae u i).or (ae S i)
 |[],S,i,_=>by simp[b5,aw,aq]
 |(j,o)::r,S,i,h=>by
  simp only[wu,aF,vW,wc]at h;simp only[b5];rw[jb r _ i h.2,dN];simp only[aw,aq];by_cases e:j=i
  ·subst e
   have:ae r j=none:=by
    cases hb:ae r j with|none=>rfl|some o'=>have:=bc r j o' hb;have h1:=h.1;simp only[wB,wF,wz,not_exists,not_and]at h1;exact absurd rfl (h1 _ this)
   simp[this]
  ·simp[e]
section
variable {P:Program} {C:Cfg}
theorem V.pinned{e0 e:Nat->Option CObj}{w0 w:World}{p0 p:Nat->Nat->Prop}(hk:∀id c,e0 id=some c->∃c',e id=some c'/\CLe c c'){a:AV}{v:Value}(ha:vn a=true)(h:V ⟨e0,w0,p0⟩ a v):V ⟨e,w,p⟩ a v:=by
 cases h with
 |ptr i o b q len he=>obtain⟨c',h1,h2⟩:=hk i _ he;have:=h2.box;subst this;exact .ptr i o b q len h1
 |_=>simp[vn]at ha
theorem Holds.retmp'{F:Fr}{s:AS}{a a':Act}{E:Om}(h:Holds F s a E){n:Nat}{ds:List Deferred}{T:Nat->AV}(hT:∀i,V E (T i) (a'.tmps.getD i undef))(hs:a'.tmps.size=n)(hd:a'.defers=ds) :
  Holds ⟨F.w0,F.pub0,n,F.e0,F.dom0,ds,F.tab0⟩ ⟨T,s.B⟩ a' E:=
 ⟨hT,hs,hd,h.slots,h.dom,h.inj,h.pubok,h.keep,⟨h.frame.os,h.frame.tape,h.frame.output,h.frame.size,h.frame.block,h.frame.cell,h.frame.kind,h.frame.pub,h.frame.old,h.frame.pcell⟩⟩
inductive Rcv:FrameMode->AV->Om->Value->FrameMode->Prop
 |ret (E:Om):Rcv .returning .nilif E .nilIface .returning
 |pan (E:Om) (a:AV) (v:Value):V E a v->Rcv (.panicking [{v,recovered:=false}]) a E v (.panicking [{v,recovered:=true}])
structure RCcode(g:Nat)(R:RC)(c cc:Code):Prop where
 code:∃i1 i2 ty1 ps1 af1 ty2 ps2 af2 ts2 ty3 ps3 af3 ts3 ty4 ps4 af4,
  c=.seq R.r0 (.seq (.region i1 #[⟨some R.t5,.makeFunc (.func g) #[] R.caps.toArray,ty1,ps1,af1,none⟩,⟨none,.defer ⟨.value (.tmp R.t5),#[],ts2⟩,ty2,ps2,af2,none⟩] false) R.rest)/\
  cc=.seq (.region i2 #[⟨some R.t6,.call ⟨.builtin .recover,#[],ts3⟩,ty3,ps3,af3,none⟩,⟨some R.t3,.assign (.tmp R.t6),ty4,ps4,af4,none⟩] false) R.crest
theorem tl{g:Nat}{c cc:Code}{R:RC}(h:vo g c cc=some R):RCcode g R c cc:=by
 unfold vo at h;split at h
 ·rename_i r0 i1 o1 rest i2 o2 crest;split at h
  ·rename_i h1 h2;split at h
   ·rename_i hc;simp only[vW,Nat.beq_eq,Array.isEmpty_iff]at hc;obtain⟨⟨⟨⟨⟨rfl,rfl⟩,rfl⟩,rfl⟩,rfl⟩,rfl⟩:=hc;simp only[Xs]at h;subst h;have e1:=xq List.toArray h1;have e2:=xq List.toArray h2;simp only[xi]at e1 e2;subst e1 e2;exact⟨_,_,_,_,_,_,_,_,_,_,_,_,_,_,_,_,rfl,rfl⟩
   ·cases h
  ·cases h
 ·cases h
theorem jz{ts:Array Nat}{d:Option Nat}{ty:Nat}{ps:String}{af:Array Edge}{X:Operand->Value}{w:World} :
  (execOp X ⟨d,.call ⟨.builtin .recover,#[],ts⟩,ty,ps,af,none⟩).run P w=.ok .recover w:=by
 simp[execOp,resolve,invoke,builtin]
theorem pP(hm:P.follows .mixedOrders=true)(hT:aG P C.tbl)(hS:aX P C.spec){g:Nat}{clo:Func}{c cc:Code}{R:RC}(hR:RCcode g R c cc)(hg:P.funcs[g]?=some clo)(hb:clo.body=some cc)
 (hd:aR clo.ntmps cc=true)(hres:clo.results=#[]){caps:List AV}(hcl:caps.length<=clo.ntmps)(hc6:caps.length<=R.t6){F:Fr}{s2:St}{a2:Act}{E2:Om}(h:Holds F s2.abs a2 E2){vs:List Value}(hv:VL E2 caps vs)
 {u u':FrameMode}{av:AV}{v:Value}(hrc:Rcv u av E2 v u'){annC:An}{fin:St->Prop}(hc:ou C annC clo R caps av s2 fin) :
  CallsD P g vs.toArray u E2.w fun en u2 w'=>u2=u'/\en=.returned (.tuple #[])/\∃s3 E3 a3 T,E3.w=w'/\fin s3/\Holds ⟨F.w0,F.pub0,clo.ntmps,F.e0,F.dom0,[],F.tab0⟩ ⟨T,ae s3.b⟩ a3 E3:=by
 obtain⟨i1,i2,ty1,ps1,af1,ty2,ps2,af2,ts2,ty3,ps3,af3,ts3,ty4,ps4,af4,_,rfl⟩:=hR;refine callsD_of_wpS hg hb (fun c₀ cs hu=>?_);apply wpS_seq;apply wpS_region;simp only[aR,vW,List.all_cons,List.all_nil,Bool.and_true,yo]at hd;obtain⟨⟨hd6,hd3⟩,hdc⟩:=hd;have hvs:vs.length<=clo.ntmps:=by rw[<-hv.1];exact hcl
 have hbase:Holds ⟨F.w0,F.pub0,clo.ntmps,F.e0,F.dom0,[],F.tab0⟩ ⟨aE (bk 0 caps),ae s2.b⟩ {tmps:=vs.toArray++Array.replicate (clo.ntmps-vs.toArray.size) undef,defers:=[]} E2:=
  h.retmp' (fun i=>eV _ hv i) (by simp;omega) rfl
 have key:∃cs',(∃c1,cs'=c1::cs/\c1={c₀ with mode:=u'})/\∀Q':Exit->Act->List Frame->World->Prop,Q' .normal (({tmps:=vs.toArray++Array.replicate (clo.ntmps-vs.toArray.size) undef,defers:=[]}:Act).put (some R.t6) v|>.put (some R.t3) v) cs' E2.w->
   wpOpsS P #[⟨some R.t6,.call ⟨.builtin .recover,#[],ts3⟩,ty3,ps3,af3,none⟩,⟨some R.t3,.assign (.tmp R.t6),ty4,ps4,af4,none⟩] Q' [0,1] {tmps:=vs.toArray++Array.replicate (clo.ntmps-vs.toArray.size) undef,defers:=[]} (c₀::cs) E2.w:=by
  have two:∀(cs':List Frame)(Q':Exit->Act->List Frame->World->Prop),Q' .normal (({tmps:=vs.toArray++Array.replicate (clo.ntmps-vs.toArray.size) undef,defers:=[]}:Act).put (some R.t6) v|>.put (some R.t3) v) cs' E2.w->
    wpOpsS P #[⟨some R.t6,.call ⟨.builtin .recover,#[],ts3⟩,ty3,ps3,af3,none⟩,⟨some R.t3,.assign (.tmp R.t6),ty4,ps4,af4,none⟩] Q' [1] (({tmps:=vs.toArray++Array.replicate (clo.ntmps-vs.toArray.size) undef,defers:=[]}:Act).put (some R.t6) v) cs' E2.w:=by
   intro cs' Q' hq;have he:(({tmps:=vs.toArray++Array.replicate (clo.ntmps-vs.toArray.size) undef,defers:=[]}:Act).put (some R.t6) v).eval (.tmp R.t6)=v:=by show(Act.put _ (some R.t6) v).tmps.getD R.t6 undef=v;rw[b8 hbase.size hd6,wh rfl]
   unfold wpOpsS;simp only[wU,yf,xp,Region.wanted,wR];have hr:(execOp (({tmps:=vs.toArray++Array.replicate (clo.ntmps-vs.toArray.size) undef,defers:=[]}:Act).put (some R.t6) v).eval ⟨some R.t3,.assign (.tmp R.t6),ty4,ps4,af4,none⟩).run P E2.w=.ok (.value v) E2.w:=by show(pure (Next.value (Act.eval _ (.tmp R.t6))):Sem Next).run P E2.w=_;rw[he];rfl
   rw[hr];simp only[Oper.upon];exact hq
  cases hrc with|ret=>refine⟨_,⟨c₀,rfl,by cases c₀;simp only at hu;subst hu;rfl⟩,fun Q' hq=>?_⟩;unfold wpOpsS;simp only[wU,xp,Region.wanted,wR];rw[jz];simp only[recoverD,hu];exact two _ Q' hq|pan _ _ hv'=>refine⟨_,⟨_,rfl,rfl⟩,fun Q' hq=>?_⟩;unfold wpOpsS;simp only[wU,xp,Region.wanted,wR];rw[jz];simp only[recoverD,hu];exact two _ Q' hq
 obtain⟨cs',⟨c1,rfl,hc1⟩,key⟩:=key;refine key _ ?_;refine wpS_of_wp ?_;unfold ou at hc;rw[dZ,bG]at hc
 have hav:V E2 av v:=by
  cases hrc<;>first|exact .nilif|assumption
 have h1:=(hbase.pure (dst:=some R.t6) (val:=.undef) (v:=v) (.undef v) (fun d e=>by cases e;exact hd6)).pure (dst:=some R.t3) (val:=av) (v:=v) hav (fun d e=>by cases e;exact hd3)
 have h2:Holds ⟨F.w0,F.pub0,clo.ntmps,F.e0,F.dom0,[],F.tab0⟩ (St.abs ⟨fb (bk 0 caps) R.t3 av,s2.b⟩) _ E2:=h1.weak (s':=St.abs ⟨fb (bk 0 caps) R.t3 av,s2.b⟩) (fun i=>by
  simp only[St.abs,cU,aZ];by_cases e3:R.t3=i
  ·right;simp[e3]
  ·by_cases e6:R.t6=i
   ·left;subst e6;rw[w5 e3,cX,wh (wP _),xY];simp[vZ,vX hc6]
   ·right;simp[e3,e6]) rfl
 refine xG (gH hm hT hS _ annC R.crest _ _ _ E2 hc hdc h2) ?_;intro e a' w' hq;obtain⟨z,s3,E3,q1,q2,q3,q4⟩:=hq;have fin3:fin s3->bodyPostS P clo c₀ cs (fun en u2 w'=>u2=u'/\en=.returned (.tuple #[])/\∃s3 E3 a3 T,E3.w=w'/\fin s3/\Holds ⟨F.w0,F.pub0,clo.ntmps,F.e0,F.dom0,[],F.tab0⟩ ⟨T,ae s3.b⟩ a3 E3) .ret a' (c1::cs) w':=by intro hf;refine⟨q3.defers,u',by rw[hc1],.tuple #[],by simp[results,hres],rfl,rfl,s3,E3,a',_,q2,hf,q3⟩
 cases z with
 |normal=>cases q1;exact fin3 q4
 |ret=>cases q1;exact fin3 q4
 |exit id=>exact q4.elim
 |pan v=>exact q4.elim
theorem rN{w:World}{pub:Nat->Nat->Prop}{e:Nat->Option CObj}{n:Nat}{hl:∀id c,e id=some c->aP id=true}{ds:List Deferred}{ht:dU w pub e}{T:Nat->AV}{t:List (Nat×AV)}{b b':List (Nat×SObj)}{a:Act}{E:Om}{l:List AV}{us:List Value}{val:AV}
 (hh:Holds ⟨w,pub,n,e,hl,ds,ht⟩ ⟨T,ae b⟩ a E)(k2:VL E l us)(hend:lQ (some l) ⟨t,b⟩ val b') :
  ∃pub' e',V ⟨e',E.w,pub'⟩ val (if h:us.toArray.size=1 then us.toArray[0]else .tuple us.toArray)/\After w pub e (ae b') E.w pub' e':=by
 unfold lQ at hend;split at hend
 ·rename_i x hres;cases hres;obtain⟨u,rfl⟩:=eX (by rw[<-k2.1];rfl);have h1:=hh.retmp' (T:=aE (bk 0 [x])) (a':={tmps:=[u].toArray++Array.replicate 0 undef,defers:=[]}) (n:=1) (ds:=[]) (fun i=>eV 0 k2 i) (by simp) rfl;obtain⟨E2,e2,hh2⟩:=bK (s:=⟨[(0,x)],b⟩) h1 (dC hend);refine⟨E2.pub,E2.e,?_,?_⟩
  ·have:=hh2.tmps 0;rw[<-e2];exact this
  ·rw[<-e2];exact ea hh2
 ·rename_i l' hne hres;cases hres;split at hend
  ·rename_i rs;split at hend
   ·rename_i hln;have hl2:=aV _ _ hln;have h1:=hh.retmp' (T:=aE (bk 0 l)) (a':={tmps:=us.toArray++Array.replicate 0 undef,defers:=[]}) (n:=us.length) (ds:=[]) (fun i=>eV 0 k2 i) (by simp) rfl;obtain⟨E2,e2,hh2⟩:=bK (s:=⟨bk 0 l,b⟩) h1 (dC hend);have hsz:¬us.toArray.size=1:=by intro h1;obtain⟨x,hx⟩:=eX (l:=l) (by rw[k2.1];simpa using h1);exact hne x hx
    rw[dif_neg hsz];refine⟨E2.pub,E2.e,?_,?_⟩
    ·refine .tup rs us (by rw[<-k2.1,<-hl2]) (fun j c v hc hv=>?_);have:=hh2.tmps j;simp only[St.abs,cX,wP,wR,xY,vZ,hc,wN]at this;have e3:(us.toArray++Array.replicate 0 undef).getD j undef=v:=by simp[w9,hv]
     rw[e3]at this;rw[<-e2];exact this
    ·rw[<-e2];exact ea hh2
   ·exact hend.elim
  ·exact hend.elim
 ·rename_i h;cases h
theorem CLe.to_box{c:CObj}{b o l:Nat}(h:CLe c (.box b o l)):c=.box b o l:=by cases c<;>simp[CLe]at h;obtain⟨rfl,rfl,rfl⟩:=h;rfl
theorem V.ptrIn{F:Fr}{E2 E3:Om}{ks:List Nat}(h2:∀id c,F.e0 id=some c->∃c',E2.e id=some c'/\CLe c c')(h3:∀id c,F.e0 id=some c->∃c',E3.e id=some c'/\CLe c c')
 (hk:∀k∈ks,∃c,F.e0 k=some c){a:AV}{v:Value}(h:V E2 a v):V E3 (if AL.ptrIn ks a=true then a else .undef) v:=by
 split
 ·rename_i hp
  cases h with
  |ptr i o b q len he=>simp only[AL.ptrIn,wB,wb]at hp;obtain⟨c,hc⟩:=hk i hp;obtain⟨c2,e2,l2⟩:=h2 i c hc;rw[he]at e2;cases e2;have:=l2.to_box;subst this;obtain⟨c3,e3,l3⟩:=h3 i _ hc;have:=l3.box;subst this;exact .ptr i o b q len e3
  |_=>simp[AL.ptrIn]at hp
 ·exact .undef v
theorem rO(hT:aG P C.tbl){w:World}{pub:Nat->Nat->Prop}{e:Nat->Option CObj}{n n1:Nat}{hl:∀id c,e id=some c->aP id=true}{ht:dU w pub e}{s1:St}{a1:Act}{E1:Om}{L:List bz}{ht1:dU E1.w E1.pub (bj L E1.e)}(h3:Holds ⟨w,pub,n,e,hl,[],ht⟩ s1.abs a1 E1)
 (hdist:aF (L.map (·.1))=true){S1:List (Nat×SObj)}(hS1:ir (ae s1.b) L L 900=some S1){hl1:∀id c,bj L E1.e id=some c->aP id=true}(hk1:∀k∈ao S1,∃c,bj L E1.e k=some c)
 {ds:List Deferred}{s2:St}{a2:Act}{E2:Om}(q3:Holds ⟨E1.w,E1.pub,n,bj L E1.e,hl1,ds,ht1⟩ s2.abs a2 E2){s3:St}{a3:Act}{E3:Om}{T:Nat->AV}(h5:Holds ⟨E1.w,E1.pub,n1,bj L E1.e,hl1,[],ht1⟩ ⟨T,ae s3.b⟩ a3 E3)
 {fn:Func}{S:List (Nat×SObj)}{A:Ans}(hpan:A.pan=none)(hf:tj C fn.results.toList L s1 S1 S A s2.t s3) :
  ∃v,(results fn a2.tmps).run P E3.w=.ok v E3.w/\∃pub' e',(∀b pv u,A.pan=some (b,pv,u)->b=false)/\V ⟨e',E3.w,pub'⟩ A.val v/\After w pub e (ae (b5 S A.upd)) E3.w pub' e':=by
 unfold tj at hf;split at hf
 ·rename_i hck;simp only[vW,wk]at hck;obtain⟨hd3,hin⟩:=hck;split at hf
  ·rename_i l hres;split at hf
   ·rename_i u' l' hu' hl';rw[bG]at hf
    have hR:Holds ⟨E1.w,E1.pub,n,bj L E1.e,hl1,ds,ht1⟩ (St.abs ⟨uz (ao S1) s2.t,s3.b⟩) a2 E3:=by
     have:=h5.retmp' (T:=aE (uz (ao S1) s2.t)) (a':=a2) (n:=n) (ds:=ds) (fun i=>by
      rw[show aE (uz (ao S1) s2.t) i=if ptrIn (ao S1) (aE s2.t i)=true then aE s2.t i else .undef from iE (fun x=>if ptrIn (ao S1) x=true then x else .undef) (by simp[ptrIn]) s2.t i];exact V.ptrIn (F:=⟨E1.w,E1.pub,n,bj L E1.e,hl1,ds,ht1⟩) q3.keep h5.keep hk1 (q3.tmps i)) q3.size q3.defers
     exact this
    obtain⟨us,k1,k2⟩:=cz hT hR _ _ hres;have hmap:(results fn a2.tmps).run P E3.w=.ok (if h:us.toArray.size=1 then us.toArray[0]else .tuple us.toArray) E3.w:=by rw[ib,<-xi (xs:=fn.results),yh];simp only[w7,Sem.run_map,k1,vY,wy]
    have hB:ae (b5 S1 s3.b)=ae s3.b:=by
     funext i;rw[jb _ _ _ hd3]
     cases h:ae s3.b i with
     |some o=>rfl
     |none=>
      cases h':ae S1 i with|none=>rfl|some o=>have:=hin i (wz.2 ⟨(i,o),bc _ _ _ h',rfl⟩);simp only[wB,wb]at this;exact absurd this (eU _ _ h)
    have hA:After E1.w E1.pub (bj L E1.e) (ae (b5 S1 s3.b)) E3.w E3.pub E3.e:=by rw[hB];exact ea (h5.retmp' (T:=T) (a':=a3) (n:=n1) (ds:=[]) h5.tmps h5.size h5.defers)
    obtain⟨E',w1,w2,w3⟩:=iV h3 (d:=998) (by omega) hdist hS1 hd3 hu' (val:=.tup l) (val':=.tup l') (by simp only[mapV,hl']) (v:=.tuple us.toArray) (V.of_tup k2) hA;obtain⟨us',e1,k3⟩:=w2.tup_inv;have e2:us=us':=by have:=xq Array.toList (Value.tuple.inj e1);simpa using this
    subst e2;rw[show s1.abs.B=ae s1.b from rfl,<-eR]at w3;obtain⟨pub',e',p1,p2⟩:=rN (T:=s1.abs.T) (b:=b5 s1.b u') (t:=[]) w3 k3 hf;rw[w1]at p1 p2;exact⟨_,hmap,pub',e',(fun b pv u h=>by rw[hpan]at h;cases h),p1,p2⟩
   ·exact hf.elim
  ·exact hf.elim
 ·exact hf.elim
theorem fwpR_sound(hm:P.follows .mixedOrders=true)(hT:aG P C.tbl)(hS:aX P C.spec){ann annC:An}{f g:Nat}{fn clo:Func}(hf:P.funcs[f]?=some fn)(hg:P.funcs[g]?=some clo)
 (eg:∀args w,(callFunc g args).run P w=.ok (.enter g args) w){args:List AV}{S:List (Nat×SObj)}{A:Ans}(h:fwpR C ann annC fn g clo args S A):aO P f args S A:=by
 intro w pub e vs hp ht hv hs hdom hinj;unfold fwpR at h;split at h
 ·rename_i c cc hb hcb hpan;split at h
  ·exact h.elim
  ·rename_i R hR;split at h
   ·exact h.elim
   ·rename_i hck;simp only[vW,wk,Array.isEmpty_iff,yo]at hck;obtain⟨⟨⟨⟨⟨⟨⟨hk1,hk2⟩,hk5⟩,hk3⟩,hk4⟩,hres⟩,hcl⟩,hc6⟩:=hck;have hlen:=bR _ _ hk3;have hcl:=bR _ _ hcl;have hc6:=bR _ _ hc6;rw[dZ,bG]at h
    have hlent:∀id c,e id=some c->aP id=true:=by
     intro id c hc
     cases hg:ae S id with
     |none=>rw[hdom id hg]at hc;cases hc
     |some o=>exact hk4 id (wz.2 ⟨(id,o),bc _ _ _ hg,rfl⟩)
    have hRc:=tl hR;obtain⟨i1,i2,ty1,ps1,af1,ty2,ps2,af2,ts2,ty3,ps3,af3,ts3,ty4,ps4,af4,rfl,_⟩:=id hRc;refine calls_of_wp_defers hf hb ?_;have hh:=fE (n:=fn.ntmps) hp ht hv hlen hs hdom hinj hlent;have hdr:aR fn.ntmps R.r0=true/\aR fn.ntmps R.rest=true:=by simp only[aR,vW]at hk1;exact⟨hk1.1,hk1.2.2⟩
    refine yQ (xG (gH (F:=⟨w,pub,fn.ntmps,e,hlent,[],ht⟩) hm hT hS _ ann R.r0 _ _ _ _ h hdr.1 hh) ?_);intro en a1 w1 hq;obtain⟨z,s1,E1,q1,rfl,h3,h4⟩:=hq
    cases z with
    |exit id=>exact h4.elim
    |ret=>exact h4.elim
    |pan pv=>exact h4.elim
    |normal=>
     cases q1;simp only at h4;generalize hLL:(ao s1.b).map (fun i=>(i,(none:Option (Nat×Nat))))=L at h4;split at h4
     ·rename_i as1 caps S1 hdl has hcaps hS1;simp only[vW,yF]at hdl;obtain⟨hdist,hL100⟩:=hdl;split at h4
      ·rename_i hcp;rw[bG]at h4;obtain⟨k1,k2,k3⟩:=dM L 900 S1 hS1;refine yQ (yp ?_);show wpOps P _ _ [0,1] a1 E1.w;refine bd (o:=⟨some R.t5,.makeFunc (.func g) #[] R.caps.toArray,ty1,ps1,af1,none⟩) rfl rfl (ai (v:=.func (.func g) #[] (R.caps.toArray.map a1.eval)) (w':=E1.w) (by simp[execOp,Instr.makeFunc]) ?_);have he5:(a1.put (some R.t5) (.func (.func g) #[] (R.caps.toArray.map a1.eval))).eval (.tmp R.t5)=.func (.func g) #[] (R.caps.toArray.map a1.eval):=by show(Act.put a1 (some R.t5) _).tmps.getD R.t5 undef=_;rw[b8 h3.size hk5,wh rfl]
       refine bd (o:=⟨none,.defer ⟨.value (.tmp R.t5),#[],ts2⟩,ty2,ps2,af2,none⟩) rfl rfl ?_;have hrun:(execOp (a1.put (some R.t5) (.func (.func g) #[] (R.caps.toArray.map a1.eval))).eval ⟨none,.defer ⟨.value (.tmp R.t5),#[],ts2⟩,ty2,ps2,af2,none⟩).run P E1.w=.ok (.defer {target:=.fn (.func g) (R.caps.toArray.map a1.eval),args:=#[]}) E1.w:=by have he5':=he5;simp only[List.map_toArray]at he5';simp[execOp,resolve,he5',Deferred.ofValue]
       unfold Oper.wp;rw[hrun];have hcv:R.caps.toArray.map a1.eval=(R.caps.map a1.eval).toArray:=by simp
       have hdef0:a1.defers=[]:=h3.defers
       have hvl1:VL E1 ((List.range fn.ntmps).map (aE s1.t)) a1.tmps.toList:=by
        have hz:a1.tmps.size=fn.ntmps:=h3.size;refine⟨by simp;omega,fun j c v hc hv=>?_⟩;simp only[wx,we]at hc;obtain⟨q,hq,rfl⟩:=hc;have hqj:q=j:=by have:=wL.1 hq;obtain⟨_,e⟩:=this;simpa using e.symm
        subst hqj;have:=h3.tmps q;rw[wg]at hv;simp only[w9,hv,wN]at this;exact this
       have hvc1:VL E1 (R.caps.map (opd (aE s1.t))) (R.caps.map a1.eval):=by refine⟨by simp,fun j c v hc hv=>?_⟩;simp only[wx,we]at hc hv;obtain⟨x,hx,rfl⟩:=hc;obtain⟨y,hy,rfl⟩:=hv;rw[hx]at hy;cases hy;exact aK h3 x
       have hvl:=hvl1.mapVs (gd L E1.e) has;have hvc:=hvc1.mapVs (gd L E1.e) hcaps;have hlent1:∀k i r,aI L k=some (i,r)->∃o o',s1.abs.B i=some o/\cC L r o=some o'/\ae S1 k=some o':=by intro k i r hk;obtain⟨h1,h2⟩:=cw hk;obtain⟨o,o',q1,q2,q3⟩:=k2 _ i r h2;rw[show 900+(k-900)=k by omega]at q3;exact⟨o,o',q1,q2,q3⟩
       have hLs:∀q i r,nth L q=some (i,r)->∃o o',s1.abs.B i=some o/\cC L r o=some o':=fun q i r hq=>let ⟨o,o',q1,q2,_⟩:=k2 q i r hq;⟨o,o',q1,q2⟩
       have hslots:∀id o,ae S1 id=some o->aL ⟨bj L E1.e,E1.w,E1.pub⟩ (fun _ _=>True) id o:=fun id o' ho'=>by obtain⟨q,i,r,o2,e1,e2,e3,e4⟩:=k1 id o' ho';subst e1;exact nX (b9 (gE L i 900 q r hdist e2)) (h3.slots i o2 e3) e4
       have hdom1:∀id,ae S1 id=none->bj L E1.e id=none:=fun id hid=>by
        unfold bj
        cases hl:aI L id with
        |none=>rfl
        |some x=>obtain⟨o1,o2,_,_,q3⟩:=hlent1 id x.1 x.2 hl;rw[hid]at q3;cases q3
       have hinj1:Inj (bj L E1.e):=fun i j c c' b oo hi hj ho1 ho2=>by obtain⟨i1,r1,c1,p1,p2,p3⟩:=eQ h3.slots hLs hi;obtain⟨i2,r2,c2,p4,p5,p6⟩:=eQ h3.slots hLs hj;have:=h3.inj i1 i2 c1 c2 b oo p2 p5 (p3 b oo ho1) (p6 b oo ho2);subst this;have a1:=bu hdist p1;have a2:=bu hdist p4;rw[a1]at a2;simp at a2;exact a2.1
       have hpin:∀id c,bj L E1.e id=some c->aP id=true:=by
        intro id c hc
        cases hg:ae S1 id with
        |none=>rw[hdom1 id hg]at hc;cases hc
        |some o=>have:=k3 (id,o) (bc _ _ _ hg);simp only[aP,vW,yF,yo];simp only at this;omega
       have hkS:∀k∈ao S1,∃c,bj L E1.e k=some c:=by
        intro k hk;obtain⟨x,hx,rfl⟩:=wz.1 hk
        cases hg:ae S1 x.1 with
        |none=>exact absurd (wz.2 ⟨x,hx,rfl⟩) (eU _ _ hg)
        |some o=>
         have hso:=hslots x.1 o hg
         cases o with
         |box c=>obtain⟨_,_,e1,_⟩:=hso;exact⟨_,e1⟩
         |tail I n=>obtain⟨_,_,e1,_⟩:=hso;exact⟨_,e1⟩
         |map U I m=>obtain⟨_,e1,_⟩:=hso;exact⟨_,e1⟩
         |bld t u l=>obtain⟨_,_,e1,_⟩:=hso;exact⟨_,e1⟩
         |tailp I n x=>obtain⟨_,_,e1,_⟩:=hso;exact⟨_,e1⟩
       have hlen1:as1.length<=fn.ntmps:=by have:=hvl.1;rw[this,xr,h3.size];exact wj _
       have hi1:=fE (n:=fn.ntmps) h3.pubok (h3.tabsC hLs) hvl hlen1 hslots hdom1 hinj1 hpin
       have hi2:=hi1.retmp' (T:=aE (bk 0 as1)) (a':={tmps:=a1.tmps,defers:=[{target:=.fn (.func g) (R.caps.toArray.map a1.eval),args:=#[]}]}) (n:=fn.ntmps) (ds:=[{target:=.fn (.func g) (R.caps.toArray.map a1.eval),args:=#[]}])
        (fun i=>by
         have:=hi1.tmps i;have e0:(a1.tmps.toList.toArray++Array.replicate (fn.ntmps-a1.tmps.toList.toArray.size) undef)=a1.tmps:=by have hz:a1.tmps.size=fn.ntmps:=h3.size;apply wQ;simp[hz]
         rw[e0]at this;exact this) h3.size rfl
       have hi3:=hi2.pure (dst:=some R.t5) (val:=.undef) (v:=.func (.func g) #[] (R.caps.toArray.map a1.eval)) (.undef _) (fun d e=>by cases e;exact hk5)
       have hi4:=hi3.weak (s':=St.abs ⟨fb (bk 0 as1) R.t5 .undef,S1⟩) (fun i=>by
        simp only[St.abs,cU,aZ];by_cases e5:R.t5=i
        ·left;simp[e5]
        ·right;simp[e5]) rfl
       have hact:(({tmps:=a1.tmps,defers:=[{target:=.fn (.func g) (R.caps.toArray.map a1.eval),args:=#[]}]}:Act).put (some R.t5) (.func (.func g) #[] (R.caps.toArray.map a1.eval)))=
         ({(a1.put (some R.t5) (.func (.func g) #[] (R.caps.toArray.map a1.eval)))with defers:={target:=.fn (.func g) (R.caps.toArray.map a1.eval),args:=#[]}::(a1.put (some R.t5) (.func (.func g) #[] (R.caps.toArray.map a1.eval))).defers}:Act).put none undef:=by
        simp[Act.put,hdef0]
       show Code.wp P R.rest _ (({(a1.put (some R.t5) (.func (.func g) #[] (R.caps.toArray.map a1.eval)))with defers:={target:=.fn (.func g) (R.caps.toArray.map a1.eval),args:=#[]}::(a1.put (some R.t5) (.func (.func g) #[] (R.caps.toArray.map a1.eval))).defers}:Act).put none undef) E1.w;rw[<-hact];refine xG (gH hm hT hS _ ann R.rest _ _ _ ⟨bj L E1.e,E1.w,E1.pub⟩ h4 hdr.2 hi4) ?_;intro en a2 w2 hq;obtain⟨z,s2,E2,g1,rfl,g3,g4⟩:=hq;have hcv2:VL E2 caps (R.caps.map a1.eval):=by refine⟨hvc.1,fun j c v hc hv=>?_⟩;exact V.pinned g3.keep (wk.1 hcp c (wq hc)) (hvc.2 j c v hc hv)
       have hcl':caps.length<=clo.ntmps:=by rw[hvc.1,xP];exact hcl
       have hc6':caps.length<=R.t6:=by rw[hvc.1,xP];exact hc6
       have close:∀(u u':FrameMode)(av:AV)(v:Value),u≠.run->settle u'=.returning->Rcv u av E2 v u'->ou C annC clo R caps av s2 (tj C fn.results.toList L s1 S1 S A s2.t)->
         Leaves P fn a2.tmps (fun en w'=>∃pub' e',match en with
          |.returned v=>(∀b pv u,A.pan=some (b,pv,u)->b=false)/\V ⟨e',w',pub'⟩ A.val v/\After w pub e (ae (b5 S A.upd)) w' pub' e'
          |.panicked ch=>∃pv u v,A.pan=some (true,pv,u)/\ch=[{v,recovered:=false}]/\V ⟨e',w',pub'⟩ pv v/\After w pub e (ae (b5 S u)) w' pub' e'
          |.outgrown=>False) [{target:=.fn (.func g) (R.caps.toArray.map a1.eval),args:=#[]}] u E2.w:=by
        intro u u' av v hu hse hrc hcr;refine leaves_cons (f:=g) (args:=(R.caps.map a1.eval).toArray) hu (by simp[invoke,eg]) ?_;refine(pP hm hT hS hRc hg hcb hk2 hres hcl' hc6' g3 hcv2 hrc hcr).mono ?_;rintro en u2 w3 ⟨rfl,rfl,s3,E3,a3,T3,rfl,hfin,h5⟩;simp only[hse,Leaves];obtain⟨v,r1,pub',e',r2,r3,r4⟩:=rO hT h3 hdist hS1 hkS g3 h5 hpan hfin;exact⟨v,r1,pub',e',r2,r3,r4⟩
       have hds:a2.defers=[{target:=.fn (.func g) (R.caps.toArray.map a1.eval),args:=#[]}]:=g3.defers
       cases z with
       |normal=>cases g1;show Leaves P fn a2.tmps _ a2.defers .returning E2.w;rw[hds];exact close .returning .returning .nilif .nilIface (by simp) rfl (.ret E2) g4
       |ret=>cases g1;show Leaves P fn a2.tmps _ a2.defers .returning E2.w;rw[hds];exact close .returning .returning .nilif .nilIface (by simp) rfl (.ret E2) g4
       |exit id=>exact g4.elim
       |pan pv=>obtain⟨v,rfl,hv⟩:=g1;show Leaves P fn a2.tmps _ a2.defers (.panicking [{v,recovered:=false}]) E2.w;rw[hds];exact close _ (.panicking [{v,recovered:=true}]) pv v (by simp) (by simp[settle]) (.pan E2 pv v hv) g4
      ·exact h4.elim
     ·exact h4.elim
 ·exact h.elim
end
end Go.AL
end
section
open Go Go.AL Go.Pd
namespace Go.AL.Seat
theorem uA(c:Int)(hc:0<=c/\c<=400) :
  inR IntKind.i64 (c+(1:Int))/\if decide ((400:Int)<c+(1:Int))=true then decide ((400:Int)<c+(1:Int))=true/\c+(1:Int)=c+(1:Int)/\True else decide ((400:Int)<c+(1:Int))=false/\c+(1:Int)=c+(1:Int)/\True:=by
 refine⟨fF (by omega) (by omega),aC (fun h=>?_) (fun h=>?_)⟩
 ·exact⟨h,rfl,trivial⟩
 ·exact⟨by simpa using h,rfl,trivial⟩
theorem uB(n:Nat)(s:Shape)(l c:Int)(hs:Wf (.st .shape) s)(hn:sz s<=n+1)(hc:0<=c/\c<=400/\1<=l/\l<=c+1) :
  ((0:Int)<=c/\c<=(400:Int))/\if decide ((400:Int)<c+(1:Int))=true then decide ((400:Int)<c+(↑(sz s):Int))=true/\c+(1:Int)=(401:Int)/\True else(∃(x:Nat×Int),(x.1<=List.length s.parts/\c+(1:Int)+(↑(szL (List.take x.1 s.parts)):Int)<=(400:Int)/\deepL (List.drop x.1 s.parts) (l+(1:Int)) x.2=deepS s l)/\l=x.2/\(0:Int)=(↑x.1:Int)/\s=s/\l=l/\(0:Int)=(0:Int)/\s.parts=s.parts/\(↑(List.length s.parts):Int)=(↑(List.length s.parts):Int)/\c+(1:Int)=c+(1:Int)+(↑(szL (List.take x.1 s.parts)):Int)/\s=s/\True)/\∀(x:Nat×Int),x.1<=List.length s.parts/\c+(1:Int)+(↑(szL (List.take x.1 s.parts)):Int)<=(400:Int)/\deepL (List.drop x.1 s.parts) (l+(1:Int)) x.2=deepS s l->if decide ((↑x.1:Int)<(↑(List.length s.parts):Int))=true then((0:Int)<=(↑x.1:Int)/\(↑x.1:Int)<(↑(List.length s.parts):Int))/\inR IntKind.i64 (l+(1:Int))/\(sz (List.getD s.parts (Int.toNat (↑x.1:Int)) (dfl (Ty.st SN.shape)))<=n/\(0:Int)<=c+(1:Int)+(↑(szL (List.take x.1 s.parts)):Int)/\c+(1:Int)+(↑(szL (List.take x.1 s.parts)):Int)<=(400:Int)/\(1:Int)<=l+(1:Int)/\l+(1:Int)<=c+(1:Int)+(↑(szL (List.take x.1 s.parts)):Int)+(1:Int))/\if decide ((400:Int)<c+(1:Int)+(↑(szL (List.take x.1 s.parts)):Int)+(↑(sz (List.getD s.parts (Int.toNat (↑x.1:Int)) (dfl (Ty.st SN.shape)))):Int))=true then decide ((400:Int)<c+(↑(sz s):Int))=true/\(401:Int)=(401:Int)/\True else inR IntKind.i64 ((↑x.1:Int)+(1:Int))/\∃(y:Nat×Int),(y.1<=List.length s.parts/\c+(1:Int)+(↑(szL (List.take y.1 s.parts)):Int)<=(400:Int)/\deepL (List.drop y.1 s.parts) (l+(1:Int)) y.2=deepS s l)/\List.length s.parts-y.1<List.length s.parts-x.1/\max x.2 (deepS (List.getD s.parts (Int.toNat (↑x.1:Int)) (dfl (Ty.st SN.shape))) (l+(1:Int)))=y.2/\(↑x.1:Int)+(1:Int)=(↑y.1:Int)/\s=s/\l=l/\(0:Int)=(0:Int)/\s.parts=s.parts/\(↑(List.length s.parts):Int)=(↑(List.length s.parts):Int)/\c+(1:Int)+(↑(szL (List.take x.1 s.parts)):Int)+(↑(sz (List.getD s.parts (Int.toNat (↑x.1:Int)) (dfl (Ty.st SN.shape)))):Int)=c+(1:Int)+(↑(szL (List.take y.1 s.parts)):Int)/\s=s/\True else decide ((400:Int)<c+(↑(sz s):Int))=false/\x.2=deepS s l/\c+(1:Int)+(↑(szL (List.take x.1 s.parts)):Int)=c+(↑(sz s):Int)/\True:=by
 have ln:=hs.parts.len;have hz:=qB s;refine⟨⟨hc.1,hc.2.1⟩,aC (fun h=>?_) (fun h=>?_)⟩
 ·replace h:=Xo h;have:=nf s;exact⟨Xd (by omega),by omega,trivial⟩
 replace h:¬(400:Int)<c+1:=fun e=>h (Xd e);have hd0:deepL s.parts (l+1) l=deepS s l:=by cases s;rfl
 refine⟨⟨(0,l),⟨wP _,by simp[szL];omega,by simpa using hd0⟩,rfl,rfl,rfl,rfl,rfl,rfl,rfl,by simp[szL],rfl,trivial⟩,?_⟩;rintro⟨k,d⟩ ⟨h1,h2,h3⟩;simp only[xT]at h1 h2 h3⊢;have hc0:(0:Int)<=(szL (s.parts.take k):Int):=by omega
 apply aC<;>intro hk
 ·replace hk:=Xo hk;have hk:k<s.parts.length:=by omega
  have hs1:=gV s.parts k (dfl (.st .shape)) hk;have hm:=nc (gq s.parts k (dfl (.st .shape)) hk);rw[bV s.parts k (dfl (.st .shape)) hk]at h3;simp only[deepL]at h3;have ht:=od s.parts (k+1);refine⟨by omega,fF (by omega) (by omega),⟨by omega,by omega,h2,by omega,by omega⟩,aC (fun h=>?_) (fun h=>?_)⟩
  ·replace h:=Xo h;exact⟨Xd (by omega),by trivial,by trivial⟩
  ·replace h:=fun e=>h (Xd e);replace h:¬(400:Int)<c+1+(szL (s.parts.take k):Int)+(sz (s.parts.getD k (dfl (.st .shape))):Int):=h;exact⟨gI hk ln,(k+1,_),⟨by omega,by simp only;omega,h3⟩,by simp only;omega,rfl,by simp only;omega,by trivial,by trivial,by trivial,by trivial,by trivial,by simp only;omega,by trivial,by trivial⟩
 ·replace hk:¬((k:Int)<(s.parts.length:Int)):=fun e=>hk (Xd e);have e:k=s.parts.length:=by omega
  subst e;rw[List.take_length]at h2⊢;rw[xk]at h3;exact⟨Xf (by omega),h3,by omega,trivial⟩
theorem tm(s:Shape)(hs:Wf (.st .shape) s) :
  (sz s<=sz s/\(0:Int)<=(0:Int)/\(0:Int)<=(400:Int)/\(1:Int)<=(1:Int)/\(1:Int)<=(0:Int)+(1:Int))/\if decide ((400:Int)<(0:Int)+(↑(sz s):Int))=true then((401:Int)=if sz s<=(400:Nat)then(↑(sz s):Int)else(401:Int))/\((0:Int)=if sz s<=(400:Nat)then deepS s (1:Int)else(0:Int))/\false=decide (sz s<=(400:Nat))/\True else((0:Int)+(↑(sz s):Int)=if sz s<=(400:Nat)then(↑(sz s):Int)else(401:Int))/\(deepS s (1:Int)=if sz s<=(400:Nat)then deepS s (1:Int)else(0:Int))/\true=decide (sz s<=(400:Nat))/\True:=by
 refine⟨by simp,aC (fun h=>?_) (fun h=>?_)⟩
 ·replace h:=Xo h;have h':¬sz s<=400:=by omega
  rw[w5 h',w5 h'];exact⟨rfl,rfl,by simp[h'],trivial⟩
 ·replace h:¬(400:Int)<0+(sz s:Int):=fun e=>h (Xd e);have h':sz s<=400:=by omega
  rw[wh h',wh h'];exact⟨by omega,by trivial,by simp[h'],trivial⟩
end Go.AL.Seat
end
section
namespace Go.Pd
open Go.AL
mutual
def sizeF:Shape->Int->Int
 |⟨_,_,_,_,ps⟩,m=>sizeL ps 1 m
def sizeL:List Shape->Int->Int->Int
 |[],n,_=>n
 |p::r,n,m=>if n<=m then sizeL r (n+sizeF p (m-n)) m else n
end
mutual
theorem sizeF_bd:∀(s:Shape)(m:Int),0<=m->1<=sizeF s m/\sizeF s m<=m+1
 |⟨_,_,_,_,ps⟩,m,h=>by simp only[sizeF];exact sizeL_bd ps 1 m (by omega) (by omega)
theorem sizeL_bd:∀(l:List Shape)(n m:Int),1<=n->n<=m+1->1<=sizeL l n m/\sizeL l n m<=m+1
 |[],n,m,h1,h2=>by simp only[sizeL];omega
 |p::r,n,m,h1,h2=>by
  simp only[sizeL];split
  ·have:=sizeF_bd p (m-n) (by omega);exact sizeL_bd r _ m (by omega) (by omega)
  ·omega
end
end Go.Pd
end
section
namespace Go.Pd
open Go.AL
def p0(A:Ans):Pat
 |[],[]=>some A
 |_,_=>none
theorem tn[Tabs]{P:Program}{f:Nat}{A:Ans}(he:aM P f)(h:aO P f [] [] A):aD P f (p0 A):=by
 intro args S A' hA _ _;unfold p0 at hA;split at hA
 ·simp only[Xs]at hA;subst hA;exact⟨he,h⟩
 ·cases hA
end Go.Pd
end
section
namespace Go.Pd
open Go.AL
mutual
theorem eqS_refl:∀a:Shape,eqS a a=true
 |⟨k,p,n,ns,ps⟩=>by simp[eqS,eqL_refl ps]
theorem eqL_refl:∀a:List Shape,eqL a a=true
 |[]=>rfl
 |a::r=>by simp[eqL,eqS_refl a,eqL_refl r]
end
end Go.Pd
end
section
namespace Go.Pd
open Go.AL
def jA:List Bndg->Bool
 |[]=>true
 |b::r=>if 800<sizeF b.shape 800 then false else jA r
def dw(l:List Bndg):Bool:=if 60<(l.length:Int)then false else jA l
def gr(e:Envt):Bool:=dw e.types&&dw e.values&&dw e.own
theorem ow{l:List Bndg}(h:dw l=true):l.length<=60:=by
 unfold dw at h;split at h
 ·cases h
 ·omega
def eqB(x y:Bndg):Bool:=decide (x.pkg=y.pkg)&&decide (x.name=y.name)&&eqS x.shape y.shape
def eA:List Bndg->List Bndg->Bool
 |x::r,y::s=>if eqB x y=true then eA r s else false
 |_,_=>true
def bO(l m:List Bndg):Bool:=if l.length=m.length then eA l m else false
theorem tp{x y:Bndg}(h:¬x.pkg=y.pkg):eqB x y=false:=by unfold eqB;rw[Xf h];rfl
theorem tq{x y:Bndg}(h:¬x.name=y.name):eqB x y=false:=by unfold eqB;rw[Xf h,Bool.and_false];rfl
theorem tt{x y:Bndg}(h:eqS x.shape y.shape=false):eqB x y=false:=by unfold eqB;rw[h,Bool.and_false]
theorem uC{x y:Bndg}(h1:x.pkg=y.pkg)(h2:x.name=y.name)(h3:eqS x.shape y.shape=true):eqB x y=true:=by unfold eqB;rw[Xd h1,Xd h2,h3];rfl
theorem tu(x:Bndg):eqB x x=true:=by unfold eqB;rw[Xd rfl,Xd rfl,eqS_refl];rfl
theorem jB:∀l:List Bndg,eA l l=true
 |[]=>rfl
 |x::r=>by rw[eA,wh (tu x),jB r]
theorem fH(l:List Bndg):bO l l=true:=by rw[bO,wh rfl,jB]
def gY(env:Envt)(b:List Bndg):Envt:=⟨env.self,env.types,env.values++b,env.own⟩
def szB:List Bndg->Nat
 |[]=>0
 |b::r=>sz b.shape+szB r
theorem pQ:∀(l:List Bndg),∀x∈l,sz x.shape<=szB l
 |[],x,h=>by cases h
 |b::r,x,h=>by
  rcases wC.1 h with rfl|h
  ·rw[szB];omega
  ·have:=pQ r x h;rw[szB];omega
end Go.Pd
end
section
open Go Go.AL Go.Pd
namespace Go.AL.Seat
theorem rP(l:List Bndg)(hl:Wf (.lst (.st .bind)) l)(ho:l.length *120<=140737488355328) :
  ∀(b:Bool),(b=true->l=[])->if b=true then True/\l=[]/\List.length l=(0:Nat)/\True else(List.length ([]:List Bndg)=List.length ([]:List Bndg)/\(List.length ([]:List Bndg)+List.length l) *(120:Nat)<=(140737488355328:Nat))/\True/\[]++l=l/\List.length ([]++l)=List.length l/\True:=by
 intro b hb;apply aC<;>intro h
 ·have:=hb h;exact⟨trivial,this,by rw[this];rfl,trivial⟩
 ·exact⟨⟨rfl,by simp only[xg];omega⟩,trivial,rfl,rfl,trivial⟩
end Go.AL.Seat
end
section
open Go Go.AL Go.Proofs Go.Shelf Go.Pd
namespace Go.AL.Seat
open Go.Proofs.Tryz
variable [Tabs]
def nn:Nat->Bool:=fun _=>false
def cf(k:Nat->Bool)(l:Nat->List (Option Nat))(p r m:Nat->Bool)(s:Nat->List AV->List (Nat×SObj)->Option Ans):Cfg:=⟨tbl,s,k,l,p,r,m⟩
def a0:An:=⟨[],[],[]⟩
theorem g1(k:Nat->Bool)(l:Nat->List (Option Nat))(p r m:Nat->Bool){s:Nat->List AV->List (Nat×SObj)->Option Ans}(hS:aX prog s)(a:An){f:Nat}{fn:Func}(hf:Tryz.prog.funcs[f]?=some fn)
 {args:List AV}{S:List (Nat×SObj)}{A:Ans}{Q:Prop}(q:Q)(h:fwp (cf k l p r m s) a fn args S A=Q:=by kernel_rfl):aO prog f args S A:=sL (C:=cf k l p r m s) mixed jy hS hf q h
theorem g0{s:Nat->List AV->List (Nat×SObj)->Option Ans}(hS:aX prog s)(a:An){f:Nat}{fn:Func}(hf:Tryz.prog.funcs[f]?=some fn)
 {args:List AV}{S:List (Nat×SObj)}{A:Ans}{Q:Prop}(q:Q)(h:fwp (cf nn (fun _=>[]) nn nn nn s) a fn args S A=Q:=by kernel_rfl):aO prog f args S A:=sL (C:=cf nn (fun _=>[]) nn nn nn s) mixed jy hS hf q h
theorem sc{f:Nat}{g:Pat}{l:List (Nat×Pat)}(h:aD prog f g)(hl:aX prog (er l)):aX prog (er ((f,g)::l)):=kT h hl
theorem sn:aX prog (er []):=mb
theorem ee{f:Nat}{fn:Func}(h:Tryz.prog.funcs[f]?=some fn)(e:(fn.body.isNone || (fn.name == "runtime.NumGoroutine"))=false:=by kernel_rfl):aM prog f:=aM.mk' h e
theorem tv:aD prog 108 (ng 126):=
 pJ (ee func108) fun c hc=>g0 sn a0 func108 (uA c hc)
theorem qD:aM prog 107:=ee func107
theorem pR(n:Nat)(s:AL.Shape)(l c:Int)(hs:Wf (.st .shape) s)(hn:sz s<=n+1)(hc:0<=c/\c<=400/\1<=l/\l<=c+1)(hA:aD prog 107 (jU 126 108 n)):aO prog 107 [.st .shape s,.int .i64 l,.fn 108 [.ptr 900 0]] [(900,.box (.int .i64 c))] (sS 126 s l c (sz s<=n+1)):=
 g0 (sc tv (sc (hA) sn)) ⟨[(4,fun S0=>⟨Nat×Int,fun x=>x.1<=s.parts.length/\c+1+(szL (s.parts.take x.1):Int)<=400/\deepL (s.parts.drop x.1) (l+1) x.2=deepS s l,fun x=>[(7,.int .i64 x.2),(16,.int .i64 x.1)],fun x=>[(900,.box (.int .i64 (c+1+(szL (s.parts.take x.1):Int))))],fun x=>s.parts.length-x.1⟩)],[],[]⟩ func107 (uB n s l c hs hn hc)
theorem tw:∀n:Nat,aD prog 107 (jU 126 108 n):=by
 intro n
 induction n with
 |zero=>exact kZ qD fun s l c hs hn hc=>absurd hn (by have:=nf s;omega)
 |succ n ih=>exact kZ qD fun s l c hs hn hc=>pR n s l c hs hn hc ih
theorem ox(s:AL.Shape)(hs:Wf (.st .shape) s) :aO prog 59 [.st .shape s] [] (.ret (.tup [.int .i64 (if sz s<=400 then(sz s:Int)else 401),.int .i64 (if sz s<=400 then deepS s 1 else 0),.bool (decide (sz s<=400))])):=
 fwpR_sound (C:=⟨tbl,_,fun _=>false,fun _=>[],fun _=>false,fun _=>false,fun _=>false⟩) (ann:=⟨[],[],[]⟩) (annC:=⟨[],[],[]⟩) mixed jy (kT (tw (sz s)) (mb)) func59 func106 (enters_of func106 (by kernel_rfl) rfl) (@Eq.mpr _ _ (by kernel_rfl) (tm s hs))
theorem rQ:aD prog 59 (p1 (.st .shape) fun s=>.ret (.tup [.int .i64 (if sz s<=400 then(sz s:Int)else 401),.int .i64 (if sz s<=400 then deepS s 1 else 0),.bool (decide (sz s<=400))])):=
 kU (ee func59) fun s hs _=>ox s hs
theorem lg:aD prog 34 (p1 (.lst (.st .bind)) fun l=>⟨some (l.length *120<=140737488355328),none,.lst (.st .bind) l (some 5),[(5,.tail (.st .bind) l.length)]⟩):=
 kU (ee func34) fun l hl ho=>g0 sn a0 func34 (rP l hl (ho _ rfl))
end Go.AL.Seat
end
section
open Go Go.AL Go.Pd
namespace Go.AL.Seat
theorem uD(n:Nat)(s:Shape)(m:Int)(hs:Wf (.st .shape) s)(ho:sz s<=n+1/\0<=m/\m<=1000000) :
  (∃(x:Nat×Int),(x.1<=List.length s.parts/\(1:Int)<=x.2/\x.2<=m+(1:Int)/\sizeL (List.drop x.1 s.parts) x.2 m=sizeF s m)/\(1:Int)=x.2/\(0:Int)=(↑x.1:Int)/\s=s/\m=m/\(0:Int)=(0:Int)/\s=s/\True)/\∀(x:Nat×Int),x.1<=List.length s.parts/\(1:Int)<=x.2/\x.2<=m+(1:Int)/\sizeL (List.drop x.1 s.parts) x.2 m=sizeF s m->if decide ((↑x.1:Int)<(↑(List.length s.parts):Int))=true then if decide (x.2<=m)=true then((0:Int)<=(↑x.1:Int)/\(↑x.1:Int)<(↑(List.length s.parts):Int))/\inR IntKind.i64 (m-x.2)/\(sz (List.getD s.parts (Int.toNat (↑x.1:Int)) (dfl (Ty.st SN.shape)))<=n/\(0:Int)<=m-x.2/\m-x.2<=(1000000:Int))/\inR IntKind.i64 (x.2+sizeF (List.getD s.parts (Int.toNat (↑x.1:Int)) (dfl (Ty.st SN.shape))) (m-x.2))/\inR IntKind.i64 ((↑x.1:Int)+(1:Int))/\∃(y:Nat×Int),(y.1<=List.length s.parts/\(1:Int)<=y.2/\y.2<=m+(1:Int)/\sizeL (List.drop y.1 s.parts) y.2 m=sizeF s m)/\List.length s.parts-y.1<List.length s.parts-x.1/\x.2+sizeF (List.getD s.parts (Int.toNat (↑x.1:Int)) (dfl (Ty.st SN.shape))) (m-x.2)=y.2/\(↑x.1:Int)+(1:Int)=(↑y.1:Int)/\s=s/\m=m/\(0:Int)=(0:Int)/\s=s/\True else True/\x.2=sizeF s m/\True else True/\x.2=sizeF s m/\True:=by
 have ln:=hs.parts.len;have hz:=qB s;obtain⟨ho1,ho2,ho3⟩:=ho;have h0:sizeL s.parts 1 m=sizeF s m:=by cases s;rfl
 simp only[xT,eq_self,xz,xh];refine⟨⟨(0,1),⟨wP _,by omega,by omega,h0⟩,rfl,rfl⟩,?_⟩;rintro⟨k,c⟩ ⟨h1,h2,h3,h4⟩;simp only at h1 h2 h3 h4⊢;apply aC<;>intro hk
 ·replace hk:=Xo hk;have hk:k<s.parts.length:=by omega
  have hm:=nc (gq s.parts k (dfl (.st .shape)) hk);rw[bV s.parts k (dfl (.st .shape)) hk]at h4;simp only[sizeL]at h4;apply aC<;>intro hc
  ·replace hc:=Xo hc;rw[wh hc]at h4;have hb:=sizeF_bd (s.parts.getD k (dfl (.st .shape))) (m-c) (by omega);exact⟨by omega,fF (by omega) (by omega),by omega,fF (by omega) (by omega),gI hk ln,(k+1,_),⟨by omega,by simp only;omega,by simp only;omega,h4⟩,by simp only;omega,rfl,rfl⟩
  ·rw[w5 (fun e=>hc (Xd e))]at h4;exact h4
 ·replace hk:¬((k:Int)<(s.parts.length:Int)):=fun e=>hk (Xd e);have e:k=s.parts.length:=by omega
  subst e;rw[xk]at h4;exact h4
theorem rR(n:Nat)(a b:Shape)(ha:Wf (.st .shape) a)(hb:Wf (.st .shape) b)(hn:sz a<=n+1) :
  if(!decide (a.kind=b.kind))=true then True/\false=eqS a b/\True else if(!decide (a.pkg=b.pkg))=true then True/\false=eqS a b/\True else if(!decide (a.name=b.name))=true then True/\false=eqS a b/\True else if(!decide ((↑(List.length a.names):Int)=(↑(List.length b.names):Int)))=true then True/\false=eqS a b/\True else if(!decide ((↑(List.length a.parts):Int)=(↑(List.length b.parts):Int)))=true then True/\false=eqS a b/\True else(∃(x:Nat),(x<=List.length a.names/\List.length a.names=List.length b.names/\List.length a.parts=List.length b.parts/\eqS a b=(decide (List.drop x a.names=List.drop x b.names)&&eqL a.parts b.parts))/\(0:Int)=(↑x:Int)/\a=a/\b=b/\false=false/\a=a/\b=b/\True)/\∀(x:Nat),x<=List.length a.names/\List.length a.names=List.length b.names/\List.length a.parts=List.length b.parts/\eqS a b=(decide (List.drop x a.names=List.drop x b.names)&&eqL a.parts b.parts)->if decide ((↑x:Int)<(↑(List.length a.names):Int))=true then((0:Int)<=(↑x:Int)/\(↑x:Int)<(↑(List.length a.names):Int))/\((0:Int)<=(↑x:Int)/\(↑x:Int)<(↑(List.length b.names):Int))/\if(!decide (List.getD a.names (Int.toNat (↑x:Int)) (dfl Ty.str)=List.getD b.names (Int.toNat (↑x:Int)) (dfl Ty.str)))=true then True/\false=eqS a b/\True else inR IntKind.i64 ((↑x:Int)+(1:Int))/\∃(y:Nat),(y<=List.length a.names/\List.length a.names=List.length b.names/\List.length a.parts=List.length b.parts/\eqS a b=(decide (List.drop y a.names=List.drop y b.names)&&eqL a.parts b.parts))/\List.length a.names-y<List.length a.names-x/\(↑x:Int)+(1:Int)=(↑y:Int)/\a=a/\b=b/\false=false/\a=a/\b=b/\True else(∃(x_1:Nat),(x_1<=List.length a.parts/\List.length a.parts=List.length b.parts/\eqS a b=eqL (List.drop x_1 a.parts) (List.drop x_1 b.parts))/\(0:Int)=(↑x_1:Int)/\(↑x:Int)=(↑x:Int)/\a=a/\b=b/\false=false/\false=false/\a=a/\b=b/\True)/\∀(x_1:Nat),x_1<=List.length a.parts/\List.length a.parts=List.length b.parts/\eqS a b=eqL (List.drop x_1 a.parts) (List.drop x_1 b.parts)->if decide ((↑x_1:Int)<(↑(List.length a.parts):Int))=true then((0:Int)<=(↑x_1:Int)/\(↑x_1:Int)<(↑(List.length a.parts):Int))/\((0:Int)<=(↑x_1:Int)/\(↑x_1:Int)<(↑(List.length b.parts):Int))/\sz (List.getD a.parts (Int.toNat (↑x_1:Int)) (dfl (Ty.st SN.shape)))<=n/\if(!eqS (List.getD a.parts (Int.toNat (↑x_1:Int)) (dfl (Ty.st SN.shape))) (List.getD b.parts (Int.toNat (↑x_1:Int)) (dfl (Ty.st SN.shape))))=true then True/\false=eqS a b/\True else inR IntKind.i64 ((↑x_1:Int)+(1:Int))/\∃(y:Nat),(y<=List.length a.parts/\List.length a.parts=List.length b.parts/\eqS a b=eqL (List.drop y a.parts) (List.drop y b.parts))/\List.length a.parts-y<List.length a.parts-x_1/\(↑x_1:Int)+(1:Int)=(↑y:Int)/\(↑x:Int)=(↑x:Int)/\a=a/\b=b/\false=false/\false=false/\a=a/\b=b/\True else True/\true=eqS a b/\True:=by
 have lna:=ha.names.len;have lpa:=ha.parts.len;have hz:=qB a;have he:eqS a b=(decide (a.kind=b.kind)&&decide (a.pkg=b.pkg)&&decide (a.name=b.name)&&decide (a.names=b.names)&&eqL a.parts b.parts):=by cases a;cases b;rfl
 simp only[xT,eq_self,xz,xh];refine aC (fun h=>?_) (fun h1=>aC (fun h=>?_) (fun h2=>aC (fun h=>?_) (fun h3=>aC (fun h=>?_) (fun h4=>aC (fun h=>?_) (fun h5=>?_)))))
 ·rw[he];simp only[wc]at h;rw[h];simp
 ·rw[he];simp only[wc]at h;rw[h];simp
 ·rw[he];simp only[wc]at h;rw[h];simp
 ·have:¬a.names=b.names:=by intro e;rw[e]at h;simp at h
  rw[he];simp[this]
 ·have:a.parts.length≠b.parts.length:=by intro e;rw[e]at h;simp at h
  rw[he,qC this];simp
 have l4:a.names.length=b.names.length:=by simp at h4;omega
 have l5:a.parts.length=b.parts.length:=by simp at h5;omega
 have he':eqS a b=(decide (a.names=b.names)&&eqL a.parts b.parts):=by rw[he];simp only[Bool.not_eq_true,Bool.not_eq_false']at h1 h2 h3;rw[h1,h2,h3];simp
 refine⟨⟨0,⟨wP _,l4,l5,by simpa using he'⟩,rfl⟩,?_⟩;rintro k ⟨k1,_,_,k4⟩;apply aC<;>intro h
 ·replace h:=Xo h;have hk:k<a.names.length:=by omega
  have hk':k<b.names.length:=by omega
  rw[bV a.names k (dfl .str) hk,bV b.names k (dfl .str) hk']at k4;refine⟨by omega,by omega,aC (fun c=>?_) (fun c=>?_)⟩
  ·have c':¬a.names.getD k (dfl .str)=b.names.getD k (dfl .str):=by simpa using c
   rw[k4];have:¬(a.names.getD k (dfl .str)::a.names.drop (k+1)=b.names.getD k (dfl .str)::b.names.drop (k+1)):=fun e=>c' (List.cons.inj e).1;simp only[this,yS,Bool.false_and]
  ·have c':a.names.getD k (dfl .str)=b.names.getD k (dfl .str):=by simpa using c
   refine⟨gI hk lna,k+1,⟨by omega,l4,l5,?_⟩,by omega,by omega⟩;rw[k4,c'];congr 1;rw[decide_eq_decide];simp
 ·replace h:¬((k:Int)<(a.names.length:Int)):=fun e=>h (Xd e);have e:k=a.names.length:=by omega
  subst e;have k4':eqS a b=eqL a.parts b.parts:=by rw[k4,xk,l4,xk];simp
  refine⟨⟨0,⟨wP _,l5,by simpa using k4'⟩,rfl⟩,?_⟩;rintro j ⟨j1,_,j3⟩;apply aC<;>intro h
  ·replace h:=Xo h;have hj:j<a.parts.length:=by omega
   have hj':j<b.parts.length:=by omega
   have hm:=nc (gq a.parts j (dfl (.st .shape)) hj);rw[bV a.parts j (dfl (.st .shape)) hj,bV b.parts j (dfl (.st .shape)) hj']at j3;simp only[eqL]at j3;refine⟨by omega,by omega,by omega,aC (fun c=>?_) (fun c=>?_)⟩
   ·have c':eqS (a.parts.getD j (dfl (.st .shape))) (b.parts.getD j (dfl (.st .shape)))=false:=by simpa using c
    rw[j3,c'];rfl
   ·have c':eqS (a.parts.getD j (dfl (.st .shape))) (b.parts.getD j (dfl (.st .shape)))=true:=by simpa using c
    rw[c',Bool.true_and]at j3;exact⟨gI hj lpa,j+1,⟨by omega,l5,j3⟩,by omega,by omega⟩
  ·replace h:¬((j:Int)<(a.parts.length:Int)):=fun e=>h (Xd e);have e:j=a.parts.length:=by omega
   subst e;rw[j3,xk,l5,xk];rfl
theorem rS(l:List Bndg)(N:Nat)(hl:Wf (.lst (.st .bind)) l)(hN:∀x∈l,sz x.shape<=N) :
  if decide ((60:Int)<(↑(List.length l):Int))=true then True/\false=dw l/\True else(∃(x:Nat),(x<=List.length l/\jA (List.drop x l)=dw l)/\(0:Int)=(↑x:Int)/\l=l/\false=false/\True)/\∀(x:Nat),x<=List.length l/\jA (List.drop x l)=dw l->if decide ((↑x:Int)<(↑(List.length l):Int))=true then((0:Int)<=(↑x:Int)/\(↑x:Int)<(↑(List.length l):Int))/\(sz (List.getD l (Int.toNat (↑x:Int)) (dfl (Ty.st SN.bind))).shape<=N/\(0:Int)<=(800:Int)/\(800:Int)<=(1000000:Int))/\if decide ((800:Int)<sizeF (List.getD l (Int.toNat (↑x:Int)) (dfl (Ty.st SN.bind))).shape (800:Int))=true then True/\false=dw l/\True else inR IntKind.i64 ((↑x:Int)+(1:Int))/\∃(y:Nat),(y<=List.length l/\jA (List.drop y l)=dw l)/\List.length l-y<List.length l-x/\(↑x:Int)+(1:Int)=(↑y:Int)/\l=l/\false=false/\True else True/\true=dw l/\True:=by
 have ln:=hl.len;simp only[xT,eq_self,xz,xh];apply aC<;>intro h
 ·unfold dw;rw[wh (Xo h)]
 have h:¬(60:Int)<(l.length:Int):=fun e=>h (Xd e);have hF:dw l=jA l:=by unfold dw;rw[w5 h]
 refine⟨⟨0,⟨wP _,by rw[xI,hF]⟩,rfl⟩,?_⟩;rintro k ⟨h1,h2⟩;apply aC<;>intro hk
 ·replace hk:=Xo hk;have hk:k<l.length:=by omega
  have hm:=hN _ (gq l k (dfl (.st .bind)) hk);rw[bV l k (dfl (.st .bind)) hk,jA]at h2;refine⟨by omega,⟨hm,by omega,by omega⟩,aC (fun hc=>?_) (fun hc=>?_)⟩
  ·rw[wh (Xo hc)]at h2;exact h2
  ·rw[w5 (fun e=>hc (Xd e))]at h2;exact⟨gI hk ln,k+1,⟨by omega,h2⟩,by omega,by omega⟩
 ·have e:k=l.length:=by have:¬((k:Int)<(l.length:Int)):=fun e=>hk (Xd e);omega
  subst e;rw[xk]at h2;exact h2
theorem pS(e:Envt)(he:Wf (.st .env) e) :
  if dw e.types=true then if dw e.values=true then True/\dw e.own=gr e/\True else True/\false=gr e/\True else True/\false=gr e/\True:=by
 unfold gr;cases dw e.types<;>cases dw e.values<;>cases dw e.own<;>simp
theorem uE(e:Envt)(l:List Bndg)(he:Wf (.st .env) e)(hl:Wf (.lst (.st .bind)) l)(ho:e.values.length<=1000/\l.length<=1000) :
  List.length e.values *(120:Nat)<=(140737488355328:Nat)/\(List.length e.values=List.length e.values/\(List.length e.values+List.length l) *(120:Nat)<=(140737488355328:Nat))/\True/\e.self=(gY e l).self/\e.types=(gY e l).types/\e.values++l=e.values++l/\e.own=(gY e l).own/\True:=by
 obtain⟨h1,h2⟩:=ho;exact⟨by omega,⟨rfl,by omega⟩,trivial,rfl,rfl,rfl,rfl,trivial⟩
theorem rT(a b:List Bndg)(N:Nat)(ha:Wf (.lst (.st .bind)) a)(hb:Wf (.lst (.st .bind)) b)(hN:∀x∈a,sz x.shape<=N) :
  if(!decide ((↑(List.length a):Int)=(↑(List.length b):Int)))=true then True/\false=bO a b/\True else(∃(x:Nat),(x<=List.length a/\eA (List.drop x a) (List.drop x b)=bO a b)/\(0:Int)=(↑x:Int)/\a=a/\b=b/\false=false/\True)/\∀(x:Nat),x<=List.length a/\eA (List.drop x a) (List.drop x b)=bO a b->if decide ((↑x:Int)<(↑(List.length a):Int))=true then((0:Int)<=(↑x:Int)/\(↑x:Int)<(↑(List.length a):Int))/\((0:Int)<=(↑x:Int)/\(↑x:Int)<(↑(List.length b):Int))/\if(!decide ((List.getD a (Int.toNat (↑x:Int)) (dfl (Ty.st SN.bind))).pkg=(List.getD b (Int.toNat (↑x:Int)) (dfl (Ty.st SN.bind))).pkg))=true then True/\false=bO a b/\True else((0:Int)<=(↑x:Int)/\(↑x:Int)<(↑(List.length a):Int))/\((0:Int)<=(↑x:Int)/\(↑x:Int)<(↑(List.length b):Int))/\if(!decide ((List.getD a (Int.toNat (↑x:Int)) (dfl (Ty.st SN.bind))).name=(List.getD b (Int.toNat (↑x:Int)) (dfl (Ty.st SN.bind))).name))=true then True/\false=bO a b/\True else((0:Int)<=(↑x:Int)/\(↑x:Int)<(↑(List.length a):Int))/\((0:Int)<=(↑x:Int)/\(↑x:Int)<(↑(List.length b):Int))/\sz (List.getD a (Int.toNat (↑x:Int)) (dfl (Ty.st SN.bind))).shape<=N/\if(!eqS (List.getD a (Int.toNat (↑x:Int)) (dfl (Ty.st SN.bind))).shape (List.getD b (Int.toNat (↑x:Int)) (dfl (Ty.st SN.bind))).shape)=true then True/\false=bO a b/\True else inR IntKind.i64 ((↑x:Int)+(1:Int))/\∃(y:Nat),(y<=List.length a/\eA (List.drop y a) (List.drop y b)=bO a b)/\List.length a-y<List.length a-x/\(↑x:Int)+(1:Int)=(↑y:Int)/\a=a/\b=b/\false=false/\True else True/\true=bO a b/\True:=by
 have la:=ha.len;simp only[xT,eq_self,xz,xh];apply aC<;>intro h
 ·have h:¬a.length=b.length:=fun e=>by rw[e]at h;simp at h
  unfold bO;rw[w5 h]
 have h:a.length=b.length:=by simp only[wc,wF,Bool.not_eq_false',Bool.not_eq_true,Decidable.not_not]at h;omega
 have hF:bO a b=eA a b:=by unfold bO;rw[wh h]
 refine⟨⟨0,⟨wP _,by rw[xI,xI,hF]⟩,rfl⟩,?_⟩;rintro k ⟨h1,h2⟩;apply aC<;>intro hk
 ·replace hk:=Xo hk;have hk:k<a.length:=by omega
  have hm:=hN _ (gq a k (dfl (.st .bind)) hk);rw[bV a k (dfl (.st .bind)) hk,bV b k (dfl (.st .bind)) (by omega),eA]at h2;have no:eqB (a.getD k (dfl (.st .bind))) (b.getD k (dfl (.st .bind)))=false->false=bO a b:=fun e=>by rw[w5 (by rw[e];decide)]at h2;exact h2
  have nd:∀{p:Prop} [Decidable p],(!decide p)=true->¬p:=fun{p} _ h=>by simpa using h
  have nn:∀{p:Prop} [Decidable p],¬(!decide p)=true->p:=fun{p} _ h=>by simpa using h
  refine⟨by omega,by omega,aC (fun c=>no (tp (nd c))) (fun c=>?_)⟩;refine⟨by omega,by omega,aC (fun d=>no (tq (nd d))) (fun d=>?_)⟩;refine⟨by omega,by omega,hm,aC (fun f=>no (tt (by rw[wc]at f;exact f))) (fun f=>?_)⟩;have yes:=uC (nn c) (nn d) (by rw[wc,Bool.not_eq_false]at f;exact f);rw[wh yes]at h2;exact⟨gI hk la,k+1,⟨by omega,h2⟩,by omega,by omega⟩
 ·have e:k=a.length:=by have:¬((k:Int)<(a.length:Int)):=fun e=>hk (Xd e);omega
  subst e;rw[xk,h,xk]at h2;exact h2
theorem jJ(bL:List Bndg)(e:Envt)(l:List Bndg)(he:Wf (.st .env) e)(hl:Wf (.lst (.st .bind)) l) :
  if(!gr e)=true then True/\true=true/\True else if(!dw l)=true then True/\true=true/\True else(List.length e.values<=(1000:Nat)/\List.length l<=(1000:Nat))/\(List.length ([]:List Bndg)=List.length ([]:List Bndg)/\(List.length ([]:List Bndg)+List.length e.values) *(120:Nat)<=(140737488355328:Nat))/\(List.length (([]:List Bndg)++e.values)=List.length (([]:List Bndg)++e.values)/\(List.length (([]:List Bndg)++e.values)+List.length l) *(120:Nat)<=(140737488355328:Nat))/\if bO bL bL=true then if bO (e.values++l) (([]:List Bndg)++e.values++l)=true then if bO (gY e l).types e.types=true then if bO (gY e l).own e.own=true then if decide ((gY e l).self=e.self)=true then True/\true=true/\True else True/\false=true/\True else True/\false=true/\True else True/\false=true/\True else True/\false=true/\True else True/\false=true/\True:=by
 refine aC (fun _=>Xr) (fun h=>aC (fun _=>Xr) (fun h2=>?_));have h:gr e=true:=by simpa using h
 have h2:dw l=true:=by simpa using h2
 unfold gr at h;simp only[vW]at h;have l1:=ow h.1.2;have l2:=ow h2;have e1:bO (gY e l).types e.types=true:=fH _;have e2:bO (gY e l).own e.own=true:=fH _;have e3:bO (e.values++l) (([]:List Bndg)++e.values++l)=true:=fH _;have e4:decide ((gY e l).self=e.self)=true:=Xd rfl;rw[wh (fH bL),wh e3,wh e1,wh e2,wh e4];refine⟨⟨by omega,by omega⟩,⟨rfl,?_⟩,⟨rfl,?_⟩,trivial,rfl,trivial⟩
 ·simp only[xg];omega
 ·simp only[wZ];omega
end Go.AL.Seat
end
section
open Go Go.AL Go.Proofs Go.Shelf Go.Pd
namespace Go.AL.Seat
open Go.Proofs.Tryz
variable [Tabs]
theorem qE:aM prog 33:=ee func33
theorem pT(n:Nat)(s:AL.Shape)(m:Int)(hs:Wf (.st .shape) s)(ho:sz s<=n+1/\0<=m/\m<=1000000)(hA:aD prog 33 (p2 (.st .shape) (.int .i64) fun s m=>⟨some (sz s<=n/\0<=m/\m<=1000000),none,.int .i64 (sizeF s m),[]⟩)):aO prog 33 [.st .shape s,.int .i64 m] [] (.ret (.int .i64 (sizeF s m))):=
 g0 (sc (hA) sn) ⟨[(3,fun S0=>⟨Nat×Int,fun x=>x.1<=s.parts.length/\1<=x.2/\x.2<=m+1/\sizeL (s.parts.drop x.1) x.2 m=sizeF s m,fun x=>[(5,.int .i64 x.2),(6,.int .i64 x.1)],fun _=>[],fun x=>s.parts.length-x.1⟩)],[],[]⟩ func33 (uD n s m hs ho)
theorem tx:∀n:Nat,aD prog 33 (p2 (.st .shape) (.int .i64) fun s m=>⟨some (sz s<=n/\0<=m/\m<=1000000),none,.int .i64 (sizeF s m),[]⟩):=by
 intro n
 induction n with
 |zero=>exact gp qE fun a m _ _ ho=>absurd (ho _ rfl).1 (by have:=nf a;omega)
 |succ n ih=>exact gp qE fun a m ha _ ho=>pT n a m ha (ho _ rfl) ih
theorem mg:aM prog 14:=ee func14
theorem nj(n:Nat)(a b:Shape)(ha:Wf (.st .shape) a)(hb:Wf (.st .shape) b)(hn:sz a<=n+1)(hA:aD prog 14 (p2 (.st .shape) (.st .shape) fun a b=>⟨some (sz a<=n),none,.bool (eqS a b),[]⟩)):aO prog 14 [.st .shape a,.st .shape b] [] (.ret (.bool (eqS a b))):=
 g0 (sc (hA) sn) ⟨[(4,fun S0=>⟨Nat,fun k=>k<=a.names.length/\a.names.length=b.names.length/\a.parts.length=b.parts.length/\eqS a b=(decide (a.names.drop k=b.names.drop k)&&eqL a.parts b.parts),fun k=>[(5,.int .i64 k)],fun _=>[],fun k=>a.names.length-k⟩),(9,fun S0=>⟨Nat,fun k=>k<=a.parts.length/\a.parts.length=b.parts.length/\eqS a b=eqL (a.parts.drop k) (b.parts.drop k),fun k=>[(6,.int .i64 k)],fun _=>[],fun k=>a.parts.length-k⟩)],[],[]⟩ func14 (rR n a b ha hb hn)
theorem pU:∀n:Nat,aD prog 14 (p2 (.st .shape) (.st .shape) fun a b=>⟨some (sz a<=n),none,.bool (eqS a b),[]⟩):=by
 intro n
 induction n with
 |zero=>exact gp mg fun a b _ _ ho=>absurd (ho _ rfl) (by have:=nf a;omega)
 |succ n ih=>exact gp mg fun a b ha hb ho=>nj n a b ha hb (ho _ rfl) ih
theorem nk(l:List Bndg)(N:Nat)(hl:Wf (.lst (.st .bind)) l)(hN:∀x∈l,sz x.shape<=N) :aO prog 15 [.lst (.st .bind) l none] [] (.ret (.bool (dw l))):=
 g0 (sc (tx N) sn) ⟨[(4,fun S0=>⟨Nat,fun k=>k<=l.length/\jA (l.drop k)=dw l,fun k=>[(3,.int .i64 k)],fun _=>[],fun k=>l.length-k⟩)],[],[]⟩ func15 (rS l N hl hN)
theorem lh:aD prog 15 (p1 (.lst (.st .bind)) fun l=>.ret (.bool (dw l))):=
 kU (ee func15) fun l hl _=>nk l (szB l) hl (pQ l)
theorem oy:aD prog 9 (p1 (.st .env) fun e=>.ret (.bool (gr e))):=
 kU (ee func9) fun e he _=>g0 (sc lh sn) a0 func9 (pS e he)
theorem tz:aD prog 16 (p2 (.st .env) (.lst (.st .bind)) fun e l=>⟨some (e.values.length<=1000/\l.length<=1000),none,.st .env (gY e l),[]⟩):=
 gp (ee func16) fun e l he hl ho=>g0 (sc lg sn) a0 func16 (uE e l he hl (ho _ rfl))
theorem nq(a b:List Bndg)(N:Nat)(ha:Wf (.lst (.st .bind)) a)(hb:Wf (.lst (.st .bind)) b)(hN:∀x∈a,sz x.shape<=N) :aO prog 17 [.lst (.st .bind) a none,.lst (.st .bind) b none] [] (.ret (.bool (bO a b))):=
 g0 (sc (pU N) sn) ⟨[(4,fun S0=>⟨Nat,fun k=>k<=a.length/\eA (a.drop k) (b.drop k)=bO a b,fun k=>[(5,.int .i64 k)],fun _=>[],fun k=>a.length-k⟩)],[],[]⟩ func17 (rT a b N ha hb hN)
theorem pV:aD prog 17 (p2 (.lst (.st .bind)) (.lst (.st .bind)) fun a b=>.ret (.bool (bO a b))):=
 gp (ee func17) fun a b ha hb _=>nq a b (szB a) ha hb (pQ a)
theorem ig(bL:List Bndg)(e:Envt)(l:List Bndg)(he:Wf (.st .env) e)(hl:Wf (.lst (.st .bind)) l)(hB:aD prog 18 (p0 (.ret (.lst (.st .bind) bL none))))(hR:aD prog 19 (p0 (.ret (.lst (.st .bind) bL none))))(hA:aD prog 11 (p0 (.ret (.bool true)))):aO prog 4 [.st .env e,.lst (.st .bind) l none] [] (.ret (.bool true)):=
 g0 (sc oy (sc lh (sc (hA) (sc tz (sc (hB) (sc (hR) (sc pV sn))))))) a0 func4 (jJ bL e l he hl)
end Go.AL.Seat
end
noncomputable section
namespace Go.AL
def evN{Y:Type}(n:Nat)(k:Nat->Y):Y:=match n with|0=>k 0|m+1=>k (m+1)
def evI{Y:Type}(n:Int)(k:Int->Y):Y:=match n with|.ofNat m=>evN m fun m=>k (.ofNat m)|.negSucc m=>evN m fun m=>k (.negSucc m)
def evL{Y β:Type}:List β->(List β->Y)->Y
 |[],k=>k []
 |a::r,k=>evL r fun r=>k (a::r)
theorem eB{Y:Type}(n:Nat)(k:Nat->Y):evN n k=k n:=by cases n<;>rfl
theorem tA{Y:Type}(n:Int)(k:Int->Y):evI n k=k n:=by cases n<;>(unfold evI;exact eB _ _)
theorem cY{Y β:Type}:∀(l:List β)(k:List β->Y),evL l k=k l
 |[],_=>rfl
 |a::r,k=>by rw[evL,cY r]
mutual
def evV{Y:Type}:AV->(AV->Y)->Y
 |.int U n,k=>evI n fun n=>k (.int U n)
 |.bool true,k=>k (.bool true)
 |.bool false,k=>k (.bool false)
 |.str s,k=>evL s fun s=>k (.str s)
 |.lst I xs none,k=>evL xs fun xs=>k (.lst I xs none)
 |.lst I xs (some i),k=>evL xs fun xs=>k (.lst I xs (some i))
 |.row I xs,k=>evL xs fun xs=>k (.row I xs)
 |.arr i n w,k=>evN n fun n=>k (.arr i n w)
 |.aptr i n w o,k=>evN n fun n=>evN o fun o=>k (.aptr i n w o)
 |.cptr c,k=>evV c fun c=>k (.cptr c)
 |.agg cs,k=>evVs cs fun cs=>k (.agg cs)
 |.tup cs,k=>evVs cs fun cs=>k (.tup cs)
 |.fn f cs,k=>evVs cs fun cs=>k (.fn f cs)
 |.iface t a,k=>evV a fun a=>k (.iface t a)
 |.lstp I xs i,k=>evL xs fun xs=>k (.lstp I xs i)
 |.undef,k=>k .undef
 |.nils,k=>k .nils
 |.ptr i o,k=>k (.ptr i o)
 |.nilp,k=>k .nilp
 |.st n x,k=>k (.st n x)
 |.map i,k=>k (.map i)
 |.bptr i,k=>k (.bptr i)
 |.nilif,k=>k .nilif
 |.nilm,k=>k .nilm
 |.pt n x,k=>k (.pt n x)
 |.tptr I n i,k=>k (.tptr I n i)
def evVs{Y:Type}:List AV->(List AV->Y)->Y
 |[],k=>k []
 |a::r,k=>evV a fun a=>evVs r fun r=>k (a::r)
end
mutual
theorem evV_eq{Y:Type}:∀(a:AV)(k:AV->Y),evV a k=k a
 |.int U n,k=>by rw[evV,tA]
 |.bool true,k=>rfl
 |.bool false,k=>rfl
 |.str s,k=>by rw[evV,cY]
 |.lst I xs none,k=>by rw[evV,cY]
 |.lst I xs (some i),k=>by rw[evV,cY]
 |.row I xs,k=>by rw[evV,cY]
 |.arr i n w,k=>by rw[evV,eB]
 |.aptr i n w o,k=>by rw[evV,eB,eB]
 |.cptr c,k=>by rw[evV,evV_eq c]
 |.agg cs,k=>by rw[evV,evVs_eq cs]
 |.tup cs,k=>by rw[evV,evVs_eq cs]
 |.fn f cs,k=>by rw[evV,evVs_eq cs]
 |.iface t a,k=>by rw[evV,evV_eq a]
 |.lstp I xs i,k=>by rw[evV,cY]
 |.undef,k=>rfl
 |.nils,k=>rfl
 |.ptr _ _,k=>rfl
 |.nilp,k=>rfl
 |.st _ _,k=>rfl
 |.map _,k=>rfl
 |.bptr _,k=>rfl
 |.nilif,k=>rfl
 |.nilm,k=>rfl
 |.pt _ _,k=>rfl
 |.tptr _ _ _,k=>rfl
theorem evVs_eq{Y:Type}:∀(l:List AV)(k:List AV->Y),evVs l k=k l
 |[],k=>rfl
 |a::r,k=>by rw[evVs,evV_eq a,evVs_eq r]
end
def evA{Y:Type}(a:AV)(k:AV->Y):Y:=
 match a with
 |.int U n=>evI n fun n=>k (.int U n)
 |.bool b=>(match b with|true=>k (.bool true)|false=>k (.bool false))
 |.str s=>evL s fun s=>k (.str s)
 |.lst I xs o=>evL xs fun xs=>(match o with|none=>k (.lst I xs none)|some i=>k (.lst I xs (some i)))
 |.row I xs=>evL xs fun xs=>k (.row I xs)
 |.arr i n w=>evN n fun n=>k (.arr i n w)
 |.aptr i n w o=>evN n fun n=>evN o fun o=>k (.aptr i n w o)
 |.ptr i o=>evN o fun o=>k (.ptr i o)
 |.cptr c=>evV c fun c=>k (.cptr c)
 |.agg cs=>evVs cs fun cs=>k (.agg cs)
 |.tup cs=>evVs cs fun cs=>k (.tup cs)
 |.fn f cs=>evVs cs fun cs=>k (.fn f cs)
 |.iface t a=>evV a fun a=>k (.iface t a)
 |.lstp I xs i=>evL xs fun xs=>k (.lstp I xs i)
 |a=>k a
theorem vp{Y:Type}(a:AV)(k:AV->Y):evA a k=k a:=by
 unfold evA;split
 ·exact tA _ _
 ·split<;>rfl
 ·exact cY _ _
 ·rw[cY];split<;>rfl
 ·exact cY _ _
 ·exact eB _ _
 ·rw[eB,eB]
 ·exact eB _ _
 ·exact evV_eq _ _
 ·exact evVs_eq _ _
 ·exact evVs_eq _ _
 ·exact evVs_eq _ _
 ·exact evV_eq _ _
 ·exact cY _ _
 ·rfl
def evO{Y:Type}:SObj->(SObj->Y)->Y
 |.box c,k=>evV c fun c=>k (.box c)
 |.tail I n,k=>evN n fun n=>k (.tail I n)
 |.map U I m,k=>evL m fun m=>k (.map U I m)
 |.bld t u l,k=>evL l fun l=>k (.bld t u l)
 |.tailp I n x,k=>evN n fun n=>k (.tailp I n x)
theorem vq{Y:Type}(o:SObj)(k:SObj->Y):evO o k=k o:=by
 cases o with|box c=>exact evV_eq _ _|tail I n=>unfold evO;exact eB _ _|map U I m=>exact cY _ _|bld t u l=>exact cY _ _|tailp I n x=>unfold evO;exact eB _ _
def evB{Y:Type}:List (Nat×SObj)->(List (Nat×SObj)->Y)->Y
 |[],k=>k []
 |(i,o)::r,k=>evO o fun o=>evB r fun r=>k ((i,o)::r)
theorem nr{Y:Type}:∀(l:List (Nat×SObj))(k:List (Nat×SObj)->Y),evB l k=k l
 |[],k=>rfl
 |(i,o)::r,k=>by rw[evB,vq,nr r]
def evS{Y:Type}(s:St)(k:St->Y):Y:=evL s.t fun t=>evB s.b fun b=>k ⟨t,b⟩
theorem tB{Y:Type}(s:St)(k:St->Y):evS s k=k s:=by rw[evS,cY,nr]
theorem rU{ob:Option DP}{q:Prop}(h:okO ob=true)(hq:q):lO ob q:=by
 cases ob with|none=>exact hq|some d=>exact⟨d.h h,hq⟩
def qF{Y:Sort _}(ops:List Oper)(o:Oper)(T:Nat->AV)(bad:Y)(on off:Unit->Y):Y:=
 match o.guard with
 |none=>on ()
 |some (j,want)=>
  match(nth ops j).bind (·.dst)with
  |none=>bad
  |some d=>
   match T d with
   |.bool true=>if want then on ()else off ()
   |.bool false=>if want then off ()else on ()
   |.tup []=>off ()
   |_=>bad
theorem pW{Y:Type}{ops:List Oper}{o:Oper}{T:Nat->AV}{y:Y}{on off:Unit->Option Y}{on' off':Unit->Prop}(hon:on ()=some y->on' ())(hoff:off ()=some y->off' ())
 (h:qF ops o T none on off=some y):qF ops o T False on' off':=by
 unfold qF at h⊢
 cases hg:o.guard with
 |none=>simp only[hg]at h⊢;exact hon h
 |some p=>
  obtain⟨j,want⟩:=p;simp only[hg]at h⊢
  cases hd:(nth ops j).bind (·.dst)with
  |none=>simp only[hd]at h;cases h
  |some d=>
   simp only[hd]at h⊢;generalize T d=v at h⊢;split at h
   ·split at h
    ·rename_i hw;exact(wh hw).symm ▸ hon h
    ·rename_i hw;exact(w5 hw).symm ▸ hoff h
   ·split at h
    ·rename_i hw;exact(wh hw).symm ▸ hoff h
    ·rename_i hw;exact(w5 hw).symm ▸ hon h
   ·exact hoff h
   ·cases h
def gdB(ops:List Oper)(g:Bool)(i:Nat):Bool:=match g with|true=>da ops i|false=>false
def tC(ops:List Oper):Bool:=ops.any fun o=>o.guard.isSome
theorem vr(ops:List Oper)(i:Nat):gdB ops (tC ops) i=da ops i:=by
 unfold gdB
 cases h:tC ops with
 |true=>rfl
 |false=>
  show false=da ops i;symm;unfold tC at h;rw[List.any_eq_false]at h;unfold da;rw[List.any_eq_false];intro o ho;have:=h o ho
  cases hg:o.guard with|none=>simp|some x=>rw[hg]at this;exact absurd rfl this
def oz(C:Cfg)(ops:List Oper)(g:Bool):List Oper->Nat->St->List bw->Option (St×List bw)
 |[],_,s,fs=>some (s,fs.reverse)
 |o::r,i,s,fs=>
  qF ops o (aE s.t) none
   (fun _=>
    match ah C o (aE s.t) (ae s.b)with
    |none=>none
    |some e=>
     match okO e.ob,bA C o (aE s.t) (ae s.b)with
     |true,none=>
      (match gdB ops g i,e.val with
      |true,.bool b=>(match b with
       |true=>oz C ops g r (i+1) ⟨jG s.t o.dst (.bool true),b5 s.b e.upd⟩ ((au C o (aE s.t) (ae s.b),e.upd.map (·.1))::fs)
       |false=>oz C ops g r (i+1) ⟨jG s.t o.dst (.bool false),b5 s.b e.upd⟩ ((au C o (aE s.t) (ae s.b),e.upd.map (·.1))::fs))
      |true,_=>none
      |false,v=>evA v fun v=>oz C ops g r (i+1) ⟨jG s.t o.dst v,b5 s.b e.upd⟩ ((au C o (aE s.t) (ae s.b),e.upd.map (·.1))::fs))
     |_,_=>none)
   (fun _=>oz C ops g r (i+1) ⟨jG s.t o.dst (.tup []),s.b⟩ (([],[])::fs))
theorem qG{C:Cfg}{ops:List Oper}{draw:Bool}{kp:AV->St->Prop}{k:St->List bw->Prop}{s':St}{fs':List bw}(hk:k s' fs') :
  ∀(l:List Oper)(i:Nat)(s:St)(fs:List bw),oz C ops (tC ops) l i s fs=some (s',fs')->aU C ops draw kp l i s fs k
 |[],_,s,fs,h=>by simp only[oz,Xs,yq]at h;obtain⟨rfl,rfl⟩:=h;exact hk
 |o::r,i,s,fs,h=>by
  have ih:=qG (C:=C) (ops:=ops) (draw:=draw) (kp:=kp) hk r;rw[oz,vr]at h
  refine pW (on':=fun _=>
   match ah C o (aE s.t) (ae s.b)with
   |none=>False
   |some e=>
    lO e.ob
    (match bA C o (aE s.t) (ae s.b)with
    |none=>
     (match da ops i,e.val with
     |true,.bool b=>
      sp b (aU C ops draw kp r (i+1) (s.put o.dst {e with val:=.bool true}) ((au C o (aE s.t) (ae s.b),e.upd.map (·.1))::fs) k)
       (aU C ops draw kp r (i+1) (s.put o.dst {e with val:=.bool false}) ((au C o (aE s.t) (ae s.b),e.upd.map (·.1))::fs) k)
     |true,_=>False
     |false,_=>aU C ops draw kp r (i+1) (s.put o.dst e) ((au C o (aE s.t) (ae s.b),e.upd.map (·.1))::fs) k)
    |some (b,pv,u)=>
     (match draw||da ops i with
     |true=>False
     |false=>sp b (kp pv ⟨s.t,b5 s.b u⟩) (aU C ops draw kp r (i+1) (s.put o.dst e) ((au C o (aE s.t) (ae s.b),e.upd.map (·.1))::fs) k))))
   (off':=fun _=>aU C ops draw kp r (i+1) ⟨jG s.t o.dst (.tup []),s.b⟩ (([],[])::fs) k) ?_ (fun h=>ih _ _ _ h) h
  intro h;split at h
  ·cases h
  ·rename_i e he;split at h
   ·rename_i ho hp;refine rU ho ?_
    try simp only[hp]
    split at h
    ·rename_i b hg hv
     try simp only[hg,hv]
     split at h
     ·exact ih _ _ _ h
     ·exact ih _ _ _ h
    ·cases h
    ·rename_i v hg;simp only[vp]at h
     try simp only[hg]
     exact ih _ _ _ h
   ·cases h
def uF(ops:List Oper)(i j:Nat):Bool:=((mB ops).getD j 0).testBit i
def gZ:Nat->List bw->List (Nat×bw)
 |_,[]=>[]
 |i,f::r=>match f with|([],[])=>gZ (i+1) r|f=>(i,f)::gZ (i+1) r
def jc(ops:List Oper):List (Nat×bw)->Bool
 |[]=>true
 | x::r=>r.all (fun p=>uF ops x.1 p.1||dS x.2 p.2)&&jc ops r
def qH(ops:List Oper):Bool:=
 ((List.range ops.length).all fun j=>(List.range j).all fun i=>uF ops i j||(match nth ops i,nth ops j with | some x,some y=>ke ops x y | _,_=>false))&&
 (ops.zipIdx.all fun(o,j)=>o.after.all fun e=>!Region.binds .any e||Nat.blt e.on j)
def pX(ops:List Oper)(fs:List bw):Bool:=qH ops&&cA fs ops.length&&jc ops (gZ 0 fs)
theorem lj{Y:Type}:∀{l:List Y} {i:Nat},i<l.length->∃x,nth l i=some x
 |a::_,0,_=>⟨a,rfl⟩
 |_::r,i+1,h=>lj (l:=r) (Nat.lt_of_succ_lt_succ h)
theorem mh:∀{fs:List bw} {i0 k:Nat} {f:bw},nth fs k=some f->f≠([],[])->(i0+k,f)∈gZ i0 fs
 |g::r,i0,0,f,h,hf=>by
  cases h;unfold gZ;split
  ·exact absurd rfl hf
  ·exact wK ..
 |g::r,i0,k+1,f,h,hf=>by
  have ih:=mh (fs:=r) (i0:=i0+1) (k:=k) h hf;rw[show i0+(k+1)=i0+1+k by omega];unfold gZ;split
  ·exact ih
  ·exact wa _ ih
theorem jC{ops:List Oper}:∀{fs:List bw} {i0 a b:Nat} {f g:bw},jc ops (gZ i0 fs)=true->a<b->nth fs a=some f->nth fs b=some g->f≠([],[])->g≠([],[])->(uF ops (i0+a) (i0+b)||dS f g)=true
 |x::r,i0,0,b+1,f,g,h,_,hf,hg,h1,h2=>by
  cases hf;have hm:=mh (fs:=r) (i0:=i0+1) (k:=b) hg h2;unfold gZ at h;split at h
  ·exact absurd rfl h1
  ·unfold jc at h;rw[vW,wk]at h;have:=h.1 _ hm
   rwa [show i0+1+b=i0+(b+1) by omega]at this
 |x::r,i0,a+1,b+1,f,g,h,hab,hf,hg,h1,h2=>by
  have hr:jc ops (gZ (i0+1) r)=true:=by
   unfold gZ at h;split at h
   ·exact h
   ·unfold jc at h;rw[vW]at h;exact h.2
  have:=jC (fs:=r) (i0:=i0+1) (a:=a) (b:=b) hr (by omega) hf hg h1 h2
  rwa [show i0+1+a=i0+(a+1) by omega,show i0+1+b=i0+(b+1) by omega]at this
theorem pY(g:bw):dS ([],[]) g=true:=by unfold dS nC;simp
theorem oA(f:bw):dS f ([],[])=true:=by unfold dS nC;simp
theorem iH{Y:Type}:∀{l:List Y} {n:Nat},cA l n=true->l.length=n
 |[],0,_=>rfl
 |_::r,n+1,h=>by rw[wo,iH (l:=r) h]
theorem rV{ops:List Oper}{fs:List bw}(h:pX ops fs=true):bZ ops fs=true:=by
 unfold pX qH at h;simp only[vW,wk,xw]at h;obtain⟨⟨⟨h1,h2⟩,h3⟩,h4⟩:=h;have hl:=iH h3;unfold bZ;rw[vW];refine⟨?_,by rw[wk];intro p hp;have:=h2 p hp;exact(by obtain⟨o,j⟩:=p;simpa using this)⟩;rw[wk];intro j hj;rw[wk];intro i hi;rw[xw]at hj hi;have k:=h1 j hj i hi;rw[xa]at k⊢;rcases k with k|k
 ·exact .inl k
 obtain⟨x,hx⟩:=lj (l:=ops) (i:=i) (by omega);obtain⟨y,hy⟩:=lj (l:=ops) (i:=j) hj;obtain⟨f,hf⟩:=lj (l:=fs) (i:=i) (by omega);obtain⟨g,hg⟩:=lj (l:=fs) (i:=j) (by omega);rw[hx,hy]at k;rw[hx,hy,hf,hg]
 have q:uF ops i j=true∨dS f g=true:=by
  by_cases c1:f=([],[])
  ·rw[c1];exact .inr (pY g)
  ·by_cases c2:g=([],[])
   ·rw[c2];exact .inr (oA f)
   ·have:=jC h4 hi hf hg c1 c2;rw[xf,xf,xa]at this;exact this
 rcases q with q|q
 ·exact .inl q
 ·exact .inr (by rw[vW];exact⟨k,q⟩)
end Go.AL
end
noncomputable section
namespace Go.AL
def bH(i j k:Nat):Nat:=match Nat.beq k i with|true=>j|false=>(match Nat.beq k j with|true=>i|false=>k)
theorem gu(i j k:Nat):bH i j k=if k=i then j else if k=j then i else k:=by
 unfold bH;by_cases h:k=i
 ·rw[wh h,h,Nat.beq_refl]
 ·have h':Nat.beq k i=false:=by
   cases hb:Nat.beq k i with|false=>rfl|true=>exact absurd (wm hb) h
  rw[w5 h,h'];by_cases g:k=j
  ·rw[wh g,g,Nat.beq_refl]
  ·have g':Nat.beq k j=false:=by
    cases hb:Nat.beq k j with|false=>rfl|true=>exact absurd (wm hb) g
   rw[w5 g,g']
theorem cq(i j k:Nat):bH i j (bH i j k)=k:=by
 rw[gu i j k];split
 ·rename_i h;rw[gu];split<;>simp_all
 ·rename_i h;split
  ·rename_i g;rw[gu];simp_all
  ·rename_i g;rw[gu,w5 h,w5 g]
def tD(i j:Nat)(a:AV):Option AV:=mapV (fun k o=>some (bH i j k,o)) (fun k=>some (bH i j k)) (fun k=>some (bH i j k)) a
def rW(i j:Nat):List (Nat×AV)->List (Nat×AV)
 |[]=>[]
 |(k,a)::r=>(k,match tD i j a with|some a=>a|none=>.undef)::rW i j r
def lL(i j:Nat):List (Nat×SObj)->Option (List (Nat×SObj))
 |[]=>some []
 |(k,.box c)::r=>(match tD i j c,lL i j r with|some c,some r=>some ((bH i j k,.box c)::r)|_,_=>none)
 |(k,o)::r=>(match lL i j r with|some r=>some ((bH i j k,o)::r)|none=>none)
def vt(i j:Nat)(s:St):Option St:=
 match !aP i&&!aP j with
 |true=>(match lL i j s.b with|some b=>some ⟨rW i j s.t,b⟩|none=>none)
 |false=>none
variable [Tabs]
theorem oB(i j:Nat):∀(l:List (Nat×AV))(k:Nat),aE (rW i j l) k=.undef∨tD i j (aE l k)=some (aE (rW i j l) k)
 |[],k=>.inl rfl
 |(m,a)::r,k=>by
  simp only[rW,bD,bl];by_cases h:(m ==k)=true
  ·rw[wh h,wh h]
   cases hr:tD i j a with|none=>exact .inl rfl|some a'=>exact .inr rfl
  ·rw[w5 h,w5 h];exact oB i j r k
inductive RenO(i j:Nat):SObj->SObj->Prop
 |box {c c':AV}:tD i j c=some c'->RenO i j (.box c) (.box c')
 |same {o:SObj}:(∀c,o≠.box c)->RenO i j o o
theorem lk(i j:Nat):∀{l m:List (Nat×SObj)},lL i j l=some m->∀k,(∀o',ae m k=some o'->∃o,ae l (bH i j k)=some o/\RenO i j o o')/\(ae m k=none->ae l (bH i j k)=none)
 |[],m,h,k=>by cases h;exact⟨fun o' q=>(by cases q),fun _=>rfl⟩
 |(n,o)::r,m,h,k=>by
  have step:∀{o1:SObj} {r':List (Nat×SObj)},lL i j r=some r'->RenO i j o o1->m=(bH i j n,o1)::r'->
    (∀o',ae m k=some o'->∃o2,ae ((n,o)::r) (bH i j k)=some o2/\RenO i j o2 o')/\(ae m k=none->ae ((n,o)::r) (bH i j k)=none):=by
   rintro o1 r' hr ho rfl;obtain⟨h1,h2⟩:=lk i j hr k;simp only[aw,aq,wG];by_cases e:bH i j n=k
   ·have e':n=bH i j k:=by rw[<-e,cq]
    rw[wh e,wh e'];exact⟨fun o' q=>⟨o,rfl,(by cases q;exact ho)⟩,fun q=>(by cases q)⟩
   ·have e':¬n=bH i j k:=fun q=>e (by rw[q,cq]);rw[w5 e,w5 e'];exact⟨h1,h2⟩
  cases o with
  |box c=>
   simp only[lL]at h;split at h
   ·rename_i c' r' hc hr;exact step hr (.box hc) (wH h).symm
   ·cases h
  |tail I n'=>
   simp only[lL]at h;split at h
   ·rename_i r' hr;exact step hr (.same (fun c q=>by cases q)) (wH h).symm
   ·cases h
  |map U I m'=>
   simp only[lL]at h;split at h
   ·rename_i r' hr;exact step hr (.same (fun c q=>by cases q)) (wH h).symm
   ·cases h
  |bld t u l'=>
   simp only[lL]at h;split at h
   ·rename_i r' hr;exact step hr (.same (fun c q=>by cases q)) (wH h).symm
   ·cases h
  |tailp I n' x=>
   simp only[lL]at h;split at h
   ·rename_i r' hr;exact step hr (.same (fun c q=>by cases q)) (wH h).symm
   ·cases h
theorem pZ{F:Fr}{s s':St}{a:Act}{E:Om}{i j:Nat}(h:Holds F s.abs a E)(hr:vt i j s=some s'):∃E',E'.w=E.w/\Holds F s'.abs a E':=by
 unfold vt at hr;split at hr
 ·rename_i hl;simp only[vW,wc]at hl;obtain⟨hi,hj⟩:=hl;split at hr
  ·rename_i b hb;cases hr
   have hn:Names (fun k o=>some (bH i j k,o)) (fun k=>some (bH i j k)) (fun k=>some (bH i j k)) E.e (fun k=>E.e (bH i j k)):=by
    refine⟨?_,?_,?_⟩
    ·intro k o k' o' q b p l he;cases q;exact⟨p,l,by simp only[cq];exact he,rfl⟩
    ·intro k k' q c he;cases q;simp only[cq];exact he
    ·intro k k' q c he;cases q;simp only[cq];exact he
   refine⟨⟨fun k=>E.e (bH i j k),E.w,E.pub⟩,rfl,fun k=>?_,h.size,h.defers,fun id o ho=>?_,fun id hid=>?_,fun x y cx cy b o hx hy hbx hby=>?_,h.pubok,fun id c hc=>?_,?_⟩
   ·rcases oB i j s.t k with e|e
    ·have e:(St.abs ⟨rW i j s.t,b⟩).T k=.undef:=e;rw[e];exact .undef _
    ·exact V.mapV hn (h.tmps k) e
   ·obtain⟨o0,h1,h2⟩:=(lk i j hb id).1 o ho;have hs:=h.slots (bH i j id) o0 h1
    cases h2 with
    |@box c c' hc=>
     obtain⟨b',off,g1,g2⟩:=hs;obtain⟨hlen,hat⟩:=dY hc;refine⟨b',off,by show E.e (bH i j id)=_;rw[g1,hlen],fun k d' hd=>?_⟩;have hk:k<(a7 c).length:=by rw[hlen];exact(wL.1 hd).1
     obtain⟨d,hd0⟩:∃d,(a7 c)[k]?=some d:=⟨_,vV hk⟩;obtain⟨k1,k2,k3,v,k4,k5⟩:=g2 k d hd0;exact⟨k1,k2,k3,v,k4,V.mapV hn k5 (hat k d d' hd0 hd)⟩
    |same hne=>
     cases o with
     |box c=>exact absurd rfl (hne c)
     |tail I n=>exact hs
     |map U I m=>obtain⟨r,g1,g2,es,clock,g3,g4⟩:=hs;exact⟨r,g1,g2,es,clock,g3,g4.data⟩
     |bld t u l=>exact hs
     |tailp I n x=>obtain⟨b',cap,g1,g2,g3,g4,g5,g6,g7⟩:=hs;refine⟨b',cap,g1,g2,g3,g4,g5,g6,fun k c hc=>?_⟩;obtain⟨v,k1,k2⟩:=g7 k c hc;exact⟨v,k1,V.mapV hn k2 (dX I x c (wq hc))⟩
   ·exact h.dom _ ((lk i j hb id).2 hid)
   ·have:=h.inj _ _ cx cy b o hx hy hbx hby;rw[<-cq i j x,this,cq]
   ·have hd:=F.dom0 id c hc
    have e:bH i j id=id:=by
     rw[gu];split
     ·rename_i e;rw[e,hi]at hd;cases hd
     ·split
      ·rename_i e;rw[e,hj]at hd;cases hd
      ·rfl
    obtain⟨c',g1,g2⟩:=h.keep id c hc;exact⟨c',by simp only[e];exact g1,g2⟩
   ·exact⟨h.frame.os,h.frame.tape,h.frame.output,h.frame.size,h.frame.block,h.frame.cell,h.frame.kind,h.frame.pub,h.frame.old,h.frame.pcell⟩
  ·cases hr
 ·cases hr
def tE:List (Nat×SObj)->Nat->Nat
 |[],m=>m *1000+998
 |(i,_)::r,m=>tE r (match Nat.ble m (i/1000)with|true=>i/1000+1|false=>m)
def nt:List Nat->St->Option St
 |[],s=>some s
 |i::r,s=>(match vt i (tE s.b 100) s with|some s=>nt r s|none=>none)
theorem iI{F:Fr}{a:Act}:∀(l:List Nat) {s s':St} {E:Om},Holds F s.abs a E->nt l s=some s'->∃E',E'.w=E.w/\Holds F s'.abs a E'
 |[],s,s',E,h,hr=>by cases hr;exact⟨E,rfl,h⟩
 |i::r,s,s',E,h,hr=>by
  unfold nt at hr;split at hr
  ·rename_i s1 h1;obtain⟨E1,e1,g1⟩:=pZ h h1;obtain⟨E2,e2,g2⟩:=iI r g1 hr;exact⟨E2,e2.trans e1,g2⟩
  ·cases hr
def q8(ops:List Oper)(s:St):Option St:=
 match enter ops s with
 |some s'=>some s'
 |none=>(match nt ((s.b.map (·.1)).filter fun i=>qn (kg ops) (mC ops) i&&!aP i) s with|some s'=>enter ops s'|none=>none)
theorem nu{F:Fr}{ops:List Oper}{s s':St}{a:Act}{E:Om}(h:Holds F s.abs a E)(he:q8 ops s=some s'):∃E',E'.w=E.w/\Holds F s'.abs a E':=by
 unfold q8 at he;split at he
 ·rename_i s1 h1;cases he;exact gj h h1
 ·split at he
  ·rename_i s1 h1;obtain⟨E1,e1,g1⟩:=iI _ h h1;obtain⟨E2,e2,g2⟩:=gj g1 he;exact⟨E2,e2.trans e1,g2⟩
  ·cases he
end Go.AL
end
noncomputable section
namespace Go.AL
def tF(k:Nat)(s:St):Option St:=
 match ae s.b k with
 |some (.tailp I n x)=>
  if((s.t.flatMap (fun y=>lensV k y.2)++s.b.flatMap (fun y=>uK k y.2)).all fun m=>Nat.beq m n)=true then
   some ⟨s.t.map fun y=>(y.1,finV k I x y.2),(jF s.b k (.tail I (n+1))).map fun y=>(y.1,qR k I x y.2)⟩else none
 |_=>some s
def qI:List Nat->St->Option St
 |[],s=>some s
 |k::r,s=>(match tF k s with|some s=>qI r s|none=>none)
theorem mj{n:Nat}{q:Prop}(hq:q):∀l:List Nat,(l.all fun m=>Nat.beq m n)=true->mD n l q
 |[],_=>hq
 |m::r,h=>by rw[List.all_cons,vW]at h;exact⟨wm h.1,mj hq r h.2⟩
theorem tG{k:Nat}{s s':St}{Q:St->Prop}(h:tF k s=some s')(hq:Q s'):oW k s Q:=by
 unfold tF at h;unfold oW;generalize hb:ae s.b k=b at h⊢
 cases b with
 |none=>cases h;exact hq
 |some o=>
  cases o with
  |tailp I n x=>
   dsimp only at h⊢;split at h
   ·rename_i ha;cases h;exact mj hq _ ha
   ·cases h
  |_=>cases h;exact hq
theorem oC{Q:St->Prop}{s':St}(hq:Q s'):∀(l:List Nat)(s:St),qI l s=some s'->oX l s Q
 |[],s,h=>by cases h;exact hq
 |k::r,s,h=>by
  unfold qI at h;split at h
  ·rename_i s1 h1;exact tG h1 (oC hq r s1 h)
  ·cases h
def trimM(keep:Nat)(s:St):St:=⟨s.t.filter fun x=>Nat.beq (Nat.land (Nat.shiftRight keep x.1) 1) 1,s.b⟩
def vu(C:Cfg)(keep:Nat)(ops:Array Oper)(draw:Bool)(s:St):Option St:=
 match oz C ops.toList (tC ops.toList) ops.toList 0 s []with
 |none=>none
 |some (s,fs)=>
  match qI (jP s.b) s with
  |none=>none
  |some s=>
   match draw with
   |false=>evS (trimM keep s) some
   |true=>(match pX ops.toList fs with|true=>evS (trimM keep s) some|false=>none)
theorem Holds.trimM[Tabs]{F:Fr}{s:St}{a:Act}{E:Om}(h:Holds F s.abs a E)(keep:Nat):Holds F (trimM keep s).abs a E:=by
 refine⟨fun i=>?_,h.size,h.defers,h.slots,h.dom,h.inj,h.pubok,h.keep,h.frame⟩;have e:(AL.trimM keep s).abs.T i=if Nat.beq (Nat.land (Nat.shiftRight keep i) 1) 1=true then aE s.t i else .undef:=eo s.t (fun i=>Nat.beq (Nat.land (Nat.shiftRight keep i) 1) 1) i
 rw[e];split
 ·exact h.tmps i
 ·exact .undef _
theorem q9[Tabs]{P:Program}{C:Cfg}{F:Fr}(hm:P.follows .mixedOrders=true)(hT:aG P C.tbl)(hS:aX P C.spec){keep:Nat}{id:Nat}{ops:Array Oper}{draw:Bool}{s s':St}{a:Act}{E:Om}
 (hdst:∀(o:Oper),o∈ops.toList->∀d,o.dst=some d->d<F.n)(h:vu C keep ops draw s=some s')(hh:Holds F s.abs a E):(Code.region id ops draw).wp P (QL F fun y t=>y=.normal/\t=s') a E.w:=by
 have key:aU C ops.toList draw (fun _ _=>False) ops.toList 0 s [] fun s2 fs=>v8 s2 fun s3=>s'=trimM keep s3/\(draw=true->bZ ops.toList fs=true):=by
  unfold vu at h;split at h
  ·cases h
  ·rename_i s1 fs h1;refine qG ?_ _ _ _ _ h1;split at h
   ·cases h
   ·rename_i s2 h2;refine oC ?_ _ _ h2;split at h
    ·rw[tB]at h;cases h;exact⟨rfl,fun q=>by cases q⟩
    ·split at h
     ·rename_i hi;rw[tB]at h;cases h;exact⟨rfl,fun _=>rV hi⟩
     ·cases h
 refine iB hm hT hS hdst key (fun hdr s2 fs hk=>let ⟨s3,h3⟩:=j7 _ hk;h3.2 hdr) hh (fun s2 fs a' E' hk h'=>
   let ⟨s3,E3,g1,g2,g3⟩:=kS h' hk
   ⟨.normal,trimM keep s3,E3,rfl,g1,g2.trimM keep,rfl,g3.1.symm⟩)
  (fun pv s2 a' E' v hk _ _=>hk.elim)
def qJ(f:St->Option (SX×St)):Nat->St->Option (SX×St)
 |0,_=>none
 |n+1,s=>
  match f s with
  |some (.normal,s')=>qJ f n s'
  |r=>r
def eY(C:Cfg)(keep:Nat)(pubs:List (Nat×List Nat))(N:Nat):Code->St->Option (SX×St)
 |.skip,s=>some (.normal,s)
 |.seq a b,s=>
  (match eY C keep pubs N a s with
  |some (.normal,s')=>eY C keep pubs N b s'
  |r=>r)
 |.cond c a b,s=>
  (match opd (aE s.t) c with
  |.bool true=>eY C keep pubs N a s
  |.bool false=>eY C keep pubs N b s
  |_=>none)
 |.block id c,s=>
  (match eY C keep pubs N c s with
  |some (.exit j,s')=>if j ==id then some (.normal,s')else some (.exit j,s')
  |r=>r)
 |.exit id,s=>some (.exit id,s)
 |.scope c,s=>eY C keep pubs N c s
 |.label _,s=>some (.normal,s)
 |.ret,s=>some (.ret,s)
 |.region id ops draw,s=>
  (match iP (sh pubs id) s with
  |none=>none
  |some s=>
   match q8 ops.toList s with
   |none=>none
   |some s=>
    match vu C keep ops draw s with
    |some s=>some (.normal,s)
    |none=>none)
 |.loop c,s=>qJ (eY C keep pubs N c) N s
 |_,_=>none
variable [Tabs]
variable {P:Program} {C:Cfg} {F:Fr}
theorem qa(hm:P.follows .mixedOrders=true)(hT:aG P C.tbl)(hS:aX P C.spec)(keep:Nat)(pubs:List (Nat×List Nat))(N:Nat) :
  ∀(c:Code)(s:St)(x:SX)(s':St)(a:Act)(E:Om),eY C keep pubs N c s=some (x,s')->aR F.n c=true->Holds F s.abs a E->c.wp P (QL F fun y t=>y=x/\t=s') a E.w:=by
 intro c
 induction c with
 |skip=>intro s x s' a E h _ hh;cases h;exact wp_skip ⟨.normal,s,E,rfl,rfl,hh,rfl,rfl⟩
 |region id ops draw=>
  intro s x s' a E h hd hh;unfold eY at h;split at h
  ·cases h
  ·rename_i s0 h0;obtain⟨E0,e0,g0⟩:=fC _ hh h0;split at h
   ·cases h
   ·rename_i s1 h1;obtain⟨E1,e1,g1⟩:=nu g0 h1;have hdst:∀(o:Oper),o∈ops.toList->∀d,o.dst=some d->d<F.n:=by intro o ho d hod;simp only[aR,wk]at hd;have:=hd o ho;rw[hod]at this;simpa using this
    split at h
    ·rename_i s2 h2;cases h;rw[<-e0,<-e1];exact q9 hm hT hS hdst h2 g1
    ·cases h
 |seq x y ihx ihy=>
  intro s z s' a E h hd hh;simp only[aR,vW]at hd;unfold eY at h
  cases h1:eY C keep pubs N x s with
  |none=>rw[h1]at h;cases h
  |some r=>
   obtain⟨e1,s1⟩:=r;rw[h1]at h;refine yQ (xG (ihx s e1 s1 a E h1 hd.1 hh) ?_);intro e a' w' hq;obtain⟨e2,s2,E',g1,g2,g3,g4,g5⟩:=hq;subst g2 g4 g5
   cases e2 with
   |normal=>cases g1;exact ihy _ z s' a' E' h hd.2 g3
   |exit id=>cases g1;cases h;exact⟨.exit id,_,E',rfl,rfl,g3,rfl,rfl⟩
   |ret=>cases g1;cases h;exact⟨.ret,_,E',rfl,rfl,g3,rfl,rfl⟩
   |pan pv=>obtain⟨v,rfl,hv⟩:=g1;cases h;exact⟨.pan pv,_,E',⟨v,rfl,hv⟩,rfl,g3,rfl,rfl⟩
 |cond c x y ihx ihy=>
  intro s z s' a E h hd hh;simp only[aR,vW]at hd;unfold eY at h;have hv:=aK hh c;split at h
  ·rename_i hb;have hb':opd s.abs.T c=.bool true:=hb;rw[hb']at hv;exact wp_cond hv.bool_inv (ihx _ z s' a E h hd.1 hh)
  ·rename_i hb;have hb':opd s.abs.T c=.bool false:=hb;rw[hb']at hv;exact wp_cond hv.bool_inv (ihy _ z s' a E h hd.2 hh)
  ·cases h
 |block id c ih=>
  intro s z s' a E h hd hh;simp only[aR]at hd;unfold eY at h
  cases h1:eY C keep pubs N c s with
  |none=>rw[h1]at h;cases h
  |some r=>
   obtain⟨e1,s1⟩:=r;rw[h1]at h;refine wp_block (xG (ih s e1 s1 a E h1 hd hh) ?_);intro e a' w' hq;obtain⟨e2,s2,E',g1,g2,g3,g4,g5⟩:=hq;subst g2 g4 g5
   cases e2 with
   |normal=>cases g1;cases h;exact⟨.normal,_,E',rfl,rfl,g3,rfl,rfl⟩
   |ret=>cases g1;cases h;exact⟨.ret,_,E',rfl,rfl,g3,rfl,rfl⟩
   |pan pv=>obtain⟨v,rfl,hv⟩:=g1;cases h;exact⟨.pan pv,_,E',⟨v,rfl,hv⟩,rfl,g3,rfl,rfl⟩
   |exit j=>
    cases g1;simp only[pF,Exit.inBlock];by_cases hj:j=id
    ·subst hj;simp only[xZ,wR]at h;cases h;simp only[wR];exact⟨.normal,_,E',rfl,rfl,g3,rfl,rfl⟩
    ·simp only[wG,hj,wA]at h;cases h;rw[w5 hj];exact⟨.exit j,_,E',rfl,rfl,g3,rfl,rfl⟩
 |loop c ih=>
  intro s z s' a E h hd hh;simp only[aR]at hd;unfold eY at h;refine wp_loop_rounds N ?_
  have key:∀(n:Nat)(s:St)(a:Act)(E:Om),qJ (eY C keep pubs N c) n s=some (z,s')->Holds F s.abs a E->Code.rounds P c (QL F fun y t=>y=z/\t=s') n a E.w:=by
   intro n
   induction n with
   |zero=>intro s a E h _;cases h
   |succ n ihn=>
    intro s a E h hh;rw[rounds_succ];unfold qJ at h
    cases h1:eY C keep pubs N c s with
    |none=>rw[h1]at h;cases h
    |some r=>
     obtain⟨e1,s1⟩:=r;rw[h1]at h;refine xG (ih s e1 s1 a E h1 hd hh) ?_;intro e a' w' hq;obtain⟨e2,s2,E',g1,g2,g3,g4,g5⟩:=hq;subst g2 g4 g5
     cases e2 with
     |normal=>cases g1;exact ihn _ a' E' h g3
     |exit id=>cases g1;cases h;exact⟨.exit id,_,E',rfl,rfl,g3,rfl,rfl⟩
     |ret=>cases g1;cases h;exact⟨.ret,_,E',rfl,rfl,g3,rfl,rfl⟩
     |pan pv=>obtain⟨v,rfl,hv⟩:=g1;cases h;exact⟨.pan pv,_,E',⟨v,rfl,hv⟩,rfl,g3,rfl,rfl⟩
  exact key N s a E h hh
 |exit id=>intro s x s' a E h _ hh;cases h;exact wp_exit ⟨.exit id,s,E,rfl,rfl,hh,rfl,rfl⟩
 |ret=>intro s x s' a E h _ hh;cases h;exact wp_ret ⟨.ret,s,E,rfl,rfl,hh,rfl,rfl⟩
 |rangeFunc g ps x y _ _=>intro s z s' a E h;cases h
 |scope c ih=>
  intro s z s' a E h hd hh;simp only[aR]at hd;unfold eY at h;refine wp_scope_straight (xG (ih s z s' a E h hd hh) ?_);intro e a' w' hq;obtain⟨e2,s2,E',h1,h2,h3,h4⟩:=hq
  cases e2 with
  |normal=>cases h1;exact⟨.normal,_,E',rfl,h2,h3,h4⟩
  |exit id=>cases h1;exact⟨.exit id,_,E',rfl,h2,h3,h4⟩
  |ret=>cases h1;exact⟨.ret,_,E',rfl,h2,h3,h4⟩
  |pan pv=>obtain⟨v,rfl,hv⟩:=h1;exact⟨.pan pv,_,E',⟨v,rfl,hv⟩,h2,h3,h4⟩
 |label l=>intro s x s' a E h _ hh;cases h;exact wp_label ⟨.normal,s,E,rfl,rfl,hh,rfl,rfl⟩
 |goto l=>intro s z s' a E h;cases h
 |refuse why=>intro s z s' a E h;cases h
end Go.AL
end
noncomputable section
namespace Go.AL
variable [Tabs]
mutual
def fineV:AV->Bool
 |.lstp _ _ _=>false
 |.tptr _ _ _=>false
 |.cptr c=>fineV c
 |.agg cs=>fineVs cs
 |.tup cs=>fineVs cs
 |.fn _ cs=>fineVs cs
 |.iface _ a=>fineV a
 |_=>true
def fineVs:List AV->Bool
 |[]=>true
 |a::r=>fineV a&&fineVs r
end
def uR:SObj->Bool
 |.box c=>fineV c
 |.tailp _ _ _=>false
 |_=>true
mutual
def strip:AV->AV
 |.lst I xs _=>.lst I xs none
 |.agg cs=>.agg (strips cs)
 |.tup cs=>.tup (strips cs)
 |a=>a
def strips:List AV->List AV
 |[]=>[]
 |a::r=>strip a::strips r
end
theorem ij(I:Ty)(xs:List (den I)):dc I I xs=some xs:=by simp[dc]
theorem qb(n:SN)(x:SD n):fN n n x=some x:=by simp[fN]
theorem qc(n:SN)(x:Option (SD n)):je n n x=some x:=by simp[je]
theorem lp(a:AV):lP a a:=by cases a<;>trivial
mutual
theorem LeV_self(G:List Nat):∀a:AV,fineV a=true->LeV G a a
 |.undef,_=>aY (by simp[LeF])
 |.int k n,_=>aY (by simp[LeF])
 |.bool b,_=>aY (by simp[LeF])
 |.str s,_=>aY (by simp[LeF])
 |.lst I xs o,_=>aY (by simp[LeF,ij])
 |.nils,_=>aY (by simp[LeF])
 |.ptr i o,_=>aY (by simp[LeF])
 |.nilp,_=>aY (by simp[LeF])
 |.pt n x,_=>aY (by simp[LeF,qc])
 |.st n x,_=>aY (by simp[LeF,qb])
 |.row I xs,_=>aY (by simp[LeF,ij])
 |.arr i n w,_=>aY (by simp[LeF])
 |.aptr i n w o,_=>aY (by simp[LeF])
 |.map i,_=>aY (by simp[LeF])
 |.bptr i,_=>aY (by simp[LeF])
 |.nilif,_=>aY (by simp[LeF])
 |.nilm,_=>aY (by simp[LeF])
 |.cptr c,h=>by simp only[fineV]at h;unfold LeV;exact⟨lp c,LeV_self G c h⟩
 |.agg cs,h=>by simp only[fineV]at h;unfold LeV;exact LeL_self G cs h
 |.tup cs,h=>by simp only[fineV]at h;unfold LeV;exact LeL_self G cs h
 |.fn f cs,h=>by simp only[fineV]at h;unfold LeV;exact⟨by simp,LeL_self G cs h⟩
 |.iface t a,h=>by simp only[fineV]at h;unfold LeV;exact⟨by simp,LeV_self G a h⟩
 |.lstp _ _ _,h=>by cases h
 |.tptr _ _ _,h=>by cases h
theorem LeL_self(G:List Nat):∀l:List AV,fineVs l=true->LeL G l l
 |[],_=>by unfold LeL;trivial
 |a::r,h=>by simp only[fineVs,vW]at h;unfold LeL;exact⟨LeV_self G a h.1,LeL_self G r h.2⟩
end
mutual
theorem LeV_strip(G:List Nat):∀a:AV,fineV a=true->LeV G a (strip a)
 |.lst I xs o,_=>by unfold strip;exact aY (by simp[LeF,ij])
 |.agg cs,h=>by simp only[fineV]at h;unfold strip LeV;exact LeL_strip G cs h
 |.tup cs,h=>by simp only[fineV]at h;unfold strip LeV;exact LeL_strip G cs h
 |.undef,h=>LeV_self G _ h
 |.int k n,h=>LeV_self G _ h
 |.bool b,h=>LeV_self G _ h
 |.str s,h=>LeV_self G _ h
 |.nils,h=>LeV_self G _ h
 |.ptr i o,h=>LeV_self G _ h
 |.nilp,h=>LeV_self G _ h
 |.pt n x,h=>LeV_self G _ h
 |.st n x,h=>LeV_self G _ h
 |.row I xs,h=>LeV_self G _ h
 |.arr i n w,h=>LeV_self G _ h
 |.aptr i n w o,h=>LeV_self G _ h
 |.map i,h=>LeV_self G _ h
 |.bptr i,h=>LeV_self G _ h
 |.nilif,h=>LeV_self G _ h
 |.nilm,h=>LeV_self G _ h
 |.cptr c,h=>LeV_self G _ h
 |.fn f cs,h=>LeV_self G _ h
 |.iface t a,h=>LeV_self G _ h
 |.lstp _ _ _,h=>by cases h
 |.tptr _ _ _,h=>by cases h
theorem LeL_strip(G:List Nat):∀l:List AV,fineVs l=true->LeL G l (strips l)
 |[],_=>by unfold strips LeL;trivial
 |a::r,h=>by simp only[fineVs,vW]at h;unfold strips LeL;exact⟨LeV_strip G a h.1,LeL_strip G r h.2⟩
end
theorem oD{G:List Nat}{s:St}:∀(l l':List AV)(k:Nat),LeL G l l'->(∀j,aE s.t (k+j)=l.getD j .undef)->LeT G s (bk k l')
 |[],[],k,_,_=>trivial
 |a::r,b::r',k,h,hg=>by
  unfold LeL at h;refine⟨?_,oD r r' (k+1) h.2 fun j=>?_⟩
  ·have:=hg 0;rw[xy]at this;rw[this];exact h.1
  ·have:=hg (j+1);rw[show k+1+j=k+(j+1) by omega,this];rfl
 |[],_::_,_,h,_=>by unfold LeL at h;exact h.elim
 |_::_,[],_,h,_=>by unfold LeL at h;exact h.elim
theorem gw{G:List Nat}{s:St}:∀l:List (Nat×SObj),(∀x∈l,ae s.b x.1=some x.2/\uR x.2=true)->LeB G s l
 |[],_=>trivial
 |(i,.box c)::r,h=>by obtain⟨h1,h2⟩:=h _ (wK ..);refine⟨?_,gw r fun x hx=>h x (wa _ hx)⟩;simp only at h1;rw[h1];exact⟨lp c,LeV_self G c h2⟩
 |(i,.tail I n)::r,h=>by obtain⟨h1,h2⟩:=h _ (wK ..);refine⟨?_,gw r fun x hx=>h x (wa _ hx)⟩;simp only at h1;rw[h1];simp
 |(i,.map U I m)::r,h=>by obtain⟨h1,h2⟩:=h _ (wK ..);refine⟨?_,gw r fun x hx=>h x (wa _ hx)⟩;simp only at h1;rw[h1];simp[qo]
 |(i,.bld t u l)::r,h=>by obtain⟨h1,h2⟩:=h _ (wK ..);refine⟨?_,gw r fun x hx=>h x (wa _ hx)⟩;simp only at h1;rw[h1];simp
 |(i,.tailp I n x)::r,h=>by obtain⟨h1,h2⟩:=h _ (wK ..);cases h2
end Go.AL
end
noncomputable section
namespace Go.AL
def jD(S:List (Nat×SObj))(x:Nat×SObj):Bool:=match ae S x.1 with|some o=>eqO o x.2|none=>false
def tH:List AV->AV
 |[a]=>a
 |l=>.tup l
def tI(s:St)(l:List AV):List (Nat×SObj):=
 s.b.filter fun x=>aP x.1||(eI (ae s.b) 64 (ids.idsL l++(ao s.b).filter aP) []).contains x.1
def vw:Bool->List AV->List AV
 |true,l=>l
 |false,l=>strips l
def tJ(tok:Bool)(S:List (Nat×SObj))(s:St)(l:List AV):Option Ans:=
 evVs (vw tok l) fun l'=>evB (tI s l') fun kept=>
  match fineVs l&&(kept.all (fun x=>uR x.2))&&aF (ao s.b)&&(ao S).all (fun i=>(ao kept).contains i)&&
    (bJ ((ao s.b).filter fun i=>!(ao kept).contains i) ⟨bk 0 l',kept⟩&&((ao s.b).filter fun i=>!(ao kept).contains i).all (fun i=>!aP i))with
  |true=>some ⟨none,none,tH l',kept.filter fun x=>!jD S x⟩
  |false=>none
theorem jX:∀{l:List (Nat×SObj)},aF (ao l)=true->∀{i:Nat} {o:SObj},(i,o)∈l->ae l i=some o
 |[],_,_,_,h=>by cases h
 |(j,u)::r,hd,i,o,h=>by
  simp only[ao,wu,aF,vW,wc,wB,wF]at hd;rcases wC.1 h with e|e
  ·cases e;simp[aw,aq]
  ·have hne:¬j=i:=fun q=>hd.1 (wz.2 ⟨_,e,q.symm⟩);simp only[aw,aq,wG,hne,wA];exact jX hd.2 e
theorem dx(p:Nat×SObj->Bool):∀{l:List (Nat×SObj)},aF (ao l)=true->aF (ao (l.filter p))=true
 |[],_=>rfl
 |x::r,hd=>by
  simp only[ao,wu,aF,vW,wc,wB,wF]at hd;have ih:=dx p hd.2;rw[List.filter_cons];split
  ·simp only[ao,wu,aF,vW,wc,wB,wF];refine⟨fun h=>hd.1 ?_,ih⟩;obtain⟨y,hy,e⟩:=wz.1 h;exact wz.2 ⟨y,(wI.1 hy).1,e⟩
  ·exact ih
variable [Tabs]
theorem tK{l:List (Nat×SObj)}{i:Nat}(h:ae l i=none):i∉ao l:=eU l i h
theorem lq{l:List (Nat×SObj)}{i:Nat}(h:i∉ao l):ae l i=none:=by
 cases hb:ae l i with|none=>rfl|some o=>exact absurd (wz.2 ⟨(i,o),bc l i o hb,rfl⟩) h
theorem uG{S kept:List (Nat×SObj)}(hd:aF (ao kept)=true)(hS:∀i∈ao S,i∈ao kept):ae (b5 S (kept.filter fun x=>!jD S x))=ae kept:=by
 funext i;have hdf:=dx (fun x=>!jD S x) hd;rw[jb _ S i hdf]
 cases hk:ae kept i with
 |some o=>
  have hm:=bc kept i o hk
  cases hs:jD S (i,o)with
  |false=>have:(i,o)∈kept.filter fun x=>!jD S x:=wI.2 ⟨hm,by rw[hs];rfl⟩;rw[jX hdf this];rfl
  |true=>
   have hn:ae (kept.filter fun x=>!jD S x) i=none:=by
    cases hb:ae (kept.filter fun x=>!jD S x) i with
    |none=>rfl
    |some o'=>have h1:=wI.1 (bc _ i o' hb);have h2:=jX hd h1.1;rw[hk]at h2;cases h2;have h3:=h1.2;rw[hs]at h3;cases h3
   rw[hn];unfold jD at hs;split at hs
   ·rename_i o' ho';simp only at ho' hs;rw[ho',sa hs];rfl
   ·cases hs
 |none=>
  have h1:i∉ao kept:=tK hk;rw[lq (l:=S) fun h=>h1 (hS i h),lq fun h=>h1 ?_]
  ·rfl
  ·obtain⟨y,hy,e⟩:=wz.1 h;exact wz.2 ⟨y,(wI.1 hy).1,e⟩
theorem lr{G:List Nat}:∀{l m:List AV},LeL G l m->l.length=m.length
 |[],[],_=>rfl
 |_::_,_::_,h=>by unfold LeL at h;rw[wo,wo,lr h.2]
 |[],_::_,h=>by unfold LeL at h;exact h.elim
 |_::_,[],h=>by unfold LeL at h;exact h.elim
theorem rX{tok:Bool}{S:List (Nat×SObj)}{s:St}{l:List AV}{A:Ans}(h:tJ tok S s l=some A) :
  A.ob=none/\A.pan=none/\∃l' kept,A.val=tH l'/\l'.length=l.length/\LeS ⟨bk 0 l,s.b⟩ ⟨bk 0 l',kept⟩/\ae (b5 S A.upd)=ae kept:=by
 unfold tJ at h;rw[evVs_eq,nr]at h;split at h
 ·rename_i hc;cases h;simp only[vW,wk]at hc;obtain⟨⟨⟨⟨h1,h2⟩,h3⟩,h4⟩,h5,h6⟩:=hc;refine⟨rfl,rfl,vw tok l,tI s (vw tok l),rfl,?_,⟨?_,?_,?_⟩,?_⟩
  ·cases tok with|true=>rfl|false=>exact(lr (LeL_strip [] l h1)).symm
  ·rw[wh]
   ·trivial
   ·rw[vW,wk];exact⟨h5,h6⟩
  ·refine oD l _ 0 ?_ fun j=>?_
   ·cases tok with|true=>exact LeL_self _ l h1|false=>exact LeL_strip _ l h1
   ·show aE (bk 0 l) (0+j)=_;rw[cX];simp
  ·refine gw _ fun x hx=>⟨?_,h2 x hx⟩;exact jX h3 (wI.1 hx).1
  ·refine uG (dx _ h3) fun i hi=>?_;have:=h4 i hi
   rwa [wB,wb]at this
 ·cases h
structure FB where
 body:Code
 n:Nat
 res:List ResultVar
 keep:Nat
 pubs:List (Nat×List Nat)
 pend:Nat->Bool
 rows:Nat->Bool
 same:Nat->Bool
 tok:Bool
 ps:List (Option Ty)
def tL:Option Ty->AV->AV
 |some (.st n),a=>(match arg (.st n) a with|some x=>.st n x|none=>a)
 |_,a=>a
def qK:List (Option Ty)->List AV->List AV
 |p::ps,a::r=>tL p a::qK ps r
 |_,l=>l
def vz(C:Cfg)(N:Nat)(x:FB)(args:List AV)(S:List (Nat×SObj)):Option Ans:=
 evVs (qK x.ps args) fun args=>evB S fun S=>
  match gM args x.n&&(ao S).all aP with
  |false=>none
  |true=>
   match eY C x.keep x.pubs N x.body ⟨bk 0 args,S⟩with
   |some (.normal,s)=>(match fK C.tbl s x.res with|some l=>tJ x.tok S s l|none=>none)
   |some (.ret,s)=>(match fK C.tbl s x.res with|some l=>tJ x.tok S s l|none=>none)
   |_=>none
variable {P:Program} {C:Cfg}
theorem tM(p:Option Ty)(a:AV):Rd a (tL p a):=by
 unfold tL;split
 ·split
  ·rename_i x hx;exact Rd.arg hx
  ·exact Rd.refl a
 ·exact Rd.refl a
theorem oE:∀(ps:List (Option Ty))(l:List AV),RdL l (qK ps l)
 |[],l=>RdL.refl l
 |p::ps,[]=>.nil
 |p::ps,a::r=>.cons (tM p a) (oE ps r)
theorem runF_meets(hm:P.follows .mixedOrders=true)(hT:aG P C.tbl)(hS:aX P C.spec){N:Nat}{x:FB}{f:Nat}{fn:Func}(hf:P.funcs[f]?=some fn)(hb:fn.body=some x.body)(hn:fn.ntmps=x.n)(hr:fn.results.toList=x.res)
 (hd:aR x.n x.body=true){args:List AV}{S:List (Nat×SObj)}{A:Ans}(h:vz C N x args S=some A):aO P f args S A:=by
 refine aO.args (oE x.ps args) ?_;intro w pub e vs hp ht hv hs hdom hinj;unfold vz at h;rw[evVs_eq,nr]at h;split at h
 ·cases h
 ·rename_i hck;simp only[vW,wk]at hck;obtain⟨hck2,hck3⟩:=hck;have hlen:=bR _ _ hck2
  have hlent:∀id c,e id=some c->aP id=true:=by
   intro id c hc
   cases hg:ae S id with
   |none=>rw[hdom id hg]at hc;cases hc
   |some o=>exact hck3 id (wz.2 ⟨(id,o),bc _ _ _ hg,rfl⟩)
  have hrun:∃z s',eY C x.keep x.pubs N x.body ⟨bk 0 (qK x.ps args),S⟩=some (z,s')/\(match fK C.tbl s' x.res with|some l=>tJ x.tok S s' l|none=>none)=some A/\(z=.normal∨z=.ret):=by
   split at h
   ·rename_i s' hz;exact⟨_,s',hz,h,.inl rfl⟩
   ·rename_i s' hz;exact⟨_,s',hz,h,.inr rfl⟩
   ·cases h
  obtain⟨z,s',hz,he,hzz⟩:=hrun;refine calls_of_wp hf hb ?_;have hh:=fE (n:=fn.ntmps) hp ht hv (by rw[hn];exact hlen) hs hdom hinj hlent;rw[<-hn]at hd;refine xG (qa (F:=⟨w,pub,fn.ntmps,e,hlent,[],ht⟩) hm hT hS _ _ N x.body _ z s' _ _ hz hd hh) ?_;intro en a' w' hq;obtain⟨z2,s2,E',h1,h2,h3,h4,h5⟩:=hq;subst h2 h4 h5
  have hmap:∀us,(fn.results.toList.mapM (j8 a'.tmps)).run P E'.w=.ok us E'.w->
    (results fn a'.tmps).run P E'.w=.ok (if h:us.toArray.size=1 then us.toArray[0]else .tuple us.toArray) E'.w:=by
   intro us hus;rw[ib,<-xi (xs:=fn.results),yh];simp only[w7,Sem.run_map,hus,vY,wy]
  have main:a'.defers=[]/\∃v,(results fn a'.tmps).run P E'.w=.ok v E'.w/\∃pub' e',(∀b pv u,A.pan=some (b,pv,u)->b=false)/\V ⟨e',E'.w,pub'⟩ A.val v/\After w pub e (ae (b5 S A.upd)) E'.w pub' e':=by
   refine⟨h3.defers,?_⟩;split at he
   ·rename_i l hres;rw[<-hr]at hres;obtain⟨a1,a2,l',kept,a3,a4,a5,a6⟩:=rX he;obtain⟨us,k1,k2⟩:=cz hT h3 _ _ hres;obtain⟨E2,e2,hh2⟩:=bK (s:=⟨bk 0 l,s2.b⟩) (h3.retmp k2) a5;rw[a3,a6];refine⟨_,hmap us k1,E2.pub,E2.e,fun b pv u q=>(by rw[a2]at q;cases q),?_,by rw[<-e2];exact ea hh2⟩
    have hval:∀(j:Nat) c v,l'[j]?=some c->us[j]?=some v->V ⟨E2.e,E'.w,E2.pub⟩ c v:=fun j c v hc hv=>by
     have:=hh2.tmps j;simp only[St.abs,cX,wP,wR,xY,vZ,hc,wN]at this;have e3:(us.toArray++Array.replicate 0 undef).getD j undef=v:=by simp[w9,hv]
     rw[e3]at this;rw[<-e2];exact this
    have hlu:l'.length=us.length:=a4.trans k2.1;by_cases h1':us.toArray.size=1
    ·rw[dif_pos h1'];obtain⟨u,rfl⟩:=eX (l:=us) (by simpa using h1');obtain⟨c,rfl⟩:=eX (l:=l') (by rw[hlu];rfl);exact hval 0 c u rfl rfl
    ·rw[dif_neg h1']
     have:tH l'=.tup l':=by
      match l',hlu with
      |[],_=>rfl
      |[c],q=>exact absurd (by simpa using q.symm) h1'
      |_::_::_,_=>rfl
     rw[this];exact .tup l' us hlu hval
   ·cases he
  rcases hzz with rfl|rfl
  ·cases h1;exact main
  ·cases h1;exact main
def qL:List (Nat×FB)->Nat->Option FB
 |[],_=>none
 |(j,x)::r,f=>if Nat.beq j f=true then some x else qL r f
def ag(tbl:List (Nat×TR))(fn:Func)(keep:Nat)(pubs:List (Nat×List Nat))(pend rows same:Nat->Bool)(tok:Bool):FB:=
 ⟨fn.body.getD .skip,fn.ntmps,fn.results.toList,keep,pubs,pend,rows,same,tok,fn.params.toList.map fun t=>(ak tbl t).bind (·.ty)⟩
def fbok(fn:Func):Bool:=match fn.body with | none=>false | some c=>aR fn.ntmps c && !(fn.name == "runtime.NumGoroutine")
def aa(P:Program)(tab:List (Nat×FB)):Prop:=∀f x,qL tab f=some x->
 ∃fn,P.funcs[f]?=some fn/\fn.body=some x.body/\fn.ntmps=x.n/\fn.results.toList=x.res/\aR x.n x.body=true/\(fn.name == "runtime.NumGoroutine")=false
theorem aa.nil:aa P []:=fun f x h=>by cases h
theorem aa.cons{tbl:List (Nat×TR)}{f:Nat}{fn:Func}{keep:Nat}{pubs:List (Nat×List Nat)}{pend rows same:Nat->Bool}{tok:Bool}{tab:List (Nat×FB)}(hf:P.funcs[f]?=some fn)(hc:fbok fn=true)(ht:aa P tab) :
  aa P ((f,ag tbl fn keep pubs pend rows same tok)::tab):=by
 intro g x h;unfold qL at h;split at h
 ·rename_i hb;obtain rfl:=wm hb;cases h;unfold fbok at hc;split at hc
  ·cases hc
  ·rename_i c hb';simp only[vW,wc]at hc;exact⟨fn,hf,by simp[ag,hb'],rfl,rfl,by simpa[ag,hb']using hc.1,hc.2⟩
 ·exact ht g x h
def rY(tbl:List (Nat×TR))(tab:List (Nat×FB))(keeps:Nat->Bool)(lends:Nat->List (Option Nat))(N:Nat)(base:Nat->List AV->List (Nat×SObj)->Option Ans) :
  Nat->Nat->List AV->List (Nat×SObj)->Option Ans
 |0,f,us,S=>base f us S
 |n+1,f,us,S=>
  match base f us S with
  |some A=>some A
  |none=>
  match qL tab f with
  |none=>none
  |some x=>vz ⟨tbl,rY tbl tab keeps lends N base n,keeps,lends,x.pend,x.rows,x.same⟩ N x us S
theorem qM{tbl:List (Nat×TR)}{tab:List (Nat×FB)}{keeps:Nat->Bool}{lends:Nat->List (Option Nat)}{N:Nat}{base:Nat->List AV->List (Nat×SObj)->Option Ans}
 (hm:P.follows .mixedOrders=true)(hT:aG P tbl)(hB:aX P base)(ht:aa P tab):∀n:Nat,aX P (rY tbl tab keeps lends N base n)
 |0=>hB
 |n+1=>by
  intro f args S A h ho hl;unfold rY at h;split at h
  ·rename_i A' hb;cases h;exact hB f args S A hb ho hl
  split at h
  ·cases h
  ·rename_i x hx;obtain⟨fn,h1,h2,h3,h4,h5,h6⟩:=ht f x hx;exact⟨⟨fn,h1,by rw[h2];rfl,h6⟩,runF_meets hm hT (qM hm hT hB ht n) h1 h2 h3 h4 h5 h⟩
theorem eZ{tbl:List (Nat×TR)}{tab:List (Nat×FB)}{keeps:Nat->Bool}{lends:Nat->List (Option Nat)}{N n f:Nat}{base:Nat->List AV->List (Nat×SObj)->Option Ans}{args:List AV}{v:AV}{u:List (Nat×SObj)}
 (hm:P.follows .mixedOrders=true)(hT:aG P tbl)(hB:aX P base)(ht:aa P tab)(h:rY tbl tab keeps lends N base n f args []=some ⟨none,none,v,u⟩):aO P f args [] ⟨none,none,v,u⟩:=
 (qM hm hT hB ht n f args [] _ h (fun _ q=>by cases q) rfl).2
def tested(b:List AV->List (Nat×SObj)->Bool)(g:Pat):Pat:=fun args S=>match b args S,g args S with|true,some A=>some {A with ob:=none}|_,_=>none
theorem aD.tested{f:Nat}{g:Pat}{b:List AV->List (Nat×SObj)->Bool}(h:aD P f g)(hb:∀args S A q,b args S=true->g args S=some A->A.ob=some q->q):aD P f (tested b g):=by
 intro args S A hA ho hl;unfold AL.tested at hA;split at hA
 ·rename_i A' hbt hg;cases hA;exact h args S A' hg (fun q hq=>hb args S A' q hbt hg hq) hl
 ·cases hA
end Go.AL
end
noncomputable section
namespace Go.AL
variable [Tabs] {P:Program}
def q1(I:Ty)(b:den I->Bool)(F:den I->AV):Pat
 |[a],[]=>(match arg I a with|some x=>(match b x with|true=>some (.ret (F x))|false=>none)|none=>none)
 |_,_=>none
theorem uS{f:Nat}{I:Ty}{b:den I->Bool}{F:den I->AV}{O:den I->Prop}(h:aD P f (p1 I fun x=>⟨some (O x),none,F x,[]⟩))(hb:∀x,b x=true->O x):aD P f (q1 I b F):=by
 intro args S A hA ho hl;unfold q1 at hA;split at hA
 ·rename_i a;split at hA
  ·rename_i x hx;split at hA
   ·rename_i ht;cases hA;have k:=h [a] [] ⟨some (O x),none,F x,[]⟩ (by simp[p1,hx]) (fun q hq=>by cases hq;exact hb x ht) hl;exact⟨k.1,k.2⟩
   ·cases hA
  ·cases hA
 ·cases hA
def q2(I M:Ty)(b:den I->den M->Bool)(F:den I->den M->AV):Pat
 |[a,c],[]=>(match arg I a,arg M c with|some x,some y=>(match b x y with|true=>some (.ret (F x y))|false=>none)|_,_=>none)
 |_,_=>none
theorem qN{f:Nat}{I M:Ty}{b:den I->den M->Bool}{F:den I->den M->AV}{O:den I->den M->Prop}(h:aD P f (p2 I M fun x y=>⟨some (O x y),none,F x y,[]⟩))(hb:∀x y,b x y=true->O x y):aD P f (q2 I M b F):=by
 intro args S A hA ho hl;unfold q2 at hA;split at hA
 ·rename_i a c;split at hA
  ·rename_i x y hx hy;split at hA
   ·rename_i ht;cases hA;have k:=h [a,c] [] ⟨some (O x y),none,F x y,[]⟩ (by simp[p2,hx,hy]) (fun q hq=>by cases hq;exact hb x y ht) hl;exact⟨k.1,k.2⟩
   ·cases hA
  ·cases hA
 ·cases hA
def oF(as0:List AV)(v:AV):Pat:=fun args S=>match eqVs as0 args,S with|true,[]=>some (.ret v)|_,_=>none
theorem nv{f:Nat}{as0:List AV}{v:AV}(he:aM P f)(h:aO P f as0 [] (.ret v)):aD P f (oF as0 v):=by
 intro args S A hA ho hl;unfold oF at hA;split at hA
 ·rename_i heq;cases hA;rw[<-eqVs_ok _ _ heq];exact⟨he,h⟩
 ·cases hA
def t1(I:Ty)(b:den I->Bool):List AV->List (Nat×SObj)->Bool
 |[a],_=>(match arg I a with|some x=>b x|none=>false)
 |_,_=>false
theorem vU{f:Nat}{I:Ty}{b:den I->Bool}{F:den I->Ans}(h:aD P f (p1 I F))(hb:∀x q,b x=true->(F x).ob=some q->q):aD P f (tested (t1 I b) (p1 I F)):=by
 refine h.tested fun args S A q ht hg ho=>?_;unfold p1 at hg;split at hg
 ·rename_i a;split at hg
  ·rename_i x hx;cases hg;refine hb x q ?_ ho;simpa[t1,hx]using ht
  ·cases hg
 ·cases hg
def qO:List AV->List (Nat×SObj)->Bool
 |_,[(_,.box (.lst .str zs _))]=>decide (zs.length *16<=140737488355328)
 |_,_=>false
theorem qd{f gv:Nat}(h:aD P f (cm gv)):aD P f (tested qO (cm gv)):=by
 refine h.tested fun args S A q hb hg ho=>?_;unfold cm at hg;split at hg
 ·split at hg
  ·cases hg;cases ho;exact Xo hb
  ·cases hg
 ·cases hg
def oG:List AV->List (Nat×SObj)->Bool
 |[.arr _ n _],[(_,.box (.row .str ss))]=>decide (n=ss.length)
 |_,_=>false
theorem oH{f:Nat}(h:aD P f cn):aD P f (tested oG cn):=by
 refine h.tested fun args S A q hb hg ho=>?_;unfold cn at hg;split at hg
 ·cases hg;cases ho;exact Xo hb
 ·cases hg
def gK:List Str->Bool
 |[]=>true
 |x::r=>!r.contains x&&gK r
theorem iJ:∀{l:List Str},gK l=true->l.Nodup
 |[],_=>List.nodup_nil
 |x::r,h=>by unfold gK at h;rw[vW,wc]at h;refine List.nodup_cons.2 ⟨fun q=>?_,iJ h.2⟩;have:=h.1;rw[wB,wF]at this;exact this q
def jd:List AV->List (Nat×SObj)->Bool
 |[.arr _ n _,_],[(_,.box (.row (.int .i64) xs)),(_,.box (.st .shape s))]=>
  decide (n=xs.length)&&!xs.isEmpty&&(xs.all fun x=>decide (0<=(x:Int))&&decide ((x:Int)<s.names.length))&&gK s.names&&decide (xs.length<4611686018427387904)
 |_,_=>false
theorem nw{f gc:Nat}(h:aD P f (bU gc)):aD P f (tested jd (bU gc)):=by
 refine h.tested fun args S A q hb hg ho=>?_;unfold bU at hg;split at hg
 ·split at hg
  ·cases hg;cases ho;unfold jd at hb;simp only[vW,wb,wc,wk]at hb;obtain⟨⟨⟨⟨h1,h2⟩,h3⟩,h4⟩,h5⟩:=hb;exact⟨h1,(fun e=>by rw[e]at h2;cases h2),h3,iJ h4,h5⟩
  ·cases hg
 ·cases hg
end Go.AL
end
section
namespace Go.Proofs
open Go.RowKit Go.Shelf Go.AL
theorem Tryz.compare(a b:ByteArray)(w:World):Calls Tryz.prog 63 #[.string a,.string b] w fun e w'=>e=.returned (.int .i64 (Lib.compareBytes a.data.toList b.data.toList))/\w'=w:=Any.strings_Compare Tryz.lays106 a b w
set_option maxRecDepth 100000 in
set_option maxHeartbeats 2000000 in
theorem Tryz.cmp62(W:World)(b o g off cap len i j:Nat)(si sj:Str)(h1:W.cell? ⟨b,o+3,none⟩=some (.slice (some ⟨g,off,none⟩) len cap))(hi:i<len)(hj:j<len)(ci:W.cell? ⟨g,off+i,none⟩=some (encStr si))(cj:W.cell? ⟨g,off+j,none⟩=some (encStr sj)) :
  Calls Tryz.prog 62 #[.int .i64 i,.int .i64 j,.pointer (some ⟨b,o,none⟩)] W fun e w'=>e=.returned (.int .i64 (Lib.compareBytes si sj))/\∃q,w'=W.drewN q:=by
 go_enter Tryz.func62,Tryz.ntmps62
 go_wp2
 go_quiet (first|(go_at_call 63;refine Calls.quiet_of_same (Tryz.compare _ _ _)))
 go_wp2
 go_ret
 exact⟨rfl,_,rfl⟩
end Go.Proofs
end
section
namespace Go.AL.Seat
open Go Go.AL Go.Proofs Go.Shelf
variable [Tabs]
theorem ny:aD Tryz.prog 61 (bU 62):=
 kY Tryz.sortf61 rfl (enters_of Tryz.func62 (by kernel_rfl) rfl) (fun W b o g0 off cap len i j si sj h1 h2 h3 h4 h5=>Tryz.cmp62 W b o g0 off cap len i j si sj h1 h2 h3 h4 h5) (aM.mk' Tryz.func61 (by kernel_rfl))
end Go.AL.Seat
end
section
namespace Go.AL
open Go.Shelf Go.Proofs Go.RowKit
variable [Tabs] {P:Program} {X:Ren}
theorem After.newRow{w w':World}{pub:Nat->Nat->Prop}{e:Nat->Option CObj}(hp:fL w pub)(hd:∀id,e id=none)(hb:Below w.heap.size w w'){g:Nat}(hg:w.heap.size<=g){p:Nat->Prop}(hc:∀o,p o->∃v,w'.cell? ⟨g,o,none⟩=some v) :
  After w pub e (ae (b5 [] [])) w' (fun b o=>pub b o∨(b=g/\p o)) e where
 os:=hb.os
 tape:=hb.tape
 output:=hb.output
 size:=hb.size
 block b h _:=hb.block b h
 cell b o h _:=ab (hb.block b h) o
 kind b h _:=⟨aJ (hb.block b h),fun o=>az (hb.block b h) o⟩
 ext:=⟨fun _ c h=>⟨c,h,CLe.refl c⟩,fun _ _ h=>.inl h,fun b o h=>by obtain⟨v,hv⟩:=hp b o h;exact ab (hb.block b (ay hv)) o⟩
 fresh b o h:=by
  rcases h with h|⟨rfl,_⟩
  ·exact .inl h
  ·exact .inr (.inl hg)
 ok b o h:=by
  rcases h with h|⟨rfl,h⟩
  ·obtain⟨v,hv⟩:=hp b o h;exact⟨v,(ab (hb.block b (ay hv)) o).trans hv⟩
  ·exact hc o h
 slots id o h:=by simp[b5,aw,aq]at h
 dom id _:=hd id
 inj i j c d b o h:=by rw[hd i]at h;cases h
theorem oI(L:Lays2.n16 P X)(l:List Str)(hb:l.length *16<=140737488355328){ob:Option Prop}:aO P (X.f 16) [.lst .str l none] [] ⟨ob,none,.lst .str l none,[]⟩:=by
 intro w pub e vs hp ht hv hs hd hi;have he:e=fun _=>none:=funext fun id=>hd id rfl;subst he;obtain⟨v,rfl,hV⟩:=hv.one_inv
 cases hV with
 |lstNil _ _ tok=>refine(Any.slices_Clone_string_nil L 0 0 w).mono ?_;rintro en w' ⟨rfl,rfl⟩;exact⟨pub,_,fun b pv u h=>(by cases h),.lstNil _ _ tok,After.below hp (fun _=>rfl) (Below.refl _ _)⟩
 |lstVoid _ a=>
  refine(Any.slices_Clone_string_zero L a 0 w).mono ?_;rintro en w' ⟨v',rfl,⟨hl,hrow⟩,hn,hbw⟩;refine⟨pub,_,fun b pv u h=>(by cases h),?_,After.below hp (fun _=>rfl) hbw⟩;rcases hrow with⟨rfl,hz⟩|⟨g,cap,cur,rfl,hbase,hg,h1,h2,h3,h4⟩
  ·exact absurd rfl hn
  ·exact .lst .str [] none g 0 cap (fun _ _=>.bool false) (wP _) (by unfold maxLen at h2;unfold aS;omega) (fun id h=>by cases h) (fun i x hx=>by cases hx) (fun i x hx=>by cases hx)
 |lst _ _ _ b off cap vals h1 h2 tok hcell hval=>
  have at_:∀i (hi:i<l.length),w.cell? ⟨b,off+i,none⟩=some (.string ⟨l[i].toArray⟩)/\l[i].length<=aS:=fun i hi=>by have hx:l[i]?=some l[i]:=vV hi;obtain⟨_,c1⟩:=hcell i l[i] hx 0 (.str l[i]) rfl;have c2:=hval i l[i] hx 0 (.str l[i]) rfl;obtain⟨c3,c4⟩:=c2.str_inv;rw[c3,show off+(i *a8 .str+0)=off+i by rw[show a8 .str=1 from rfl];omega]at c1;exact⟨c1,c4⟩
  refine(Any.slices_Clone_string L b off l.length cap (l.map fun s=>(⟨s.toArray⟩:ByteArray)) w (by simp) hb (fun j hj=>?_)).mono ?_
  ·have hj':j<l.length:=by simpa using hj
   rw[(at_ j hj').1,vZ,wx,vV hj'];rfl
  rintro en w' ⟨v',rfl,⟨hl,hrow⟩,hn,hbw⟩;rcases hrow with⟨rfl,hz⟩|⟨g,cap',cur,rfl,hbase,hg,k1,k2,k3,k4⟩
  ·exact absurd rfl hn
  have hcur:∀i (hi:i<l.length),cur[i]?=some (.string ⟨l[i].toArray⟩):=fun i hi=>by
   have:(cur.toList.take (l.length *1))[i]?=some (.string ⟨l[i].toArray⟩):=by rw[k4,wx,wv];simp[hi]
   rw[wv]at this;split at this
   ·simpa using this
   ·cases this
  refine⟨fun b o=>pub b o∨(b=g/\o<l.length),_,fun b pv u h=>(by cases h),?_,After.newRow hp (fun _=>rfl) hbw hbase (p:=fun o=>o<l.length) (fun o ho=>⟨_,by rw[al hg];exact hcur o ho⟩)⟩;refine .lst .str l none g 0 cap' (fun i _=>.string ⟨(l.getD i []).toArray⟩) k1 (by unfold maxLen at k2;unfold aS;omega) (fun id h=>by cases h) (fun i x hx j c hc=>?_) (fun i x hx j c hc=>?_)
  ·obtain⟨hi,rfl⟩:=wL.1 hx
   have hj:j=0:=by
    cases j with|zero=>rfl|succ j=>simp[cells]at hc
   subst hj;rw[show 0+(i *a8 .str+0)=i by rw[show a8 .str=1 from rfl];omega];refine⟨.inr ⟨rfl,hi⟩,?_⟩;show w'.cell? ⟨g,i,none⟩=_;rw[al hg,hcur i hi,vZ,vV hi];rfl
  ·obtain⟨hi,rfl⟩:=wL.1 hx
   have hj:j=0:=by
    cases j with|zero=>rfl|succ j=>simp[cells]at hc
   subst hj;have e1:c=.str l[i]:=by simpa[cells]using hc.symm
   subst e1;rw[vZ,vV hi];exact .str _ (at_ i hi).2
def oJ:Pat:=p1 (.lst .str) fun l=>⟨some (l.length *16<=140737488355328),none,.lst .str l none,[]⟩
theorem oK{f:Nat}(L:Lays2.n16 P X)(hf:X.f 16=f)(he:aM P f):aD P f oJ:=by subst hf;exact kU he fun l _ ho=>oI L l (ho _ rfl)
end Go.AL
end
section
namespace Go.Proofs
open Go.Shelf
def Tryz.lays2_16_ren:Go.Shelf.Ren:=⟨fun|16=>64|n=>n,fun|24=>22|9=>9|4=>4|n=>n,fun|n=>n⟩
theorem Tryz.lays2_16:Go.Proofs.Lays2.n16 Tryz.prog Tryz.lays2_16_ren:={
 mixed:=by kernel_rfl
 f16:=Xt Tryz.func64
 t4:=Tryz.underlying4
 a4:=Tryz.isAgg4
 z4:=Tryz.sizeOf4
 v4:=Tryz.zeroValue4
 t9:=Tryz.underlying9
 a9:=Tryz.isAgg9
 z9:=Tryz.sizeOf9
 v9:=Tryz.zeroValue9
 t24:=Tryz.underlying22
 a24:=Tryz.isAgg22
 z24:=Tryz.sizeOf22
 v24:=Tryz.zeroValue22
 i9:=by kernel_rfl}
end Go.Proofs
end
section
namespace Go.AL.Seat
open Go Go.AL Go.Proofs Go.Shelf Go.Pd
variable [Tabs]
theorem rZ:aD Tryz.prog 64 oJ:=oK Tryz.lays2_16 rfl (aM.mk' Tryz.func64 (by kernel_rfl))
end Go.AL.Seat
end
noncomputable section
namespace Go.AL.Seat
open Go Go.AL Go.Proofs Go.Shelf Go.Pd
variable [Tabs]
def vA(t:Str):Bool:=!t.isEmpty&&decide (t.length<=15)&&t.all fun c=>decide (48<=c.toNat)&&decide (c.toNat<=57)
theorem uH{t:Str}(h:vA t=true):me t:=by unfold vA at h;simp only[vW,wc,wb,wk]at h;exact⟨fun e=>(by rw[e]at h;exact absurd h.1.1 (by decide)),h.1.2,h.2⟩
def tN:List (Nat×Pat):=
 [(186,p1 .str fun s=>.ret (.tup [.int .i32 ((fM s).1:Int),.int .i64 ((fM s).2:Int)])),
  (199,p2 .str (.int .u8) fun a c=>.ret (.int .i64 (sV a c))),
  (129,q2 .str .str (fun _ b=>decide (b=l0)) fun a _=>.str (l6 a)),
  (194,q2 .str .str (fun a b=>decide (b=[45])&&decide (a.length<4294967281)) fun a _=>.tup [.str (ez a),.str (ie a),.bool (j9 a)]),
  (195,q2 .str .str (fun a b=>decide (b=[46])&&decide (a.length<4294967281)) fun a _=>.lst .str (splitB 46 a) none),
  (201,q2 .str .str (fun _ b=>decide (b.length=1)) fun a b=>.bool (decide (b.getD 0 0∈a))),
  (197,q1 .str vA fun t=>.tup [.int .i64 (gW t),.nilif]),
  (64,q1 (.lst .str) (fun l=>decide (l.length *16<=140737488355328)) fun l=>.lst .str l none),
  (34,tested (t1 (.lst (.st .bind)) fun l=>decide (l.length *120<=140737488355328)) (p1 (.lst (.st .bind)) fun l=>⟨some (l.length *120<=140737488355328),none,.lst (.st .bind) l (some 5),[(5,.tail (.st .bind) l.length)]⟩)),
  (167,tested qO (cm 226)),
  (169,tested oG cn),
  (61,tested jd (bU 62)),
  (59,p1 (.st .shape) fun s=>.ret (.tup [.int .i64 (if sz s<=400 then(sz s:Int)else 401),.int .i64 (if sz s<=400 then deepS s 1 else 0),.bool (decide (sz s<=400))]))]
theorem iK[SeatLaid]:aX Tryz.prog (er tN):=
 sc lf (sc lK (sc (qN td fun _ _ h=>Xo h)
  (sc (qN uu fun _ _ h=>by rw[vW]at h;exact⟨Xo h.1,Xo h.2⟩)
  (sc (qN rM fun _ _ h=>by rw[vW]at h;exact⟨Xo h.1,Xo h.2⟩)
  (sc (qN ni fun _ _ h=>Xo h) (sc (uS tc fun _ h=>uH h)
  (sc (uS rZ fun _ h=>Xo h) (sc (vU lg fun _ q h e=>by cases e;exact Xo h)
  (sc (qd pO) (sc (oH ot) (sc (nw ny) (sc rQ sn))))))))))))
end Go.AL.Seat
end
noncomputable section
namespace Go.AL.Seat
open Go Go.AL Go.Proofs
set_option maxRecDepth 1000000
variable [Tabs]
def uT(f:Nat):List (Option Nat):=if Nat.beq f 67||Nat.beq f 68 then[some 2]else[]
def uU(f:Nat):Bool:=false
def qe:List (Nat×FB):=(11,ag tbl Tryz.f11 383 [] (fun _=>false) (fun _=>false) (fun d=>Nat.beq d 25||Nat.beq d 27) false)::(18,ag tbl Tryz.f18 15 [] (fun _=>false) (fun _=>false) (fun _=>false) false)::(19,ag tbl Tryz.f19 4159 [] (fun _=>false) (fun _=>false) (fun _=>false) false)::(28,ag tbl Tryz.f28 4362109181 [] (fun _=>false) (fun _=>false) (fun _=>false) false)::(12,ag tbl Tryz.f12 1151 [] (fun _=>false) (fun _=>false) (fun _=>false) false)::(35,ag tbl Tryz.f35 1965 [] (fun _=>false) (fun _=>false) (fun d=>Nat.beq d 16) false)::(36,ag tbl Tryz.f36 4362109181 [] (fun _=>false) (fun _=>false) (fun _=>false) false)::(46,ag tbl Tryz.f46 77975715369647181664879229 [] (fun _=>false) (fun _=>false) (fun _=>false) false)::(47,ag tbl Tryz.f47 9016029707634675 [] (fun _=>false) (fun _=>false) (fun _=>false) false)::(48,ag tbl Tryz.f48 531 [] (fun _=>false) (fun _=>false) (fun _=>false) false)::(21,ag tbl Tryz.f21 74783 [] (fun _=>false) (fun _=>false) (fun _=>false) false)::(29,ag tbl Tryz.f29 19 [] (fun _=>false) (fun _=>false) (fun _=>false) false)::(30,ag tbl Tryz.f30 270664191 [] (fun _=>false) (fun _=>false) (fun _=>false) false)::(53,ag tbl Tryz.f53 5 [] (fun _=>false) (fun _=>false) (fun _=>false) false)::(54,ag tbl Tryz.f54 562984380336637 [] (fun _=>false) (fun _=>false) (fun _=>false) false)::(55,ag tbl Tryz.f55 1074004979 [] (fun _=>false) (fun _=>false) (fun _=>false) false)::(56,ag tbl Tryz.f56 531 [] (fun _=>false) (fun _=>false) (fun _=>false) false)::(67,ag tbl Tryz.f67 65555 [] (fun _=>false) (fun _=>false) (fun _=>false) false)::(68,ag tbl Tryz.f68 4294967347 [] (fun _=>false) (fun _=>false) (fun _=>false) false)::(69,ag tbl Tryz.f69 5 [] (fun _=>false) (fun _=>false) (fun _=>false) false)::(70,ag tbl Tryz.f70 8388935 [] (fun _=>false) (fun _=>false) (fun _=>false) false)::(71,ag tbl Tryz.f71 87112288527988523651034566703108870643455 [] (fun _=>false) (fun _=>false) (fun d=>Nat.beq d 21) false)::(72,ag tbl Tryz.f72 33816627 [] (fun _=>false) (fun _=>false) (fun _=>false) false)::(73,ag tbl Tryz.f73 5 [] (fun _=>false) (fun _=>false) (fun _=>false) false)::(74,ag tbl Tryz.f74 268439557 [] (fun _=>false) (fun _=>false) (fun _=>false) false)::(75,ag tbl Tryz.f75 81129648086015544455969055506495 [] (fun _=>false) (fun _=>false) (fun _=>false) false)::(76,ag tbl Tryz.f76 263 [] (fun _=>false) (fun _=>false) (fun _=>false) false)::(37,ag tbl Tryz.f37 2223863 [] (fun _=>false) (fun _=>false) (fun _=>false) false)::(38,ag tbl Tryz.f38 7 [] (fun _=>false) (fun _=>false) (fun _=>false) false)::(49,ag tbl Tryz.f49 89203661441933403568762194417536241417190911 [] (fun _=>false) (fun _=>false) (fun d=>Nat.beq d 49||Nat.beq d 106||Nat.beq d 124||Nat.beq d 142||Nat.beq d 143) false)::(39,ag tbl Tryz.f39 299063 [] (fun _=>false) (fun _=>false) (fun _=>false) false)::(24,ag tbl Tryz.f24 39 [] (fun _=>false) (fun _=>false) (fun _=>false) false)::(91,ag tbl Tryz.f91 37852736853667689267293 [] (fun _=>false) (fun _=>false) (fun _=>false) false)::(92,ag tbl Tryz.f92 5487058363987403117567667136273109224445 [] (fun _=>false) (fun _=>false) (fun _=>false) false)::(93,ag tbl Tryz.f93 139315 [] (fun _=>false) (fun _=>false) (fun _=>false) false)::(94,ag tbl Tryz.f94 17827827 [] (fun _=>false) (fun _=>false) (fun _=>false) false)::(95,ag tbl Tryz.f95 19 [] (fun _=>false) (fun _=>false) (fun _=>false) false)::(120,ag tbl Tryz.f120 549890048253 [] (fun _=>false) (fun _=>false) (fun _=>false) false)::(121,ag tbl Tryz.f121 71 [] (fun _=>false) (fun _=>false) (fun _=>false) false)::(122,ag tbl Tryz.f122 79 [] (fun _=>false) (fun _=>false) (fun _=>false) false)::(123,ag tbl Tryz.f123 5 [] (fun _=>false) (fun _=>false) (fun _=>false) false)::(124,ag tbl Tryz.f124 5 [] (fun _=>false) (fun _=>false) (fun _=>false) false)::(125,ag tbl Tryz.f125 5 [] (fun _=>false) (fun _=>false) (fun _=>false) false)::(126,ag tbl Tryz.f126 29 [] (fun _=>false) (fun _=>false) (fun _=>false) false)::(100,ag tbl Tryz.f100 5 [] (fun _=>false) (fun _=>false) (fun _=>false) false)::(103,ag tbl Tryz.f103 5 [] (fun _=>false) (fun _=>false) (fun _=>false) false)::(127,ag tbl Tryz.f127 5 [] (fun _=>false) (fun _=>false) (fun _=>false) false)::(128,ag tbl Tryz.f128 5 [] (fun _=>false) (fun _=>false) (fun _=>false) false)::(130,ag tbl Tryz.f130 151115799509488183025661 [] (fun _=>false) (fun _=>false) (fun _=>false) false)::(131,ag tbl Tryz.f131 618970019647202533975261693 [] (fun _=>false) (fun _=>false) (fun _=>false) false)::(132,ag tbl Tryz.f132 29 [] (fun _=>false) (fun _=>false) (fun _=>false) false)::(133,ag tbl Tryz.f133 3 [] (fun d=>Nat.beq d 8) (fun _=>false) (fun _=>false) false)::(134,ag tbl Tryz.f134 7 [] (fun d=>Nat.beq d 15) (fun _=>false) (fun _=>false) false)::(137,ag tbl Tryz.f137 275 [] (fun _=>false) (fun _=>false) (fun _=>false) false)::(135,ag tbl Tryz.f135 131 [] (fun _=>false) (fun _=>false) (fun _=>false) false)::(139,ag tbl Tryz.f139 7 [] (fun _=>false) (fun _=>false) (fun _=>false) false)::(138,ag tbl Tryz.f138 271375 [] (fun _=>false) (fun _=>false) (fun _=>false) false)::(141,ag tbl Tryz.f141 32819 [] (fun _=>false) (fun _=>false) (fun _=>false) false)::(142,ag tbl Tryz.f142 15 [] (fun _=>false) (fun _=>false) (fun _=>false) false)::(143,ag tbl Tryz.f143 17180524607 [] (fun _=>false) (fun _=>false) (fun _=>false) false)::(57,ag tbl Tryz.f57 3537148372723500476506894142080440715070649430595550180525943565456506895 [] (fun _=>false) (fun _=>false) (fun _=>false) false)::(58,ag tbl Tryz.f58 27 [] (fun _=>false) (fun _=>false) (fun _=>false) false)::(77,ag tbl Tryz.f77 2147492295 [] (fun _=>false) (fun _=>false) (fun _=>false) false)::(78,ag tbl Tryz.f78 160562833849755950391295 [] (fun _=>false) (fun _=>false) (fun d=>Nat.beq d 19||Nat.beq d 49) false)::(79,ag tbl Tryz.f79 549789368831 [] (fun _=>false) (fun _=>false) (fun d=>Nat.beq d 15||Nat.beq d 43) false)::(16,ag tbl Tryz.f16 23 [] (fun _=>false) (fun _=>false) (fun _=>false) false)::(80,ag tbl Tryz.f80 36031000339288063 [] (fun _=>false) (fun _=>false) (fun d=>Nat.beq d 45||Nat.beq d 65) false)::(81,ag tbl Tryz.f81 102844040580930233559092546268346994287008189083989802508869631 [] (fun _=>false) (fun _=>false) (fun d=>Nat.beq d 55||Nat.beq d 63||Nat.beq d 86||Nat.beq d 111||Nat.beq d 118||Nat.beq d 120||Nat.beq d 136||Nat.beq d 155||Nat.beq d 167||Nat.beq d 202||Nat.beq d 203) false)::(40,ag tbl Tryz.f40 2159703 [] (fun _=>false) (fun _=>false) (fun _=>false) false)::(60,ag tbl Tryz.f60 10141204803006463002229839257615 [] (fun _=>false) (fun _=>false) (fun _=>false) false)::(42,ag tbl Tryz.f42 36219466547391 [] (fun _=>false) (fun _=>false) (fun _=>false) false)::(150,ag tbl Tryz.f150 9223376984926589309 [] (fun _=>false) (fun _=>false) (fun _=>false) false)::(151,ag tbl Tryz.f151 5 [] (fun _=>false) (fun _=>false) (fun _=>false) false)::(152,ag tbl Tryz.f152 5 [] (fun _=>false) (fun _=>false) (fun _=>false) false)::(153,ag tbl Tryz.f153 2147483661 [] (fun _=>false) (fun _=>false) (fun _=>false) false)::(154,ag tbl Tryz.f154 5 [] (fun _=>false) (fun _=>false) (fun _=>false) false)::(116,ag tbl Tryz.f116 5 [] (fun _=>false) (fun _=>false) (fun _=>false) false)::(119,ag tbl Tryz.f119 5 [] (fun _=>false) (fun _=>false) (fun _=>false) false)::(155,ag tbl Tryz.f155 5 [] (fun _=>false) (fun _=>false) (fun _=>false) false)::(156,ag tbl Tryz.f156 5070641086539181312813312250877 [] (fun _=>false) (fun d=>Nat.beq d 14) (fun _=>false) false)::(157,ag tbl Tryz.f157 16525 [] (fun _=>false) (fun _=>false) (fun _=>false) false)::(158,ag tbl Tryz.f158 19968563638923261082878717 [] (fun _=>false) (fun _=>false) (fun _=>false) false)::(159,ag tbl Tryz.f159 5 [] (fun _=>false) (fun _=>false) (fun _=>false) false)::(160,ag tbl Tryz.f160 5075558997068629606245683707891 [] (fun _=>false) (fun _=>false) (fun _=>false) false)::(51,ag tbl Tryz.f51 2343 [] (fun _=>false) (fun _=>false) (fun _=>false) false)::(161,ag tbl Tryz.f161 33043 [] (fun _=>false) (fun _=>false) (fun _=>false) false)::(166,ag tbl Tryz.f166 552075315 [] (fun _=>false) (fun _=>false) (fun _=>false) false)::(196,ag tbl Tryz.f196 5 [] (fun _=>false) (fun _=>false) (fun _=>false) false)::(198,ag tbl Tryz.f198 9316337836119 [] (fun _=>false) (fun _=>false) (fun _=>false) false)::(200,ag tbl Tryz.f200 5 [] (fun _=>false) (fun _=>false) (fun _=>false) false)::(136,ag tbl Tryz.f136 2228285 [] (fun _=>false) (fun _=>false) (fun _=>false) false)::(203,ag tbl Tryz.f203 51 [] (fun _=>false) (fun _=>false) (fun _=>false) false)::(140,ag tbl Tryz.f140 65587 [] (fun _=>false) (fun _=>false) (fun _=>false) false)::(205,ag tbl Tryz.f205 23945973599159813139139346461134680183357916012085311 [] (fun _=>false) (fun _=>false) (fun _=>false) false)::(206,ag tbl Tryz.f206 3 [] (fun d=>Nat.beq d 8) (fun _=>false) (fun _=>false) false)::(96,ag tbl Tryz.f96 7 [] (fun _=>false) (fun _=>false) (fun _=>false) false)::(97,ag tbl Tryz.f97 27 [] (fun _=>false) (fun _=>false) (fun _=>false) false)::(98,ag tbl Tryz.f98 7 [] (fun _=>false) (fun _=>false) (fun _=>false) false)::(99,ag tbl Tryz.f99 2098133 [] (fun _=>false) (fun _=>false) (fun _=>false) false)::(101,ag tbl Tryz.f101 13 [] (fun _=>false) (fun _=>false) (fun _=>false) false)::(102,ag tbl Tryz.f102 27 [] (fun _=>false) (fun _=>false) (fun _=>false) false)::(105,ag tbl Tryz.f105 15 [] (fun _=>false) (fun _=>false) (fun _=>false) false)::(104,ag tbl Tryz.f104 19 [] (fun _=>false) (fun _=>false) (fun _=>false) false)::(144,ag tbl Tryz.f144 8389119 [] (fun _=>false) (fun _=>false) (fun _=>false) false)::(145,ag tbl Tryz.f145 66483 [] (fun _=>false) (fun _=>false) (fun _=>false) false)::(146,ag tbl Tryz.f146 67172223 [] (fun _=>false) (fun _=>false) (fun _=>false) true)::(109,ag tbl Tryz.f109 4444215 [] (fun _=>false) (fun _=>false) (fun _=>false) false)::(110,ag tbl Tryz.f110 5 [] (fun _=>false) (fun _=>false) (fun _=>false) false)::(62,ag tbl Tryz.f62 39 [] (fun _=>false) (fun _=>false) (fun d=>Nat.beq d 16) false)::(212,ag tbl Tryz.f212 5 [] (fun _=>false) (fun _=>false) (fun _=>false) false)::(213,ag tbl Tryz.f213 8389645 [] (fun _=>false) (fun _=>false) (fun _=>false) false)::(214,ag tbl Tryz.f214 131635 [] (fun _=>false) (fun _=>false) (fun _=>false) false)::(215,ag tbl Tryz.f215 8388767 [] (fun _=>false) (fun _=>false) (fun _=>false) false)::(216,ag tbl Tryz.f216 2097779 [] (fun _=>false) (fun _=>false) (fun _=>false) false)::(217,ag tbl Tryz.f217 4295 [] (fun _=>false) (fun _=>false) (fun _=>false) false)::(218,ag tbl Tryz.f218 66503 [] (fun _=>false) (fun _=>false) (fun _=>false) false)::(219,ag tbl Tryz.f219 199 [] (fun _=>false) (fun _=>false) (fun _=>false) false)::(220,ag tbl Tryz.f220 316931992907069184984647990303 [] (fun _=>false) (fun _=>false) (fun _=>false) false)::(221,ag tbl Tryz.f221 73796001086816403443 [] (fun _=>false) (fun _=>false) (fun _=>false) false)::(33,ag tbl Tryz.f33 65655 [] (fun _=>false) (fun _=>false) (fun _=>false) false)::(88,ag tbl Tryz.f88 2098239 [] (fun _=>false) (fun _=>false) (fun _=>false) false)::(89,ag tbl Tryz.f89 1050703 [] (fun _=>false) (fun _=>false) (fun _=>false) false)::(241,ag tbl Tryz.f241 18014398524686365 [] (fun _=>false) (fun _=>false) (fun _=>false) false)::(202,ag tbl Tryz.f202 324677087359430077278579446644799 [] (fun d=>Nat.beq d 129) (fun _=>false) (fun _=>false) false)::(204,ag tbl Tryz.f204 19 [] (fun _=>false) (fun _=>false) (fun _=>false) false)::(248,ag tbl Tryz.f248 3 [] (fun d=>Nat.beq d 23) (fun _=>false) (fun _=>false) false)::(249,ag tbl Tryz.f249 13 [] (fun _=>false) (fun _=>false) (fun _=>false) false)::(163,ag tbl Tryz.f163 15 [] (fun _=>false) (fun _=>false) (fun _=>false) false)::(162,ag tbl Tryz.f162 19 [] (fun _=>false) (fun _=>false) (fun _=>false) false)::(164,ag tbl Tryz.f164 7 [] (fun _=>false) (fun _=>false) (fun _=>false) false)::(168,ag tbl Tryz.f168 7 [] (fun _=>false) (fun _=>false) (fun _=>false) false)::(171,ag tbl Tryz.f171 11 [] (fun _=>false) (fun _=>false) (fun _=>false) false)::(170,ag tbl Tryz.f170 19 [] (fun _=>false) (fun _=>false) (fun _=>false) false)::(172,ag tbl Tryz.f172 66483 [] (fun _=>false) (fun _=>false) (fun _=>false) false)::(207,ag tbl Tryz.f207 31 [] (fun _=>false) (fun _=>false) (fun d=>Nat.beq d 7||Nat.beq d 9||Nat.beq d 12) false)::(208,ag tbl Tryz.f208 553657335 [] (fun _=>false) (fun _=>false) (fun d=>Nat.beq d 19||Nat.beq d 20) false)::(63,ag tbl Tryz.f63 19 [] (fun _=>false) (fun _=>false) (fun _=>false) false)::(256,ag tbl Tryz.f256 72341542915801119 [] (fun _=>false) (fun _=>false) (fun _=>false) false)::(257,ag tbl Tryz.f257 4125 [] (fun _=>false) (fun _=>false) (fun _=>false) false)::(258,ag tbl Tryz.f258 68987920327 [] (fun _=>false) (fun _=>false) (fun _=>false) false)::(149,ag tbl Tryz.f149 2557586548459967842939230490655 [] (fun _=>false) (fun _=>false) (fun _=>false) false)::(244,ag tbl Tryz.f244 7 [] (fun d=>Nat.beq d 21) (fun _=>false) (fun _=>false) false)::(246,ag tbl Tryz.f246 149971 [] (fun _=>false) (fun _=>false) (fun _=>false) false)::(247,ag tbl Tryz.f247 3 [] (fun d=>Nat.beq d 8) (fun _=>false) (fun _=>false) false)::(222,ag tbl Tryz.f222 66483 [] (fun _=>false) (fun _=>false) (fun _=>false) false)::(226,ag tbl Tryz.f226 16883 [] (fun _=>false) (fun _=>false) (fun _=>false) false)::(227,ag tbl Tryz.f227 66483 [] (fun _=>false) (fun _=>false) (fun _=>false) false)::(250,ag tbl Tryz.f250 31 [] (fun _=>false) (fun _=>false) (fun _=>false) false)::(251,ag tbl Tryz.f251 1 [] (fun _=>false) (fun _=>false) (fun _=>false) false)::(252,ag tbl Tryz.f252 179799758744771528110887069003277459880165367 [] (fun _=>false) (fun _=>false) (fun d=>Nat.beq d 71||Nat.beq d 87||Nat.beq d 98||Nat.beq d 103) false)::(254,ag tbl Tryz.f254 3885 [] (fun _=>false) (fun _=>false) (fun _=>false) false)::(253,ag tbl Tryz.f253 2203049797495 [] (fun _=>false) (fun _=>false) (fun _=>false) false)::(113,ag tbl Tryz.f113 19 [] (fun _=>false) (fun _=>false) (fun _=>false) false)::(278,ag tbl Tryz.f278 33309 [] (fun _=>false) (fun _=>false) (fun _=>false) false)::(279,ag tbl Tryz.f279 36028797018964541 [] (fun _=>false) (fun _=>false) (fun _=>false) false)::(211,ag tbl Tryz.f211 4297327731 [] (fun _=>false) (fun _=>false) (fun _=>false) false)::(245,ag tbl Tryz.f245 5 [] (fun _=>false) (fun _=>false) (fun _=>false) false)::(273,ag tbl Tryz.f273 79 [] (fun _=>false) (fun _=>false) (fun _=>false) false)::(274,ag tbl Tryz.f274 2103 [] (fun _=>false) (fun _=>false) (fun _=>false) false)::(275,ag tbl Tryz.f275 11 [] (fun _=>false) (fun _=>false) (fun _=>false) false)::(277,ag tbl Tryz.f277 1079 [] (fun _=>false) (fun _=>false) (fun _=>false) false)::(276,ag tbl Tryz.f276 251 [] (fun _=>false) (fun _=>false) (fun _=>false) false)::(299,ag tbl Tryz.f299 524429 [] (fun _=>false) (fun _=>false) (fun _=>false) false)::[]
theorem fa:aa Tryz.prog qe:=aa.cons Tryz.func11 (by kernel_rfl) (aa.cons Tryz.func18 (by kernel_rfl) (aa.cons Tryz.func19 (by kernel_rfl) (aa.cons Tryz.func28 (by kernel_rfl) (aa.cons Tryz.func12 (by kernel_rfl) (aa.cons Tryz.func35 (by kernel_rfl) (aa.cons Tryz.func36 (by kernel_rfl) (aa.cons Tryz.func46 (by kernel_rfl) (aa.cons Tryz.func47 (by kernel_rfl) (aa.cons Tryz.func48 (by kernel_rfl) (aa.cons Tryz.func21 (by kernel_rfl) (aa.cons Tryz.func29 (by kernel_rfl) (aa.cons Tryz.func30 (by kernel_rfl) (aa.cons Tryz.func53 (by kernel_rfl) (aa.cons Tryz.func54 (by kernel_rfl) (aa.cons Tryz.func55 (by kernel_rfl) (aa.cons Tryz.func56 (by kernel_rfl) (aa.cons Tryz.func67 (by kernel_rfl) (aa.cons Tryz.func68 (by kernel_rfl) (aa.cons Tryz.func69 (by kernel_rfl) (aa.cons Tryz.func70 (by kernel_rfl) (aa.cons Tryz.func71 (by kernel_rfl) (aa.cons Tryz.func72 (by kernel_rfl) (aa.cons Tryz.func73 (by kernel_rfl) (aa.cons Tryz.func74 (by kernel_rfl) (aa.cons Tryz.func75 (by kernel_rfl) (aa.cons Tryz.func76 (by kernel_rfl) (aa.cons Tryz.func37 (by kernel_rfl) (aa.cons Tryz.func38 (by kernel_rfl) (aa.cons Tryz.func49 (by kernel_rfl) (aa.cons Tryz.func39 (by kernel_rfl) (aa.cons Tryz.func24 (by kernel_rfl) (aa.cons Tryz.func91 (by kernel_rfl) (aa.cons Tryz.func92 (by kernel_rfl) (aa.cons Tryz.func93 (by kernel_rfl) (aa.cons Tryz.func94 (by kernel_rfl) (aa.cons Tryz.func95 (by kernel_rfl) (aa.cons Tryz.func120 (by kernel_rfl) (aa.cons Tryz.func121 (by kernel_rfl) (aa.cons Tryz.func122 (by kernel_rfl) (aa.cons Tryz.func123 (by kernel_rfl) (aa.cons Tryz.func124 (by kernel_rfl) (aa.cons Tryz.func125 (by kernel_rfl) (aa.cons Tryz.func126 (by kernel_rfl) (aa.cons Tryz.func100 (by kernel_rfl) (aa.cons Tryz.func103 (by kernel_rfl) (aa.cons Tryz.func127 (by kernel_rfl) (aa.cons Tryz.func128 (by kernel_rfl) (aa.cons Tryz.func130 (by kernel_rfl) (aa.cons Tryz.func131 (by kernel_rfl) (aa.cons Tryz.func132 (by kernel_rfl) (aa.cons Tryz.func133 (by kernel_rfl) (aa.cons Tryz.func134 (by kernel_rfl) (aa.cons Tryz.func137 (by kernel_rfl) (aa.cons Tryz.func135 (by kernel_rfl) (aa.cons Tryz.func139 (by kernel_rfl) (aa.cons Tryz.func138 (by kernel_rfl) (aa.cons Tryz.func141 (by kernel_rfl) (aa.cons Tryz.func142 (by kernel_rfl) (aa.cons Tryz.func143 (by kernel_rfl) (aa.cons Tryz.func57 (by kernel_rfl) (aa.cons Tryz.func58 (by kernel_rfl) (aa.cons Tryz.func77 (by kernel_rfl) (aa.cons Tryz.func78 (by kernel_rfl) (aa.cons Tryz.func79 (by kernel_rfl) (aa.cons Tryz.func16 (by kernel_rfl) (aa.cons Tryz.func80 (by kernel_rfl) (aa.cons Tryz.func81 (by kernel_rfl) (aa.cons Tryz.func40 (by kernel_rfl) (aa.cons Tryz.func60 (by kernel_rfl) (aa.cons Tryz.func42 (by kernel_rfl) (aa.cons Tryz.func150 (by kernel_rfl) (aa.cons Tryz.func151 (by kernel_rfl) (aa.cons Tryz.func152 (by kernel_rfl) (aa.cons Tryz.func153 (by kernel_rfl) (aa.cons Tryz.func154 (by kernel_rfl) (aa.cons Tryz.func116 (by kernel_rfl) (aa.cons Tryz.func119 (by kernel_rfl) (aa.cons Tryz.func155 (by kernel_rfl) (aa.cons Tryz.func156 (by kernel_rfl) (aa.cons Tryz.func157 (by kernel_rfl) (aa.cons Tryz.func158 (by kernel_rfl) (aa.cons Tryz.func159 (by kernel_rfl) (aa.cons Tryz.func160 (by kernel_rfl) (aa.cons Tryz.func51 (by kernel_rfl) (aa.cons Tryz.func161 (by kernel_rfl) (aa.cons Tryz.func166 (by kernel_rfl) (aa.cons Tryz.func196 (by kernel_rfl) (aa.cons Tryz.func198 (by kernel_rfl) (aa.cons Tryz.func200 (by kernel_rfl) (aa.cons Tryz.func136 (by kernel_rfl) (aa.cons Tryz.func203 (by kernel_rfl) (aa.cons Tryz.func140 (by kernel_rfl) (aa.cons Tryz.func205 (by kernel_rfl) (aa.cons Tryz.func206 (by kernel_rfl) (aa.cons Tryz.func96 (by kernel_rfl) (aa.cons Tryz.func97 (by kernel_rfl) (aa.cons Tryz.func98 (by kernel_rfl) (aa.cons Tryz.func99 (by kernel_rfl) (aa.cons Tryz.func101 (by kernel_rfl) (aa.cons Tryz.func102 (by kernel_rfl) (aa.cons Tryz.func105 (by kernel_rfl) (aa.cons Tryz.func104 (by kernel_rfl) (aa.cons Tryz.func144 (by kernel_rfl) (aa.cons Tryz.func145 (by kernel_rfl) (aa.cons Tryz.func146 (by kernel_rfl) (aa.cons Tryz.func109 (by kernel_rfl) (aa.cons Tryz.func110 (by kernel_rfl) (aa.cons Tryz.func62 (by kernel_rfl) (aa.cons Tryz.func212 (by kernel_rfl) (aa.cons Tryz.func213 (by kernel_rfl) (aa.cons Tryz.func214 (by kernel_rfl) (aa.cons Tryz.func215 (by kernel_rfl) (aa.cons Tryz.func216 (by kernel_rfl) (aa.cons Tryz.func217 (by kernel_rfl) (aa.cons Tryz.func218 (by kernel_rfl) (aa.cons Tryz.func219 (by kernel_rfl) (aa.cons Tryz.func220 (by kernel_rfl) (aa.cons Tryz.func221 (by kernel_rfl) (aa.cons Tryz.func33 (by kernel_rfl) (aa.cons Tryz.func88 (by kernel_rfl) (aa.cons Tryz.func89 (by kernel_rfl) (aa.cons Tryz.func241 (by kernel_rfl) (aa.cons Tryz.func202 (by kernel_rfl) (aa.cons Tryz.func204 (by kernel_rfl) (aa.cons Tryz.func248 (by kernel_rfl) (aa.cons Tryz.func249 (by kernel_rfl) (aa.cons Tryz.func163 (by kernel_rfl) (aa.cons Tryz.func162 (by kernel_rfl) (aa.cons Tryz.func164 (by kernel_rfl) (aa.cons Tryz.func168 (by kernel_rfl) (aa.cons Tryz.func171 (by kernel_rfl) (aa.cons Tryz.func170 (by kernel_rfl) (aa.cons Tryz.func172 (by kernel_rfl) (aa.cons Tryz.func207 (by kernel_rfl) (aa.cons Tryz.func208 (by kernel_rfl) (aa.cons Tryz.func63 (by kernel_rfl) (aa.cons Tryz.func256 (by kernel_rfl) (aa.cons Tryz.func257 (by kernel_rfl) (aa.cons Tryz.func258 (by kernel_rfl) (aa.cons Tryz.func149 (by kernel_rfl) (aa.cons Tryz.func244 (by kernel_rfl) (aa.cons Tryz.func246 (by kernel_rfl) (aa.cons Tryz.func247 (by kernel_rfl) (aa.cons Tryz.func222 (by kernel_rfl) (aa.cons Tryz.func226 (by kernel_rfl) (aa.cons Tryz.func227 (by kernel_rfl) (aa.cons Tryz.func250 (by kernel_rfl) (aa.cons Tryz.func251 (by kernel_rfl) (aa.cons Tryz.func252 (by kernel_rfl) (aa.cons Tryz.func254 (by kernel_rfl) (aa.cons Tryz.func253 (by kernel_rfl) (aa.cons Tryz.func113 (by kernel_rfl) (aa.cons Tryz.func278 (by kernel_rfl) (aa.cons Tryz.func279 (by kernel_rfl) (aa.cons Tryz.func211 (by kernel_rfl) (aa.cons Tryz.func245 (by kernel_rfl) (aa.cons Tryz.func273 (by kernel_rfl) (aa.cons Tryz.func274 (by kernel_rfl) (aa.cons Tryz.func275 (by kernel_rfl) (aa.cons Tryz.func277 (by kernel_rfl) (aa.cons Tryz.func276 (by kernel_rfl) (aa.cons Tryz.func299 (by kernel_rfl) (aa.nil)))))))))))))))))))))))))))))))))))))))))))))))))))))))))))))))))))))))))))))))))))))))))))))))))))))))))))))))))))))))))))))))))))))))))))))))))))))))))))))))))))
abbrev vB:=rY tbl qe uU uT 5000 (er tN) 100
end Go.AL.Seat
end
noncomputable section
namespace Go.AL.Seat
open Go Go.AL Go.Proofs Go.Pd
set_option maxRecDepth 1000000
def vC:Str:=[40,102,117,110,32,40,120,58,32,73,110,116,41,32,45,62,32,123,97,32,61,32,120,125,41,40,49,41,46,97]
def vD:Str:=[97,100,100,40,49,44,32,116,114,117,101,41]
def vE:AV:=(.tup [(.agg [(.int .i64 9),(.str []),(.str [97]),(.int .i64 0),.nils,.nils,.nils,(.lst (.st .term) [⟨7,[],[],0,[],[],[],[⟨6,[],[],0,[[120]],[],[⟨1,[],[],[],[]⟩],[⟨8,[],[],0,[[97]],[],[],[⟨5,[],[120],0,[],[],[],[],22⟩],17⟩],1⟩,⟨1,[],[],1,[],[],[],[],26⟩],0⟩] none),(.int .i64 0)]),(.agg [(.int .i64 0),(.int .i64 0)])])
def vF:AV:=(.tup [(.agg [(.int .i64 7),(.str []),(.str []),(.int .i64 0),.nils,.nils,.nils,(.lst (.st .term) [⟨5,[],[97,100,100],0,[],[],[],[],0⟩,⟨1,[],[],1,[],[],[],[],4⟩,⟨3,[],[],0,[],[],[],[],7⟩] none),(.int .i64 0)]),(.agg [(.int .i64 0),(.int .i64 0)])])
def jE:List Bndg:=[⟨[],[97,100,100],⟨8,[],[],[],[⟨1,[],[],[],[]⟩,⟨1,[],[],[],[]⟩,⟨1,[],[],[],[]⟩]⟩⟩,⟨[],[115,117,98],⟨8,[],[],[],[⟨1,[],[],[],[]⟩,⟨1,[],[],[],[]⟩,⟨1,[],[],[],[]⟩]⟩⟩,⟨[],[109,117,108],⟨8,[],[],[],[⟨1,[],[],[],[]⟩,⟨1,[],[],[],[]⟩,⟨1,[],[],[],[]⟩]⟩⟩,⟨[],[108,101,115,115],⟨8,[],[],[],[⟨1,[],[],[],[]⟩,⟨1,[],[],[],[]⟩,⟨2,[],[],[],[]⟩]⟩⟩,⟨[],[115,97,109,101],⟨8,[],[],[],[⟨1,[],[],[],[]⟩,⟨1,[],[],[],[]⟩,⟨2,[],[],[],[]⟩]⟩⟩,⟨[],[110,111,116],⟨8,[],[],[],[⟨2,[],[],[],[]⟩,⟨2,[],[],[],[]⟩]⟩⟩,⟨[],[98,111,116,104],⟨8,[],[],[],[⟨2,[],[],[],[]⟩,⟨2,[],[],[],[]⟩,⟨2,[],[],[],[]⟩]⟩⟩,⟨[],[99,97,116],⟨8,[],[],[],[⟨3,[],[],[],[]⟩,⟨3,[],[],[],[]⟩,⟨3,[],[],[],[]⟩]⟩⟩,⟨[],[115,105,122,101],⟨8,[],[],[],[⟨3,[],[],[],[]⟩,⟨1,[],[],[],[]⟩]⟩⟩,⟨[],[115,104,111,119],⟨8,[],[],[],[⟨1,[],[],[],[]⟩,⟨3,[],[],[],[]⟩]⟩⟩]
variable [Tabs] [SeatLaid]
theorem run1:aO Tryz.prog 28 [.str vC] [] (.ret vE):=eZ (n:=100) mixed jy iK fa (by kernel_rfl:vB 28 [.str vC] []=some ⟨none,none,vE,[]⟩)
theorem run2:aO Tryz.prog 28 [.str vD] [] (.ret vF):=eZ (n:=100) mixed jy iK fa (by kernel_rfl:vB 28 [.str vD] []=some ⟨none,none,vF,[]⟩)
theorem run3:aO Tryz.prog 18 [] [] (.ret (.lst (.st .bind) jE none)):=eZ (n:=100) mixed jy iK fa (by kernel_rfl:vB 18 [] []=some ⟨none,none,.lst (.st .bind) jE none,[]⟩)
def uV:List (Nat×Pat):=(28,oF [.str vC] vE)::(28,oF [.str vD] vF)::(18,oF [] (.lst (.st .bind) jE none))::tN
theorem oL:aX Tryz.prog (er uV):=sc (nv (ee Tryz.func28) run1) (sc (nv (ee Tryz.func28) run2) (sc (nv (ee Tryz.func18) run3) iK))
abbrev uW:=rY tbl qe uU uT 5000 (er uV) 100
end Go.AL.Seat
end
noncomputable section
namespace Go.AL.Seat
open Go Go.AL Go.Proofs Go.Pd
set_option maxRecDepth 1000000
variable [Tabs] [SeatLaid]
theorem run4:aO Tryz.prog 19 [] [] (.ret (.lst (.st .bind) jE none)):=eZ (n:=100) mixed jy oL fa (by kernel_rfl:uW 19 [] []=some ⟨none,none,.lst (.st .bind) jE none,[]⟩)
theorem run5:aO Tryz.prog 11 [] [] (.ret (.bool true)):=eZ (n:=100) mixed jy oL fa (by kernel_rfl:uW 11 [] []=some ⟨none,none,.bool true,[]⟩)
theorem qf:aD Tryz.prog 18 (p0 (.ret (.lst (.st .bind) jE none))):=tn (ee Tryz.func18) run3
theorem oM:aD Tryz.prog 19 (p0 (.ret (.lst (.st .bind) jE none))):=tn (ee Tryz.func19) run4
theorem oN:aD Tryz.prog 11 (p0 (.ret (.bool true))):=tn (ee Tryz.func11) run5
end Go.AL.Seat
end
