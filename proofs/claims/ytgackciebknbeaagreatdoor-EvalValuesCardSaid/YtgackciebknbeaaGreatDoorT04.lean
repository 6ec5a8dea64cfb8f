/- Plain facts. The layer: Go code as conditions, and that they are sound. What the functions' conditions say, proved. No condition. -/
import Derived.Test.YtgackciebknbeaaGreatDoorT03
import Derived.Deep.DeepWitnessRowRef
import Derived.KernelRfl
import Derived.Lib.AppendIntMem
import Derived.Lib.AtoiErrMem
import Derived.Lib.DecodeN
import Derived.Lib.ItoaNum
import Derived.Lib.LaidIn
import Derived.Lib.LaidU8T
import Derived.LoopIn
import Derived.LoopNIn
import Derived.OwnWalkIn
import Derived.PinnedBridge
import Derived.ProofKit
import Derived.RangeFuncBox
import Derived.RangeFuncLeaves
import Derived.Recover
import Derived.Shelf.Slices.Clone
import Derived.Shelf.Small.Strs
import Derived.Shelf.Strconv.Atoi
import Derived.Shelf.Strconv.Itoa3
import Derived.Shelf.Strconv.Itoa4
import Derived.Shelf.Strings.Cut
import Derived.Shelf.Strings.OnBuilder
import Derived.Shelf.Strings.Search3
import Derived.Shelf.Strings.SlTrimAscii
import Derived.Shelf.Strings.Split
import Derived.Shelf.Unicode.DecodeAny
import Derived.Shelf.Unicode.ValidAny
import Derived.Shelf.Vars
import Derived.Sort.Walk0
import Derived.TacticsInMore
import Derived.Test.YtgackciebknbeaaGreatDoorCards
import Derived.Test.YtgackciebknbeaaGreatDoorProg
import Derived.Test.YtgackciebknbeaaGreatDoorTie
import Derived.WalkKit
set_option linter.all false
set_option maxRecDepth 100000
section
namespace Go.Proofs
open Go.RowKit Go.Shelf Go.AL
variable [Tabs]
attribute [local go_sem] Oper.semAt_some
set_option maxRecDepth 100000 in
set_option maxHeartbeats 2000000 in
theorem Tryz.values1 (F:Fence) (n:Nat) (h7:F.fn 180) (hro:F.round=none) (hn:1<=n) (l Bs Bo b off len cap:Nat) (zs:List Str) (hreach:len<=maxLen) (J:List Str→World→Prop) (hBl:∀pre W,J pre W→W.cell? ⟨Bs,Bo,none⟩=some (.slice (some ⟨b,off,none⟩) len cap)/\∀j,j < len→W.cell? ⟨b,off+j,none⟩=some (encStr (zs[j]?.getD [])))
  (hY:∀pre x W,J pre W→pre.length < len→YieldAt F (n - 1) Tryz.prog l #[encStr x] W fun e W'=>e=.returned (.bool true)/\J (pre++[x]) W')
  (W:World) (h0:J [] W) :
  CallsIn F n Tryz.prog 180 #[.func (.yield l) #[] #[],.pointer (some ⟨Bs,Bo,none⟩)] W fun e W'=>(∃v,e=.returned v)/\∃ys,ys=pr (fun j=>zs[j]?.getD []) len/\J ys W':=by
 obtain ⟨hBs,hc⟩:=hBl _ _ h0
 refine callsIn_of_wp Tryz.func180 rfl h7 ?_ hro
 simp only [Tryz.ntmps180,List.size_toArray,List.length_cons,List.length_nil,Nat.reduceAdd,Nat.reduceSub,Array.replicate_succ,Array.replicate_zero,List.push_toArray,List.append_toArray,List.nil_append,List.cons_append]
 gi_wp2
 gi_loopw [7] (fun i wr=>∃k:Nat,k<=len/\i=.int .i64 k/\J (pr (fun j=>zs[j]?.getD []) k) wr)
  (fun i _=>len - (intOf i).toNat)
 case atStart=>exact ⟨0,Nat.zero_le _,rfl,h0⟩
 case round=>
  obtain ⟨k,hk,rfl,hJs⟩:=hrel
  have hcx:k < len→wr.cell? ⟨b,off+k,none⟩=some (encStr (zs[k]?.getD [])):=fun h=>(hBl _ _ hJs).2 k h
  by_cases hlt:k < len
  ·obtain ⟨fn,tmps,assign,body,hy,hR⟩:=hY _ (zs[k]?.getD []) wr hJs (by rw [sX];exact hlt)
   have hcx':=hcx hlt
   have hsmall:(k:Int)+1<=9223372036854775807:=by unfold maxLen at hreach;omega
   gi_wp2
   refine hR.mono ?_
   rintro e W3 ⟨rfl,hJ3⟩
   gi_wp2
   go_roundw
   case rel=>exact ⟨k+1,by omega,by simp,by rw [yg];exact hJ3⟩
   case measure=>simp [intOf];omega
  ·obtain rfl:k=len:=by omega
   gi_wp2
   go_end0
   exact ⟨⟨_,rfl⟩,_,rfl,hJs⟩
set_option maxRecDepth 100000 in
set_option maxHeartbeats 1000000 in
theorem Tryz.values1_nil (F:Fence) (n:Nat) (h7:F.fn 180) (hro:F.round=none) (l Bs Bo cap:Nat) (a:Option Addr) (J:List Str→World→Prop) (W:World) (hBs:W.cell? ⟨Bs,Bo,none⟩=some (.slice a 0 cap)) (h0:J [] W) :
  CallsIn F n Tryz.prog 180 #[.func (.yield l) #[] #[],.pointer (some ⟨Bs,Bo,none⟩)] W fun e W'=>(∃v,e=.returned v)/\J [] W':=by
 refine callsIn_of_wp Tryz.func180 rfl h7 ?_ hro
 simp only [Tryz.ntmps180,List.size_toArray,List.length_cons,List.length_nil,Nat.reduceAdd,Nat.reduceSub,Array.replicate_succ,Array.replicate_zero,List.push_toArray,List.append_toArray,List.nil_append,List.cons_append]
 gi_wp2
 gi_loopw [7] (fun i wr=>i=.int .i64 0/\J [] wr) (fun _ _=>0)
 case atStart=>exact ⟨rfl,h0⟩
 case round=>
  obtain ⟨rfl,hJs⟩:=hrel
  gi_wp2
  go_end0
  exact ⟨⟨_,rfl⟩,hJs⟩
theorem Tryz.valuesL:rA Tryz.prog 180:=by
 intro w b o sv zs hz hc hs l J W a1 a2 a3 a4 a5
 have hb:=aS hc
 rcases hs with ⟨⟨a,cap,rfl⟩,rfl⟩ | ⟨g,off,cap,rfl,hg,hcs⟩
 ·refine (Tryz.values1_nil Fence.wide 2 trivial rfl l b o cap a J W ((a1.cell (p:=⟨b,o,none⟩) hb).trans hc) a5).mono ?_
  rintro e W' ⟨h1,h2⟩
  exact ⟨h1,[],rfl,h2⟩
 ·refine (Tryz.values1 Fence.wide 2 trivial rfl (by omega) l b o g off zs.length cap zs hz J (fun pre W1 hJ=>⟨((a3 _ _ hJ).cell (p:=⟨b,o,none⟩) hb).trans hc,fun j hj=>((a3 _ _ hJ).cell (p:=⟨g,off+j,none⟩) hg).trans (hcs j hj)⟩)
   (fun pre x W1 h1 h2=>(a4 pre x W1 h1 h2).mono fun e W' h=>⟨h.1,h.2.1⟩) W a5).mono ?_
  rintro e W' ⟨h1,ys,h2,h3⟩
  exact ⟨h1,ys,by rw [h2,A2],h3⟩
end Go.Proofs
end
noncomputable section
namespace Go.AL
open Go.Lib
theorem ta {l:List Str} (hs:l.Pairwise (·<= ·)):(Lib.compact l).length=l.length↔l.Nodup:=by
 unfold Lib.compact Lib.compactUpTo
 rw [List.length_map]
 have e:((List.range l.length).filter (keeps l.toArray)).length=l.length↔∀j,j < l.length→keeps l.toArray j=true:=by
  have h:=List.length_filter_eq_length_iff (p:=keeps l.toArray) (l:=List.range l.length)
  rw [List.length_range] at h
  rw [h]
  simp
 rw [e,List.nodup_iff_pairwise_ne,List.pairwise_iff_getElem]
 rw [List.pairwise_iff_getElem] at hs
 constructor
 ·intro h i j hi hj hij eq
  have hk:=h j hj
  have hj1:j - 1 < l.length:=by omega
  have h1:l[i]<=l[j - 1]:=by
   rcases Nat.lt_or_ge i (j - 1) with q | q
   ·exact hs i (j - 1) hi hj1 q
   ·have:i=j - 1:=by omega
    subst this
    exact List.le_refl _
  have h2:l[j - 1]<=l[j]:=hs (j - 1) j hj1 hj (by omega)
  have h3:l[j - 1]=l[j]:=List.le_antisymm h2 (by rw [←eq];exact h1)
  unfold keeps at hk
  simp [hj,hj1,h3] at hk
  omega
 ·intro h j hj
  unfold keeps
  rcases Nat.eq_zero_or_pos j with q | q
  ·simp [q]
  ·have hj1:j - 1 < l.length:=by omega
   have:=h (j - 1) j hj1 hj (by omega)
   simp [hj,hj1]
   exact .inr fun e=>this e.symm
theorem rC (l:List Str):(dO l).Pairwise (·<= ·):=by
 have tr:∀a b c:Str,decide (a<=b)=true→decide (b<=c)=true→decide (a<=c)=true:=fun a b c h1 h2=>by
  simp only [decide_eq_true_eq] at *;exact List.le_trans h1 h2
 have tot:∀a b:Str,(decide (a<=b) || decide (b<=a))=true:=fun a b=>by
  simp only [Bool.or_eq_true,decide_eq_true_eq];exact List.le_total _ _
 exact (List.pairwise_mergeSort tr tot l).imp fun h=>by simpa using h
theorem tc {l:List Str}:(dO l).Nodup↔l.Nodup:=(List.mergeSort_perm l _).nodup_iff
theorem fZ (l:List Str):(Lib.compact (dO l)).length=l.length↔l.Nodup:=by
 letI:=qU
 rw [←kV l,ta (rC l),tc]
end Go.AL
end
section
namespace Go.Pd
open Go.AL
def ct (c:Int):Bool:=decide (97<=c) && decide (c<=122)
def cD (c:Int):Bool:=decide (65<=c) && decide (c<=90)
def jl (c:Int):Bool:=decide (48<=c) && decide (c<=57)
def dZ (c:Int):Bool:=ct c || cD c || jl c || decide (c=95)
def bI (b:UInt8):Int:=(b.toNat:Int)
def bT (first:Int→Bool) (s:Str):Bool:=!decide (s=[]) && decide (s.length<=24) && first (bI (s.getD 0 0)) && s.all fun c=>dZ (bI c)
def str (s:String):Str:=s.toUTF8.data.toList
def CD:List Str:=[[109,111,100,117,108,101],[105,109,112,111,114,116],[112,105,110],[114,97,110,103,101],[116,121,112,101],[111,112,97,113,117,101],[108,101,116],[105,110],[101,120,112,111,114,116],[102,117,110],[105,102],[116,104,101,110],[101,108,115,101],[99,97,115,101],[111,102],[97,115],[110,101,119],[114,97,119],[116,114,117,101],[102,97,108,115,101]]
def cX (s:Str):Bool:=decide (s∈CD)
def aw (s:Str):Bool:=bT ct s && !cX s
def cU (s:Str):Bool:=bT cD s
mutual
def sz:Shape→Nat
 | ⟨_,_,_,_,ps⟩=>szL ps+1
def szL:List Shape→Nat
 | []=>0
 | p ::r=>sz p+szL r
end
mutual
def eqS:Shape→Shape→Bool
 | ⟨k,p,n,ns,ps⟩,⟨k',p',n',ns',ps'⟩=>decide (k=k') && decide (p=p') && decide (n=n') && decide (ns=ns') && eqL ps ps'
def eqL:List Shape→List Shape→Bool
 | [],[]=>true
 | a ::r,b ::s=>eqS a b && eqL r s
 | _,_=>false
end
mutual
def allS (f:Shape→Bool):Shape→Bool
 | ⟨k,p,n,ns,ps⟩=>f ⟨k,p,n,ns,ps⟩ && allL f ps
def allL (f:Shape→Bool):List Shape→Bool
 | []=>true
 | p ::r=>allS f p && allL f r
end
mutual
def deepS:Shape→Int→Int
 | ⟨_,_,_,_,ps⟩,l=>deepL ps (l+1) l
def deepL:List Shape→Int→Int→Int
 | [],_,d=>d
 | p ::r,l,d=>deepL r l (max d (deepS p l))
end
def gx (s:Str):Bool:=decide (s=[73,110,116]) || decide (s=[66,111,111,108]) || decide (s=[84,101,120,116]) || decide (s=[65,110,121])
def ba:List Str→Str→Int→Int
 | [],_,_=>-1
 | a ::r,v,i=>if a=v then i else ba r v (i+1)
theorem xa (a:Shape):sz a=szL a.parts+1:=by cases a;rfl
theorem rD:∀{l:List Shape} {a:Shape},a∈l→sz a<=szL l
 | b ::r,a,h=>by
  simp only [szL]
  rcases List.mem_cons.1 h with rfl | h
  ·omega
  ·have:=rD h;omega
def cY (s:Shape):Bool:=decide (s.names.length=s.parts.length) && s.names.all aw && decide s.names.Nodup
def aG (s:Shape):Bool:=
 let bare:=decide (s.pkg=[]) && decide (s.name=[])
 if s.kind=1∨s.kind=2∨s.kind=3∨s.kind=4 then bare && decide (s.names=[]) && decide (s.parts=[])
 else if s.kind=5 then bare && decide (s.names=[]) && decide (s.parts.length=1)
 else if s.kind=6∨s.kind=7 then bare && cY s
 else if s.kind=8 then bare && decide (s.names=[]) && !decide (s.parts=[])
 else if s.kind=9 then cU s.name && (decide (s.pkg=[]) && !gx s.name || aw s.pkg) && decide (s.names=[]) && decide (s.parts=[])
 else if s.kind=10 then cU s.name && aw s.pkg && decide (s.names=[]) && decide (s.parts=[])
 else false
theorem ot (a:Shape):0 < sz a:=by rw [xa];omega
theorem xb:∀(l:List Shape),l.length<=szL l
 | []=>Nat.zero_le _
 | a ::r=>by
  have:=xb r
  have:=ot a
  simp only [szL,List.length_cons]
  omega
theorem rE (f:Shape→Bool) (s:Shape):allS f s=(f s && allL f s.parts):=by cases s;rfl
theorem qd {α:Type} (l:List α) (k:Nat) (d:α) (h:k < l.length):l.take (k+1)=l.take k++[l.getD k d]:=by
 rw [List.take_add_one,List.getD_eq_getElem?_getD,List.getElem?_eq_getElem h]
 rfl
end Go.Pd
end
section
namespace Go.Pd
open Go.AL
def dx (s:Shape):Int:=if 400 < sz s then 3 else if 40 < deepS s 1 then 91 else if allS aG s=true then 0 else 70
def CE (t:Nat) (c:Int):Ans:=⟨some (0<=c/\c<=400),some (decide (400 < c+1),.iface t (.agg []),[(900,.box (.int .i64 (c+1)))]),.tup [],[(900,.box (.int .i64 (c+1)))]⟩
def rF (t:Nat):Pat:=fun args S=>
 match args,S with
 | [.ptr 900 0],[(900,.box (.int .i64 c))]=>some (CE t c)
 | _,_=>none
theorem vp [Tabs] {P:Program} {f t:Nat} (he:aq P f) (h:∀c,0<=c/\c<=400→ao P f [.ptr 900 0] [(900,.box (.int .i64 c))] (CE t c)):ag P f (rF t):=by
 intro args S A hA ho _
 unfold rF at hA
 split at hA
 ·simp only [Xs] at hA
  subst hA
  exact ⟨he,h _ (ho _ rfl)⟩
 ·cases hA
def A3 (t:Nat) (s:Shape) (l c:Int) (q:Prop):Ans:=
 ⟨some (q/\0<=c/\c<=400/\1<=l/\l<=c+1),some (decide (400 < c+(sz s:Int)),.iface t (.agg []),[(900,.box (.int .i64 401))]),.int .i64 (deepS s l),[(900,.box (.int .i64 (c+(sz s:Int))))]⟩
def mY (t g:Nat) (n:Nat):Pat:=fun args S=>
 match args,S with
 | [a,.int .i64 l,.fn g' [.ptr 900 0]],[(900,.box (.int .i64 c))]=>
  (match Nat.beq g' g,arg (.st .shape) a with
  | true,some s=>some (A3 t s l c (sz s<=n))
  | _,_=>none)
 | _,_=>none
theorem ou [Tabs] {P:Program} {f t g n:Nat} (he:aq P f) (h:∀s l c,Wf (.st .shape) s→sz s<=n→(0<=c/\c<=400/\1<=l/\l<=c+1)→ao P f [.st .shape s,.int .i64 l,.fn g [.ptr 900 0]] [(900,.box (.int .i64 c))] (A3 t s l c (sz s<=n))) :
  ag P f (mY t g n):=by
 intro args S A hA ho _
 unfold mY at hA
 split at hA
 ·split at hA
  ·rename_i s hb hs
   simp only [Xs] at hA
   subst hA
   have e:=Nat.eq_of_beq_eq_true hb
   subst e
   obtain ⟨h1,h2⟩:=ho _ rfl
   exact ⟨he,ao.args (.cons (Rd.arg hs) (.cons (Rd.refl _) (.cons (Rd.refl _) .nil))) (ao.wf fun hw=>h _ _ _ hw.one h1 h2)⟩
  ·cases hA
 ·cases hA
theorem k6:∀(l:List Shape) (k:Nat) (d:Shape),k < l.length→szL (l.take (k+1))=szL (l.take k)+sz (l.getD k d)
 | a ::r,0,d,_=>by simp [szL]
 | a ::r,k+1,d,h=>by
  have:=k6 r k d (by simpa using h)
  simp only [List.take_succ_cons,szL,List.getD_cons_succ] at this ⊢
  omega
theorem te (l:List Shape) (k:Nat):szL (l.take k)<=szL l:=by
 induction l generalizing k with
 | nil=>simp [szL]
 | cons a r ih=>
  cases k with
  | zero=>simp [szL]
  | succ k=>have:=ih k;simp only [List.take_succ_cons,szL];omega
end Go.Pd
end
section
namespace Go.Pd
open Go.AL
abbrev PS:=Par
def k7 (s:Str):Int:=s.foldl (fun n c=>10 *n+((c.toNat:Int) - 48)) 0
end Go.Pd
end
section
namespace Go.Pd
open Go.AL
def qe (t:Str):Prop:=t≠[]/\t.length<=15/\∀c∈t,48<=c.toNat/\c.toNat<=57
end Go.Pd
end
section
namespace Go.AL
open Go.Proofs Go.Shelf Go.RowKit Go.Pd
theorem mz:∀(l:Str) (acc:Nat),(∀c∈l,48<=c.toNat/\c.toNat<=57)→∃m:Nat,Lib.decFrom acc l=some m/\(m:Int)=l.foldl (fun n c=>10 *n+((c.toNat:Int) - 48)) (acc:Int)/\m < (acc+1) *10 ^ l.length
 | [],acc,_=>⟨acc,rfl,rfl,by simp⟩
 | c ::r,acc,h=>by
  obtain ⟨h1,h2⟩:=h c (List.mem_cons_self ..)
  obtain ⟨m,e1,e2,e3⟩:=mz r (acc *10+(c.toNat - 48)) (fun d hd=>h d (List.mem_cons_of_mem _ hd))
  refine ⟨m,?_,?_,?_⟩
  ·simp only [Lib.decFrom,Lib.digitVal,h1,h2,and_self,if_true];exact e1
  ·rw [e2,List.foldl_cons]
   congr 1
   omega
  ·refine Nat.lt_of_lt_of_le e3 ?_
   rw [List.length_cons,Nat.pow_succ,←Nat.mul_assoc,Nat.mul_right_comm]
   exact Nat.mul_le_mul_right _ (by omega)
theorem A4 {t:Str} (h:qe t):Lib.atoi t=some (k7 t)/\0<=k7 t/\k7 t < 1000000000000000:=by
 obtain ⟨h1,h2,h3⟩:=h
 obtain ⟨m,e1,e2,e3⟩:=mz t 0 h3
 have e4:(m:Int)=k7 t:=e2
 refine ⟨?_,by omega,?_⟩
 ·cases t with
  | nil=>exact absurd rfl h1
  | cons c r=>
   have hc:=h3 c (List.mem_cons_self ..)
   have n1:(c ==45)=false:=by rw [beq_eq_false_iff_ne];rintro rfl;simp at hc
   have n2:(c ==43)=false:=by rw [beq_eq_false_iff_ne];rintro rfl;simp at hc
   simp only [Lib.atoi,n1,n2,Bool.false_eq_true,if_false,Lib.decNat,List.isEmpty_cons,e1,Option.map_some,e4]
 ·have:m < 10 ^ t.length:=by simpa using e3
  have h10:10 ^ t.length<=10 ^ 15:=Nat.pow_le_pow_right (by decide) h2
  have:m < 1000000000000000:=Nat.lt_of_lt_of_le this h10
  omega
variable [Tabs] {P:Program} {ρ:Ren}
theorem After.below {w w':World} {pub:Nat→Nat→Prop} {e:Nat→Option CObj} (hp:j0 w pub) (hd:∀id,e id=none) (hb:Below w.heap.size w w'):After w pub e (aj (bR [] [])) w' pub e where
 os:=hb.os
 tape:=hb.tape
 output:=hb.output
 size:=hb.size
 block b h _:=hb.block b h
 cell b o h _:=ak (hb.block b h) o
 kind b h _:=⟨b7 (hb.block b h),fun o=>aO (hb.block b h) o⟩
 ext:=⟨fun _ c h=>⟨c,h,CLe.refl c⟩,fun _ _ h=>h,fun b o h=>by obtain ⟨v,hv⟩:=hp b o h;exact ak (hb.block b (aS hv)) o⟩
 fresh b o h:=.inl h
 ok b o h:=by obtain ⟨v,hv⟩:=hp b o h;exact ⟨v,(ak (hb.block b (aS hv)) o).trans hv⟩
 slots id o h:=by simp [bR,aH,aF] at h
 dom id _:=hd id
 inj i j c d b o h:=by rw [hd i] at h;cases h
theorem vq (L:Lays.n172 P ρ) (t:Str) (h:qe t):ao P (ρ.f 172) [.str t] [] ⟨some (qe t),none,.tup [.int .i64 (k7 t),.nilif],[]⟩:=by
 intro w pub e vs hp ht hv hs hd hi
 obtain ⟨v,rfl,h1⟩:=VL.one_inv hv
 obtain ⟨rfl,hl⟩:=h1.str_inv
 obtain ⟨a1,a2,a3⟩:=A4 h
 refine (Any.strconv_Atoi L ⟨t.toArray⟩ (k7 t) (by have:=h.2.1;show t.toArray.size<=18;simp;omega) (by simpa using a1) w).mono ?_
 rintro en w' ⟨rfl,ty,rfl⟩
 refine ⟨pub,e,?_⟩
 refine And.intro (fun b pv u h=>by cases h) (And.intro ?_ (After.below hp (fun id=>hd id rfl) (Lib.bytesWorld_below w _ _)))
 have b1:inR .i64 (k7 t):=bM (by omega) (by omega)
 exact V.of_tup (VL.cons (.int _ _ b1.1 b1.2) (VL.cons .nilif .nil))
def BS:Pat:=p1 .str fun t=>⟨some (qe t),none,.tup [.int .i64 (k7 t),.nilif],[]⟩
theorem vr {f:Nat} (L:Lays.n172 P ρ) (hf:ρ.f 172=f) (he:aq P f):ag P f BS:=by
 subst hf
 exact bO he fun t _ ho=>vq L t (ho _ rfl)
end Go.AL
end
section
namespace Go.AL.Seat
open Go Go.AL Go.Proofs Go.Shelf Go.Pd
variable [Tabs]
theorem DI:SortL Tryz.prog Tryz.sorted200_ren:=
 ⟨Tryz.sorted200,⟨fun blk off cap ss W hH hblk hsz=>callsIn_wide.2 (Any.slices_Sort_string Tryz.lays190 blk off cap ss W hH hblk hsz),fun p cap W=>callsIn_wide.2 (Any.slices_Sort_string_none Tryz.lays190 p cap W)⟩,enters_of Tryz.func179 (by kernel_rfl) rfl⟩
theorem kq:ag Tryz.prog 144 (kn 180):=
 px DI rfl (enters_of Tryz.func180 (by kernel_rfl) rfl) Tryz.valuesL (aq.mk' Tryz.func144 (by kernel_rfl))
theorem jm:ag Tryz.prog 146 ko:=py Tryz.lays194 rfl (aq.mk' Tryz.func146 (by kernel_rfl))
theorem A5:ag Tryz.prog 123 (p1 .str fun t=>⟨some (qe t),none,.tup [.int .i64 (k7 t),.nilif],[]⟩):=vr Tryz.lays172 rfl (aq.mk' Tryz.func123 (by kernel_rfl))
end Go.AL.Seat
end
section
namespace Go.Proofs
open Go.Shelf
def Tryz.lays173_ren:Go.Shelf.Ren:=⟨fun | 173=>107 | 246=>150 | 283=>182 | 284=>183 | 285=>184 | 286=>185 | 129=>208 | 317=>207 | 318=>209 | 319=>210 | 320=>211 | 337=>232 | 338=>233 | n=>n,fun | 2=>2 | 3=>3 | 9=>9 | 4=>4 | 171=>208 | 0=>0 | 53=>209 | 37=>175 | 5=>5 | 173=>212 | 212=>231 | 51=>232 | 20=>20 | 213=>233 | 46=>205 | 232=>262 | 233=>263 | n=>n,fun | 17=>2 | 18=>6 | 19=>7 | n=>n⟩
theorem Tryz.lays173:Go.Proofs.LaysM.n173 Tryz.prog Tryz.lays173_ren:={
 mixed:=by kernel_rfl
 f129:=Xt Tryz.func208
 f173:=Xt Tryz.func107
 f246:=Xt Tryz.func150
 f283:=Xt Tryz.func182
 f284:=Xt Tryz.func183
 f285:=Xt Tryz.func184
 f286:=Xt Tryz.func185
 f317:=Xt Tryz.func207
 f318:=Xt Tryz.func209
 f319:=Xt Tryz.func210
 f320:=Xt Tryz.func211
 f337:=Xt Tryz.func232
 f338:=Xt Tryz.func233
 t0:=Tryz.underlying0
 a0:=Tryz.isAgg0
 z0:=Tryz.sizeOf0
 v0:=Tryz.zeroValue0
 t2:=Tryz.underlying2
 a2:=Tryz.isAgg2
 z2:=Tryz.sizeOf2
 v2:=Tryz.zeroValue2
 t3:=Tryz.underlying3
 a3:=Tryz.isAgg3
 z3:=Tryz.sizeOf3
 v3:=Tryz.zeroValue3
 t4:=Tryz.underlying4
 a4:=Tryz.isAgg4
 z4:=Tryz.sizeOf4
 v4:=Tryz.zeroValue4
 t5:=Tryz.underlying5
 a5:=Tryz.isAgg5
 z5:=Tryz.sizeOf5
 v5:=Tryz.zeroValue5
 t9:=Tryz.underlying9
 a9:=Tryz.isAgg9
 z9:=Tryz.sizeOf9
 v9:=Tryz.zeroValue9
 t20:=Tryz.underlying20
 a20:=Tryz.isAgg20
 z20:=Tryz.sizeOf20
 v20:=Tryz.zeroValue20
 t37:=Tryz.underlying175
 a37:=Tryz.isAgg175
 z37:=Tryz.sizeOf175
 v37:=Tryz.zeroValue175
 t46:=Tryz.underlying205
 a46:=Tryz.isAgg205
 z46:=Tryz.sizeOf205
 v46:=Tryz.zeroValue205
 t51:=Tryz.underlying232
 a51:=Tryz.isAgg232
 z51:=Tryz.sizeOf232
 v51:=Tryz.zeroValue232
 t53:=Tryz.underlying209
 a53:=Tryz.isAgg209
 z53:=Tryz.sizeOf209
 v53:=Tryz.zeroValue209
 t171:=Tryz.underlying208
 a171:=Tryz.isAgg208
 z171:=Tryz.sizeOf208
 v171:=Tryz.zeroValue208
 t173:=Tryz.underlying212
 a173:=Tryz.isAgg212
 z173:=Tryz.sizeOf212
 v173:=Tryz.zeroValue212
 t212:=Tryz.underlying231
 a212:=Tryz.isAgg231
 z212:=Tryz.sizeOf231
 v212:=Tryz.zeroValue231
 t213:=Tryz.underlying233
 a213:=Tryz.isAgg233
 z213:=Tryz.sizeOf233
 t232:=Tryz.underlying262
 a232:=Tryz.isAgg262
 z232:=Tryz.sizeOf262
 v232:=Tryz.zeroValue262
 t233:=Tryz.underlying263
 a233:=Tryz.isAgg263
 z233:=Tryz.sizeOf263
 v233:=Tryz.zeroValue263
 g17:=by kernel_rfl
 g18:=by kernel_rfl
 g19:=by kernel_rfl
 i0:=by kernel_rfl
 i2:=by kernel_rfl
 i3:=by kernel_rfl
 i4:=by kernel_rfl
 i5:=by kernel_rfl
 i9:=by kernel_rfl
 i20:=by kernel_rfl
 i37:=by kernel_rfl
 i46:=by kernel_rfl
 i51:=by kernel_rfl
 i53:=by kernel_rfl
 i171:=by kernel_rfl
 i173:=by kernel_rfl
 i212:=by kernel_rfl
 i232:=by kernel_rfl
 i233:=by kernel_rfl
 m17:=by kernel_rfl
 m18:=by kernel_rfl
 m19:=by kernel_rfl}
end Go.Proofs
end
section
namespace Go.AL
variable [Tabs]
def RdO:SObj→SObj→Prop
 | .box c,.box d=>RdL (aa c) (aa d)
 | o,o'=>o=o'
inductive RdS:List (Nat × SObj)→List (Nat × SObj)→Prop
 | nil:RdS [] []
 | cons {i:Nat} {o o':SObj} {r r':List (Nat × SObj)}:RdO o o'→RdS r r'→RdS ((i,o) ::r) ((i,o') ::r')
section
variable {P:Program} {f:Nat}
end
end Go.AL
end
section
namespace Go.Pd
open Go.AL
mutual
def szT:Trm→Nat
 | ⟨_,_,_,_,_,_,_,ps,_⟩=>szTL ps+1
def szTL:List Trm→Nat
 | []=>0
 | p ::r=>szT p+szTL r
end
mutual
def countT:Trm→Int→Int × Int
 | ⟨_,_,_,_,_,_,_,ps,_⟩,m=>((countL ps m 1 0).1,(countL ps m 1 0).2+1)
def countL:List Trm→Int→Int→Int→Int × Int
 | [],_,n,d=>(n,d)
 | p ::r,m,n,d=>if m < n then (n,d) else countL r m (n+(countT p (m - n)).1) (max d (countT p (m - n)).2)
end
theorem yh (t:Trm) (m:Int):countT t m=((countL t.parts m 1 0).1,(countL t.parts m 1 0).2+1):=by cases t;rw [countT]
theorem vt (t:Trm):szT t=szTL t.parts+1:=by cases t;rw [szT]
theorem xc (t:Trm):1<=szT t:=by rw [vt];omega
mutual
theorem countT_bound:∀(t:Trm) (m:Int),0<=m→1<=(countT t m).1/\(countT t m).1<=m+1/\1<=(countT t m).2/\(countT t m).2<=(countT t m).1
 | ⟨k,g,q,z,ns,vs,ss,ps,pp⟩,m,hm=>by
  have h:=countL_bound ps m 1 0 (by omega) (by omega) (by omega) (by omega)
  rw [countT]
  exact ⟨h.1,h.2.1,by show 1<=(countL ps m 1 0).2+1;omega,by show (countL ps m 1 0).2+1<=_;omega⟩
theorem countL_bound:∀(l:List Trm) (m n d:Int),1<=n→n<=m+1→0<=d→d+1<=n→1<=(countL l m n d).1/\(countL l m n d).1<=m+1/\0<=(countL l m n d).2/\(countL l m n d).2+1<=(countL l m n d).1
 | [],m,n,d,h1,h2,h3,h4=>by rw [countL];exact ⟨h1,h2,h3,h4⟩
 | p ::r,m,n,d,h1,h2,h3,h4=>by
  rw [countL]
  split
  ·exact ⟨h1,h2,h3,h4⟩
  ·have h:=countT_bound p (m - n) (by omega)
   exact countL_bound r m _ _ (by omega) (by omega) (by omega) (by omega)
end
theorem rG:∀{l:List Trm} {t:Trm},t∈l→szT t<=szTL l
 | p ::r,t,h=>by
  rw [szTL]
  rcases List.mem_cons.1 h with e | e
  ·subst e;omega
  ·have:=rG e;omega
def aT {α:Type} (F:α→Bool):List α→Nat→Int
 | [],_=>-1
 | x ::r,k=>if F x=true then aT F r (k+1) else (k:Int)
theorem ga {α:Type} (F:α→Bool):∀(l:List α) (k:Nat),decide (0<=aT F l k)=!l.all F
 | [],_=>rfl
 | x ::r,k=>by
  rw [aT,List.all_cons]
  by_cases h:F x=true
  ·rw [if_pos h,ga F r (k+1),h];rfl
  ·rw [if_neg h]
   have:F x=false:=by simpa using h
   rw [this]
   simp
def b8 (s:Shape):Bool:=!decide (s.kind=10)
theorem tg (f:Shape→Bool):∀l:List Shape,allL f l=l.all (allS f)
 | []=>rfl
 | p ::r=>by rw [List.all_cons,←tg f r];rfl
end Go.Pd
end
section
namespace Go.AL
variable [Tabs]
section
variable {P:Program} {f:Nat}
def pfc (τ:Ty) (n g:Nat) (F:den τ→Ans):Pat
 | [a,.fn f [.ptr 900 0]],[(900,.box (.fn h []))]=>(match Nat.beq f n,Nat.beq h g,arg τ a with | true,true,some a=>some (F a) | _,_,_=>none)
 | _,_=>none
theorem fh {τ:Ty} {n g:Nat} {F:den τ→Ans} (he:aq P f) (h:∀x,Wf τ x→(∀q,(F x).ob=some q→q)→ao P f [inj τ x,.fn n [.ptr 900 0]] [(900,.box (.fn g []))] (F x)):ag P f (pfc τ n g F):=by
 intro args S A hA ho _
 unfold pfc at hA
 split at hA
 ·split at hA
  ·rename_i hb hc hx
   simp only [Xs] at hA
   subst hA
   have e:=Nat.eq_of_beq_eq_true hb
   subst e
   have e:=Nat.eq_of_beq_eq_true hc
   subst e
   exact ⟨he,ao.args (.cons (Rd.arg hx) (.cons (Rd.refl _) .nil)) (ao.wf fun hw=>h _ hw.one ho)⟩
  ·cases hA
 ·cases hA
def pcl (τ:Ty) (g:Nat) (F:den τ→Ans):Pat
 | [a,.ptr 900 0],[(900,.box (.fn h []))]=>(match Nat.beq h g,arg τ a with | true,some a=>some (F a) | _,_=>none)
 | _,_=>none
theorem lM {τ:Ty} {g:Nat} {F:den τ→Ans} (he:aq P f) (h:∀x,Wf τ x→(∀q,(F x).ob=some q→q)→ao P f [inj τ x,.ptr 900 0] [(900,.box (.fn g []))] (F x)):ag P f (pcl τ g F):=by
 intro args S A hA ho _
 unfold pcl at hA
 split at hA
 ·split at hA
  ·rename_i hc hx
   simp only [Xs] at hA
   subst hA
   have e:=Nat.eq_of_beq_eq_true hc
   subst e
   exact ⟨he,ao.args (.cons (Rd.arg hx) (.cons (Rd.refl _) .nil)) (ao.wf fun hw=>h _ hw.one ho)⟩
  ·cases hA
 ·cases hA
end
end Go.AL
end
section
namespace Go.Pd
open Go.AL
def cut (s:Str) (a b:Int):Str:=(s.take b.toNat).drop a.toNat
def mA (r:Str) (k:Nat):Bool:=decide (k < r.length) && decide ((r.getD k 0).toNat / 64=2)
def mK (r:Str) (k:Nat):Nat:=(r.getD k 0).toNat % 64
def mZ (c:Nat):Bool:=decide (c < 1114112) && !(decide (55296<=c) && decide (c < 57344))
def rH:Str→Nat
 | []=>0
 | b ::r=>
  if b.toNat < 128 then 1
  else if b.toNat / 32=6/\mA r 0=true then (if 128<=b.toNat % 32 *64+mK r 0 then 2 else 0)
  else if b.toNat / 16=14/\mA r 0=true/\mA r 1=true then
   (if 2048<=b.toNat % 16 *4096+mK r 0 *64+mK r 1/\mZ (b.toNat % 16 *4096+mK r 0 *64+mK r 1)=true then 3 else 0)
  else if b.toNat / 8=30/\mA r 0=true/\mA r 1=true/\mA r 2=true then
   (if 65536<=b.toNat % 8 *262144+mK r 0 *4096+mK r 1 *64+mK r 2/\mZ (b.toNat % 8 *262144+mK r 0 *4096+mK r 1 *64+mK r 2)=true then 4 else 0)
  else 0
def xe:Nat→Str→Nat→Option Nat
 | 0,_,_=>none
 | f+1,x,k=>if x=[] then none else if rH x=0 then some k else xe f (x.drop (rH x)) (k+rH x)
def ow (x:Str):Option Nat:=xe x.length x 0
structure SC where
 pos:Int
 out:List Tokn
 err:Int
 fat:Int
def splitB (c:UInt8):Str→List Str
 | []=>[[]]
 | b ::r=>if b=c then [] ::splitB c r else match splitB c r with | []=>[[b]] | p ::ps=>(b ::p) ::ps
def gy (s:Str):Str:=s.takeWhile fun b=>!decide (b=45)
def kr (s:Str):Str:=s.drop ((gy s).length+1)
def lN (s:Str):Bool:=decide ((gy s).length < s.length)
end Go.Pd
end
section
namespace Go.Pd
open Go.AL
end Go.Pd
namespace Go.Pd
open Go.AL
def ox:Str:=[48,49,50,51,52,53,54,55,56,57]
def mB (b:UInt8):Bool:=jl (bI b)
def oy (s:Str):Str:=(s.reverse.dropWhile mB).reverse.dropWhile mB
def A6 (s:Str) (c:Int):Int:=aT (fun b=>!decide (bI b=c)) s 0
def iD (s:Str):Nat × Nat:=if s=[] then (65533,0) else Lib.decodeN s.length (s.getD 0 0).toNat (s.getD 1 0).toNat (s.getD 2 0).toNat (s.getD 3 0).toNat
theorem pz {p:UInt8→Bool}:∀{l:Str},l.dropWhile p=[]↔l.all p=true
 | []=>by simp
 | b ::r=>by
  rw [List.dropWhile_cons]
  split
  ·rename_i h
   rw [pz,List.all_cons,h,Bool.true_and]
  ·rename_i h
   simp [h]
theorem A7 (s:Str):(oy s).length<=s.length:=by
 unfold oy
 have h1:=(List.dropWhile_sublist (p:=mB) (l:=(s.reverse.dropWhile mB).reverse)).length_le
 have h2:=(List.dropWhile_sublist (p:=mB) (l:=s.reverse)).length_le
 rw [List.length_reverse] at h1 h2
 omega
def yi (n b0 b1 b2 b3:Nat):Nat:=
 if b0 < 128 then 1
 else if b0 / 32=6/\(1 < n/\b1 / 64=2) then (if b0 % 32 *64+b1 % 64≥128 then 2 else 0)
 else if b0 / 16=14/\(1 < n/\b1 / 64=2)/\(2 < n/\b2 / 64=2) then
  (if b0 % 16 *4096+b1 % 64 *64+b2 % 64≥2048/\(b0 % 16 *4096+b1 % 64 *64+b2 % 64 < 55296∨(57344<=b0 % 16 *4096+b1 % 64 *64+b2 % 64/\b0 % 16 *4096+b1 % 64 *64+b2 % 64<=1114111)) then 3 else 0)
 else if b0 / 8=30/\(1 < n/\b1 / 64=2)/\(2 < n/\b2 / 64=2)/\(3 < n/\b3 / 64=2) then
  (if b0 % 8 *262144+b1 % 64 *4096+b2 % 64 *64+b3 % 64≥65536/\(b0 % 8 *262144+b1 % 64 *4096+b2 % 64 *64+b3 % 64 < 55296∨(57344<=b0 % 8 *262144+b1 % 64 *4096+b2 % 64 *64+b3 % 64/\b0 % 8 *262144+b1 % 64 *4096+b2 % 64 *64+b3 % 64<=1114111)) then 4 else 0)
 else 0
theorem th (n b0 b1 b2 b3:Nat) (h1:b1 < 256) (h2:b2 < 256) (h3:b3 < 256) (h0:b0 < 256) (hn:1<=n) :
  ((Lib.decodeN n b0 b1 b2 b3).1=65533/\(Lib.decodeN n b0 b1 b2 b3).2=1↔yi n b0 b1 b2 b3=0)/\(yi n b0 b1 b2 b3≠0→(Lib.decodeN n b0 b1 b2 b3).2=yi n b0 b1 b2 b3)/\
  (Lib.decodeN n b0 b1 b2 b3).1<=1114111/\1<=(Lib.decodeN n b0 b1 b2 b3).2/\(Lib.decodeN n b0 b1 b2 b3).2<=n:=by
 unfold Lib.decodeN yi
 by_cases c1:b0 < 128
 ·simp only [if_pos c1];refine ⟨⟨fun e=>?_,fun e=>?_⟩,fun e=>?_,?_,?_,?_⟩ <;> first | omega | exact ⟨rfl,rfl⟩ | exact ⟨trivial,trivial⟩ | exact (e rfl).elim | exact e.elim | exact (e trivial).elim | simp only at *
 simp only [if_neg c1]
 by_cases c2:b0 / 32=6/\(1 < n/\b1 / 64=2)
 ·simp only [if_pos c2]
  by_cases d:b0 % 32 *64+b1 % 64≥128
  ·simp only [if_pos d];refine ⟨⟨fun e=>?_,fun e=>?_⟩,fun e=>?_,?_,?_,?_⟩ <;> first | omega | exact ⟨rfl,rfl⟩ | exact ⟨trivial,trivial⟩ | exact (e rfl).elim | exact e.elim | exact (e trivial).elim | simp only at *
  ·simp only [if_neg d];refine ⟨⟨fun e=>?_,fun e=>?_⟩,fun e=>?_,?_,?_,?_⟩ <;> first | omega | exact ⟨rfl,rfl⟩ | exact ⟨trivial,trivial⟩ | exact (e rfl).elim | exact e.elim | exact (e trivial).elim | simp only at *
 simp only [if_neg c2]
 by_cases c3:b0 / 16=14/\(1 < n/\b1 / 64=2)/\(2 < n/\b2 / 64=2)
 ·simp only [if_pos c3]
  by_cases d:b0 % 16 *4096+b1 % 64 *64+b2 % 64≥2048/\(b0 % 16 *4096+b1 % 64 *64+b2 % 64 < 55296∨(57344<=b0 % 16 *4096+b1 % 64 *64+b2 % 64/\b0 % 16 *4096+b1 % 64 *64+b2 % 64<=1114111))
  ·simp only [if_pos d];refine ⟨⟨fun e=>?_,fun e=>?_⟩,fun e=>?_,?_,?_,?_⟩ <;> first | omega | exact ⟨rfl,rfl⟩ | exact ⟨trivial,trivial⟩ | exact (e rfl).elim | exact e.elim | exact (e trivial).elim | simp only at *
  ·simp only [if_neg d];refine ⟨⟨fun e=>?_,fun e=>?_⟩,fun e=>?_,?_,?_,?_⟩ <;> first | omega | exact ⟨rfl,rfl⟩ | exact ⟨trivial,trivial⟩ | exact (e rfl).elim | exact e.elim | exact (e trivial).elim | simp only at *
 simp only [if_neg c3]
 by_cases c4:b0 / 8=30/\(1 < n/\b1 / 64=2)/\(2 < n/\b2 / 64=2)/\(3 < n/\b3 / 64=2)
 ·simp only [if_pos c4]
  by_cases d:b0 % 8 *262144+b1 % 64 *4096+b2 % 64 *64+b3 % 64≥65536/\(b0 % 8 *262144+b1 % 64 *4096+b2 % 64 *64+b3 % 64 < 55296∨(57344<=b0 % 8 *262144+b1 % 64 *4096+b2 % 64 *64+b3 % 64/\b0 % 8 *262144+b1 % 64 *4096+b2 % 64 *64+b3 % 64<=1114111))
  ·simp only [if_pos d];refine ⟨⟨fun e=>?_,fun e=>?_⟩,fun e=>?_,?_,?_,?_⟩ <;> first | omega | exact ⟨rfl,rfl⟩ | exact ⟨trivial,trivial⟩ | exact (e rfl).elim | exact e.elim | exact (e trivial).elim | simp only at *
  ·simp only [if_neg d];refine ⟨⟨fun e=>?_,fun e=>?_⟩,fun e=>?_,?_,?_,?_⟩ <;> first | omega | exact ⟨rfl,rfl⟩ | exact ⟨trivial,trivial⟩ | exact (e rfl).elim | exact e.elim | exact (e trivial).elim | simp only at *
 simp only [if_neg c4]
 refine ⟨⟨fun e=>?_,fun e=>?_⟩,fun e=>?_,?_,?_,?_⟩ <;> first | omega | exact ⟨rfl,rfl⟩ | exact ⟨trivial,trivial⟩ | exact (e rfl).elim | exact e.elim | exact (e trivial).elim | simp only at *
theorem tj (c:Nat):mZ c=true↔(c < 55296∨(57344<=c/\c<=1114111)):=by
 unfold mZ
 simp only [Bool.and_eq_true,decide_eq_true_eq,Bool.not_eq_true',Bool.and_eq_false_iff,decide_eq_false_iff_not]
 omega
theorem yj (r:Str) (k:Nat):mA r k=true↔(k+1 < r.length+1/\(r.getD k 0).toNat / 64=2):=by
 unfold mA
 simp only [Bool.and_eq_true,decide_eq_true_eq]
 omega
theorem D0 (b:UInt8) (r:Str):rH (b ::r)=yi (r.length+1) b.toNat (r.getD 0 0).toNat (r.getD 1 0).toNat (r.getD 2 0).toNat:=by
 unfold rH yi mK
 simp only [yj,tj]
theorem tl {s:Str} (h:s≠[]):((iD s).1=65533/\(iD s).2=1↔rH s=0)/\(rH s≠0→(iD s).2=rH s)/\(iD s).1<=1114111/\1<=(iD s).2/\(iD s).2<=s.length:=by
 cases s with
 | nil=>exact absurd rfl h
 | cons b r=>
  have e:iD (b ::r)=Lib.decodeN (r.length+1) b.toNat (r.getD 0 0).toNat (r.getD 1 0).toNat (r.getD 2 0).toNat:=by
   unfold iD
   rw [if_neg h]
   rfl
  rw [e,D0,List.length_cons]
  exact th _ _ _ _ _ (r.getD 0 0).toNat_lt (r.getD 1 0).toNat_lt (r.getD 2 0).toNat_lt b.toNat_lt (by omega)
end Go.Pd
namespace Go.Pd
open Go.AL
end Go.Pd
namespace Go.Pd
open Go.AL
end Go.Pd
namespace Go.Pd
open Go.AL
theorem k8 (c:UInt8):∀s:Str,(splitB c s).length<=s.length+1
 | []=>by simp [splitB]
 | b ::r=>by
  have ih:=k8 c r
  unfold splitB
  split
  ·simp only [List.length_cons];omega
  ·split
   ·simp
   ·rename_i e
    rw [e] at ih
    simp only [List.length_cons] at ih ⊢
    omega
end Go.Pd
namespace Go.Pd
open Go.AL
theorem yk (s:Str):(gy s).length<=s.length:=(List.takeWhile_sublist _).length_le
end Go.Pd
namespace Go.Pd
open Go.AL
end Go.Pd
namespace Go.Pd
open Go.AL
end Go.Pd
end
section
namespace Go.AL
open Go.Proofs Go.Shelf Go.RowKit Go.Pd
theorem fw {c:UInt8}:∀{s:Str},Lib.indexByte s c=-1→c∉s
 | [],_=>List.not_mem_nil
 | b ::r,h=>by
  unfold Lib.indexByte at h
  by_cases e:b=c
  ·subst e;simp at h
  ·have e':(b ==c)=false:=beq_eq_false_iff_ne.2 e
   rw [e'] at h
   simp only [Bool.false_eq_true,if_false] at h
   have hg:=Lib.indexByte_ge r c
   split at h
   ·rename_i k
    have:=fw (s:=r) (by simpa using k)
    rw [List.mem_cons,not_or]
    exact ⟨fun q=>e q.symm,this⟩
   ·omega
theorem ea {c:UInt8}:∀{s:Str},Lib.indexByte s c≠-1→∃k:Nat,Lib.indexByte s c=k/\k < s.length/\s=s.take k++c ::s.drop (k+1)/\c∉s.take k
 | [],h=>absurd rfl h
 | b ::r,h=>by
  unfold Lib.indexByte at h ⊢
  by_cases e:b=c
  ·subst e
   refine ⟨0,by simp,by simp,by simp,by simp⟩
  ·have e':(b ==c)=false:=beq_eq_false_iff_ne.2 e
   rw [e'] at h ⊢
   simp only [Bool.false_eq_true,if_false] at h ⊢
   split at h
   ·exact absurd rfl h
   ·rename_i k
    obtain ⟨j,j1,j2,j3,j4⟩:=ea (s:=r) (by simpa using k)
    rw [if_neg k]
    refine ⟨j+1,by rw [j1];rfl,by simp;omega,?_,?_⟩
    ·rw [List.take_succ_cons,List.drop_succ_cons,List.cons_append,←j3]
    ·rw [List.take_succ_cons,List.mem_cons,not_or]
     exact ⟨fun q=>e q.symm,j4⟩
theorem oz {c:UInt8}:∀{s:Str},c∉s→splitB c s=[s]
 | [],_=>rfl
 | b ::r,h=>by
  rw [List.mem_cons,not_or] at h
  unfold splitB
  rw [if_neg (fun e=>h.1 e.symm),oz h.2]
theorem qf {c:UInt8}:∀{a:Str} (r:Str),c∉a→splitB c (a++c ::r)=a ::splitB c r
 | [],r,_=>by rw [List.nil_append,splitB,if_pos rfl]
 | b ::a,r,h=>by
  rw [List.mem_cons,not_or] at h
  rw [List.cons_append,splitB,if_neg (fun e=>h.1 e.symm),qf r h.2]
theorem oA (c:UInt8):∀(n:Nat) (s:Str),s.length<=n→Lib.splitK [c] 0 (s.count c) s=splitB c s
 | n,s,hn=>by
  by_cases h:Lib.indexByte s c=-1
  ·have hm:=fw h
   rw [List.count_eq_zero.2 hm,oz hm]
   rfl
  ·obtain ⟨k,k1,k2,k3,k4⟩:=ea h
   have hc:s.count c=(s.drop (k+1)).count c+1:=by
    have e:=congrArg (List.count c) k3
    rw [List.count_append,List.count_cons_self,List.count_eq_zero.2 k4] at e
    omega
   rw [hc]
   unfold Lib.splitK
   rw [Lib.index_one,if_neg (by simpa using h),k1]
   have hd:(k:Int).toNat+[c].length=k+1:=rfl
   have ht:(k:Int).toNat+0=k:=rfl
   rw [hd,ht]
   cases n with
   | zero=>omega
   | succ n=>
    rw [oA c n (s.drop (k+1)) (by rw [List.length_drop];omega)]
    conv=>rhs;rw [k3]
    rw [qf _ k4]
theorem kW {c:UInt8}:∀{a:Str} (r:Str),c∉a→(a++c ::r).takeWhile (fun b=>!decide (b=c))=a
 | [],r,_=>by simp
 | b ::a,r,h=>by
  rw [List.mem_cons,not_or] at h
  have hb:¬b=c:=fun e=>h.1 e.symm
  rw [List.cons_append,List.takeWhile_cons]
  simp only [hb,decide_false,Bool.not_false,if_true]
  rw [kW r h.2]
theorem pA {c:UInt8} {s:Str} (h:c∉s):s.takeWhile (fun b=>!decide (b=c))=s:=by
 induction s with
 | nil=>rfl
 | cons b r ih=>
  rw [List.mem_cons,not_or] at h
  have hb:¬b=c:=fun e=>h.1 e.symm
  rw [List.takeWhile_cons]
  simp only [hb,decide_false,Bool.not_false,if_true]
  rw [ih h.2]
theorem A8 (s:Str):Lib.cut s [45]=(gy s,kr s,lN s):=by
 unfold Lib.cut
 rw [Lib.index_one]
 by_cases h:Lib.indexByte s 45=-1
 ·have hm:=fw h
  rw [h,if_neg (by decide)]
  have e:gy s=s:=pA hm
  unfold kr lN
  rw [e,List.drop_eq_nil_of_le (by omega)]
  simp
 ·obtain ⟨k,k1,k2,k3,k4⟩:=ea h
  rw [k1,if_pos (by omega)]
  have e:gy s=s.take k:=by
   unfold gy
   conv=>lhs;rw [k3]
   exact kW _ k4
  have hl:(s.take k).length=k:=by rw [List.length_take];omega
  unfold kr lN
  rw [e,hl]
  simp [k2]
theorem BT (s:Str) (c:Int) (h0:0<=c) (h1:c<=255):∀k:Nat,aT (fun b=>!decide (bI b=c)) s k=if Lib.indexByte s c.toNat.toUInt8=-1 then -1 else Lib.indexByte s c.toNat.toUInt8+k:=by
 have hb:∀b:UInt8,(bI b=c)↔b=c.toNat.toUInt8:=by
  intro b
  unfold bI
  constructor
  ·intro e
   have:c.toNat=b.toNat:=by omega
   rw [this]
   simp
  ·intro e
   rw [e]
   simp [Nat.toUInt8]
   omega
 induction s with
 | nil=>intro k;rfl
 | cons b r ih=>
  intro k
  rw [aT]
  by_cases e:bI b=c
  ·have e2:=(hb b).1 e
   rw [if_neg (by simp [e])]
   unfold Lib.indexByte
   rw [e2]
   simp
  ·have e2:(b ==c.toNat.toUInt8)=false:=beq_eq_false_iff_ne.2 (fun q=>e ((hb b).2 q))
   rw [if_pos (by simp [e]),ih (k+1)]
   have hg:=Lib.indexByte_ge r c.toNat.toUInt8
   have e3:Lib.indexByte (b ::r) c.toNat.toUInt8=(if b ==c.toNat.toUInt8 then 0 else if Lib.indexByte r c.toNat.toUInt8 ==-1 then -1 else Lib.indexByte r c.toNat.toUInt8+1):=rfl
   rw [e3,e2]
   simp only [Bool.false_eq_true,if_false,beq_iff_eq]
   by_cases q:Lib.indexByte r c.toNat.toUInt8=-1
   ·rw [if_pos q,if_pos q];rfl
   ·rw [if_neg q,if_neg q,if_neg (by omega)]
    omega
theorem tm (s:Str) (c:UInt8):decide (0<=Lib.indexByte s c)=decide (c∈s):=by
 have hg:=Lib.indexByte_ge s c
 rw [decide_eq_decide]
 by_cases h:Lib.indexByte s c=-1
 ·exact ⟨fun e=>by omega,fun e=>absurd e (fw h)⟩
 ·obtain ⟨k,k1,k2,k3,k4⟩:=ea h
  exact ⟨fun _=>by rw [k3];simp,fun _=>by omega⟩
variable [Tabs] {P:Program} {ρ:Ren}
theorem Below.drawn (w:World) (n:Nat):Below w.heap.size w (w.drewN n):=⟨rfl,rfl,rfl,Nat.le_refl _,fun _ _=>rfl⟩
theorem After.news {w w':World} {pub:Nat→Nat→Prop} {e:Nat→Option CObj} (hp:j0 w pub) (hd:∀id,e id=none) (hb:Below w.heap.size w w') {p:Nat→Prop} (hc:∀o,p o→∃v,w'.cell? ⟨w.heap.size,o,none⟩=some v) :
  After w pub e (aj (bR [] [])) w' (fun b o=>pub b o∨(b=w.heap.size/\p o)) e where
 os:=hb.os
 tape:=hb.tape
 output:=hb.output
 size:=hb.size
 block b h _:=hb.block b h
 cell b o h _:=ak (hb.block b h) o
 kind b h _:=⟨b7 (hb.block b h),fun o=>aO (hb.block b h) o⟩
 ext:=⟨fun _ c h=>⟨c,h,CLe.refl c⟩,fun _ _ h=>.inl h,fun b o h=>by obtain ⟨v,hv⟩:=hp b o h;exact ak (hb.block b (aS hv)) o⟩
 fresh b o h:=by
  rcases h with h | ⟨rfl,_⟩
  ·exact .inl h
  ·exact .inr (.inl (Nat.le_refl _))
 ok b o h:=by
  rcases h with h | ⟨rfl,h⟩
  ·obtain ⟨v,hv⟩:=hp b o h;exact ⟨v,(ak (hb.block b (aS hv)) o).trans hv⟩
  ·exact hc o h
 slots id o h:=by simp [bR,aH,aF] at h
 dom id _:=hd id
 inj i j c d b o h:=by rw [hd i] at h;cases h
theorem df {f:Nat} {args:List AV} {A:AV} {ob:Option Prop} (h:∀(w:World) (pub:Nat→Nat→Prop) (vs:List Value),fQ w pub (fun _=>none)→VL ⟨fun _=>none,w,pub⟩ args vs→Calls P f vs.toArray w fun e w'=>(∃v,e=.returned v/\∀Ω,V Ω A v)/\Below w.heap.size w w') :
  ao P f args [] ⟨ob,none,A,[]⟩:=by
 intro w pub e vs hp ht hv hs hd hi
 have he:e=fun _=>none:=funext fun id=>hd id rfl
 subst he
 refine (h w pub vs ht hv).mono ?_
 rintro en w' ⟨⟨v,rfl,hV⟩,hb⟩
 exact ⟨pub,_,And.intro (fun b pv u h=>by cases h) (And.intro (hV _) (After.below hp (fun _=>rfl) hb))⟩
theorem VL.two_str {Ω:Om} {a b:Str} {vs:List Value} (h:VL Ω [.str a,.str b] vs):vs=[.string ⟨a.toArray⟩,.string ⟨b.toArray⟩]/\a.length<=bn/\b.length<=bn:=by
 obtain ⟨v1,v2,rfl,h1,h2⟩:=VL.two_inv h
 obtain ⟨rfl,l1⟩:=h1.str_inv
 obtain ⟨rfl,l2⟩:=h2.str_inv
 exact ⟨rfl,l1,l2⟩
def BU:Pat:=p2 .str .str fun a b=>⟨some (b=ox),none,.str (oy a),[]⟩
set_option maxRecDepth 100000 in
theorem A9 (b:UInt8):ox.contains b=mB b:=by
 have h:∀b:Fin 256,ox.contains (UInt8.ofNat b.val)=mB (UInt8.ofNat b.val):=by decide
 have:=h ⟨b.toNat,b.toNat_lt⟩
 simpa using this
theorem vu {f:Nat} (L:Lays.n160 P ρ) (h116:(P.info? (ρ.t 116)).map (fun i=>(i.zero,i.size))=some (some (.agg (Array.replicate 256 (.bool false))),256)) (hf:ρ.f 160=f) (he:aq P f):ag P f BU:=by
 subst hf
 refine fY he fun a b _ _ ho=>?_
 have hb:=ho _ rfl
 subst hb
 refine df fun w pub vs _ hv=>?_
 obtain ⟨rfl,l1,l2⟩:=VL.two_str hv
 have l1':a.length<=9223372036854775807:=l1
 refine (Any.strings_Trim_laid L h116 ⟨a.toArray⟩ ⟨ox.toArray⟩ w (by simpa [ByteArray.size] using l1') (by decide) (fun j b hj=>?_)).mono ?_
 ·have hd:∀b∈ox,b.toNat < 128:=by decide
  exact hd b (List.mem_of_getElem? hj)
 ·rintro en w' ⟨rfl,hb⟩
  refine ⟨⟨_,rfl,fun Ω=>?_⟩,hb⟩
  have e:Lib.trimS a ox=oy a:=by
   have ef:(fun b=>ox.contains b)=mB:=funext A9
   unfold Lib.trimS Lib.trimLeftS Lib.trimRightS oy
   rw [ef]
  have e2:(⟨a.toArray⟩:ByteArray).data.toList=a:=rfl
  have e3:(⟨ox.toArray⟩:ByteArray).data.toList=ox:=rfl
  rw [e2,e3,e]
  exact .str _ (Nat.le_trans (A7 a) l1)
def D1:Pat:=p2 .str .str fun a b=>⟨some (b=[45]/\a.length < 4294967281),none,.tup [.str (gy a),.str (kr a),.bool (lN a)],[]⟩
theorem yl {f:Nat} {m:Int} (L:Lays.n145 P ρ) (hm:Tabs.tab (ρ.g 1) 0 (.int .i64 m)) (hf:ρ.f 145=f) (he:aq P f):ag P f D1:=by
 subst hf
 refine fY he fun a b _ _ ho=>?_
 obtain ⟨hb,hl⟩:=ho _ rfl
 subst hb
 refine df fun w pub vs ht hv=>?_
 obtain ⟨rfl,l1,l2⟩:=VL.two_str hv
 refine (Any.strings_Cut L ⟨a.toArray⟩ ⟨([45]:Str).toArray⟩ m w (by simpa [ByteArray.size] using hl) (ht.1 _ _ _ hm).2).mono ?_
 rintro en w' ⟨rfl,n,rfl⟩
 refine ⟨⟨_,rfl,fun Ω=>?_⟩,Below.drawn w n⟩
 have e2:(⟨a.toArray⟩:ByteArray).data.toList=a:=rfl
 have e3:(⟨([45]:Str).toArray⟩:ByteArray).data.toList=[45]:=rfl
 rw [e2,e3,A8]
 refine V.of_tup (VL.cons (.str _ ?_) (VL.cons (.str _ ?_) (VL.cons (.bool _) .nil)))
 ·exact Nat.le_trans (yk a) l1
 ·unfold kr
  rw [List.length_drop]
  exact Nat.le_trans (Nat.sub_le _ _) l1
def tn:Pat:=p2 .str .str fun a b=>⟨some (b.length=1),none,.bool (decide (b.getD 0 0∈a)),[]⟩
theorem oB {f:Nat} (L:Lays.n144 P ρ) (hf:ρ.f 144=f) (he:aq P f):ag P f tn:=by
 subst hf
 refine fY he fun a b _ _ ho=>?_
 have hb:b.length=1:=ho _ rfl
 obtain ⟨c,rfl⟩:∃c,b=[c]:=by
  match b,hb with
  | [c],_=>exact ⟨c,rfl⟩
 refine df fun w pub vs ht hv=>?_
 obtain ⟨rfl,l1,l2⟩:=VL.two_str hv
 refine (Any.strings_Contains_one L ⟨a.toArray⟩ c w).mono ?_
 rintro en w' ⟨rfl,rfl⟩
 refine ⟨⟨_,rfl,fun Ω=>?_⟩,Below.refl _ _⟩
 have e2:(⟨a.toArray⟩:ByteArray).data.toList=a:=rfl
 rw [e2,tm]
 exact .bool _
def rI:Pat:=p2 .str (.int .u8) fun a c=>.ret (.int .i64 (A6 a c))
theorem mL {f:Nat} (L:Lays.n137 P ρ) (hf:ρ.f 137=f) (he:aq P f):ag P f rI:=by
 subst hf
 refine fY he fun a c _ _ ho=>?_
 refine df fun w pub vs ht hv=>?_
 obtain ⟨v1,v2,rfl,h1,h2⟩:=VL.two_inv hv
 obtain ⟨rfl,l1⟩:=h1.str_inv
 obtain ⟨rfl,c1,c2⟩:=(show V _ (.int .u8 c) v2 from h2).int_inv
 have c1:(0:Int)<=c:=c1
 have c2:c<=(255:Int):=c2
 refine (Any.strings_IndexByte L ⟨a.toArray⟩ c w).mono ?_
 rintro en w' ⟨rfl,rfl⟩
 refine ⟨⟨_,rfl,fun Ω=>?_⟩,Below.refl _ _⟩
 have e2:(⟨a.toArray⟩:ByteArray).data.toList=a:=rfl
 have e:A6 a c=Lib.indexByte a c.toNat.toUInt8:=by
  unfold A6
  rw [BT a c c1 c2 0]
  split
  ·rename_i h;exact h.symm
  ·simp
 rw [e2,e]
 have hg:=Lib.indexByte_ge a c.toNat.toUInt8
 have hu:Lib.indexByte a c.toNat.toUInt8<=(a.length:Int):=by
  by_cases q:Lib.indexByte a c.toNat.toUInt8=-1
  ·omega
  ·obtain ⟨k,k1,k2,_⟩:=ea q
   omega
 have l1':a.length<=9223372036854775807:=l1
 have b1:inR .i64 (Lib.indexByte a c.toNat.toUInt8):=bM (by omega) (by omega)
 exact .int _ _ b1.1 b1.2
def Aa:Pat:=p2 .str .str fun a b=>⟨some (b=[46]/\a.length < 4294967281),none,.lst .str (splitB 46 a) none,[]⟩
theorem oC (c:UInt8):∀(s:Str),∀x∈splitB c s,x.length<=s.length
 | [],x,h=>by rw [List.mem_singleton.1 h];exact Nat.le_refl _
 | b ::r,x,h=>by
  have ih:=oC c r
  unfold splitB at h
  split at h
  ·rcases List.mem_cons.1 h with e | e
   ·rw [e];exact Nat.zero_le _
   ·have:=ih x e;rw [List.length_cons];omega
  ·split at h
   ·rw [List.mem_singleton.1 h,List.length_cons];simp
   ·rename_i p ps e0
    rcases List.mem_cons.1 h with e | e
    ·have:=ih p (by rw [e0];exact List.mem_cons_self ..)
     rw [e,List.length_cons,List.length_cons]
     omega
    ·have:=ih x (by rw [e0];exact List.mem_cons_of_mem _ e)
     rw [List.length_cons]
     omega
theorem tp {f:Nat} {m:Int} (L:Lays.n146 P ρ) (hi9:(P.info? (ρ.t 9)).map (fun i=>(i.zero,i.size,i.bytes))=some (some (.string ByteArray.empty),1,16)) (hm:Tabs.tab (ρ.g 1) 0 (.int .i64 m)) (hf:ρ.f 146=f) (he:aq P f):ag P f Aa:=by
 subst hf
 refine fY he fun a b _ _ ho=>?_
 obtain ⟨hb,hl⟩:=ho _ rfl
 subst hb
 intro w pub e vs hp ht hv hs hd hi
 obtain ⟨rfl,l1,l2⟩:=VL.two_str hv
 have l1':a.length<=9223372036854775807:=l1
 refine (Any.strings_Split L hi9 ⟨a.toArray⟩ ⟨([46]:Str).toArray⟩ m w (by simpa [ByteArray.size] using hl) (ht.1 _ _ _ hm).2 (by decide)).mono ?_
 rintro en w' ⟨rfl,rfl⟩
 have e2:(⟨a.toArray⟩:ByteArray).data.toList=a:=rfl
 have e3:(⟨([46]:Str).toArray⟩:ByteArray).data.toList=[46]:=rfl
 have hcount:Lib.countB ⟨a.toArray⟩ ⟨([46]:Str).toArray⟩=a.count 46:=by
  show Lib.count a [46]=_
  rw [Lib.count_one]
 have hsp:(Lib.splitB ⟨([46]:Str).toArray⟩ 0 (Lib.countB ⟨a.toArray⟩ ⟨([46]:Str).toArray⟩) ⟨a.toArray⟩).map (·.data.toList)=splitB 46 a:=by
  rw [Lib.splitB_data,hcount]
  exact oA 46 a.length a (Nat.le_refl _)
 generalize Lib.splitB ⟨([46]:Str).toArray⟩ 0 (Lib.countB ⟨a.toArray⟩ ⟨([46]:Str).toArray⟩) ⟨a.toArray⟩=bs at hsp
 have hcl:(splitB 46 a).length=Lib.countB ⟨a.toArray⟩ ⟨([46]:Str).toArray⟩+1:=by
  rw [hcount]
  have:∀s:Str,(splitB 46 s).length=s.count 46+1:=by
   intro s
   induction s with
   | nil=>rfl
   | cons b r ih=>
    unfold splitB
    split
    ·rename_i h
     subst h
     rw [List.length_cons,ih,List.count_cons_self]
    ·rename_i h
     rw [List.count_cons_of_ne h]
     split
     ·rename_i e0;rw [e0] at ih;simp at ih
     ·rename_i p ps e0
      rw [e0] at ih
      simpa using ih
  exact this a
 have hbl:bs.length=(splitB 46 a).length:=by rw [←hsp,List.length_map]
 have hsz:=k8 46 a
 rw [←hcl]
 have hnew:(w.alloc (.cells (bs.map Value.string).toArray (ρ.t 9))).heap[w.heap.size]?=some (.cells (bs.map Value.string).toArray (ρ.t 9) (0,0)):=bK _ _
 have hbw:Below w.heap.size w (w.alloc (.cells (bs.map Value.string).toArray (ρ.t 9))):=⟨rfl,rfl,rfl,by simp,fun b hb=>eY _ _ _ hb⟩
 refine ⟨fun b o=>pub b o∨(b=w.heap.size/\o < bs.length),e,And.intro (fun b pv u h=>by cases h) (And.intro ?_ (After.news hp (fun id=>hd id rfl) hbw (p:=fun o=>o < bs.length) (fun o ho=>?_)))⟩
 ·refine nK (Ω:=⟨e,w.alloc (.cells (bs.map Value.string).toArray (ρ.t 9)),fun b o=>pub b o∨(b=w.heap.size/\o < bs.length)⟩) (τ:=.str) (xs:=splitB 46 a) (vs:=bs.map Value.string) hnew ?_ ?_ (Nat.le_refl _) (by unfold bn;omega) (fun i hi=>.inr ⟨rfl,by rw [hbl];simpa [ae] using hi⟩) (fun id hid=>by cases hid)
  ·have e1:(splitB 46 a).length *ae .str=bs.length:=by rw [hbl];exact Nat.mul_one _
   rw [e1]
   exact List.take_of_length_le (by simp)
  ·have ef:aX .str (splitB 46 a)=(splitB 46 a).map AV.str:=by
    unfold aX
    rw [List.map_eq_flatMap]
    rfl
   rw [ef,←hsp]
   refine ⟨by simp,fun j c v hc hv=>?_⟩
   rw [List.map_map,List.getElem?_map,Option.map_eq_some_iff] at hc
   rw [List.getElem?_map,Option.map_eq_some_iff] at hv
   obtain ⟨x,hx,rfl⟩:=hc
   obtain ⟨y,hy,rfl⟩:=hv
   rw [hx] at hy
   cases hy
   have hmem:x.data.toList∈splitB 46 a:=by rw [←hsp];exact List.mem_map_of_mem (List.mem_of_getElem? hx)
   have hle:=oC 46 a _ hmem
   have:=V.str (Ω:=⟨e,w.alloc (.cells (bs.map Value.string).toArray (ρ.t 9)),fun b o=>pub b o∨(b=w.heap.size/\o < bs.length)⟩) x.data.toList (Nat.le_trans hle l1)
   exact this
 ·rw [ax hnew]
  exact ⟨_,Array.getElem?_eq_getElem (by simpa using ho)⟩
def kX [Tabs] (g3 g4:Nat):Prop:=
 (∀c,c < 256→Tabs.tab g3 c (.int .u8 (Lib.firstT c)))/\(∀i,i < 16→Tabs.tab g4 (2 *i) (.int .u8 (Lib.accLo i))/\Tabs.tab g4 (2 *i+1) (.int .u8 (Lib.accHi i)))
theorem kX.tabs {g3 g4:Nat} (h:kX g3 g4) {w:World} {pub:Nat→Nat→Prop} {e:Nat→Option CObj} (ht:fQ w pub e):Lib.Utf8Tabs g3 g4 w:=
 ⟨fun c hc=>(ht.1 _ _ _ (h.1 c hc)).2,fun i hi=>⟨(ht.1 _ _ _ (h.2 i hi).1).2,(ht.1 _ _ _ (h.2 i hi).2).2⟩⟩
theorem BV (s:Str) (k:Nat) (h:k < s.length):((⟨s.toArray⟩:ByteArray).get! k)=s.getD k 0:=by
 rw [Utf8W.get!_of_lt _ k (by simpa [ByteArray.size] using h)]
 have:(⟨s.toArray⟩:ByteArray)[k]'(by simpa [ByteArray.size] using h)=s[k]:=rfl
 rw [this]
 simp [List.getD_eq_getElem?_getD,h]
theorem tq (n b0 b1 b2 b3 c1 c2 c3:Nat) (h1:1 < n→b1=c1) (h2:2 < n→b2=c2) (h3:3 < n→b3=c3):Lib.decodeN n b0 b1 b2 b3=Lib.decodeN n b0 c1 c2 c3:=by
 rcases Nat.lt_or_ge 3 n with k | k
 ·rw [h1 (by omega),h2 (by omega),h3 k]
 rcases Nat.lt_or_ge 2 n with k2 | k2
 ·rw [h1 (by omega),h2 k2]
  unfold Lib.decodeN
  have e:¬3 < n:=by omega
  simp only [e,false_and,and_false,if_false]
 rcases Nat.lt_or_ge 1 n with k1 | k1
 ·rw [h1 k1]
  unfold Lib.decodeN
  have e:¬3 < n:=by omega
  have e':¬2 < n:=by omega
  simp only [e,e',false_and,and_false,if_false]
 ·unfold Lib.decodeN
  have e:¬3 < n:=by omega
  have e':¬2 < n:=by omega
  have e'':¬1 < n:=by omega
  simp only [e,e',e'',false_and,and_false,if_false]
theorem mC (s:Str):Lib.decodeGo ⟨s.toArray⟩=iD s:=by
 unfold Lib.decodeGo iD
 have hs:(⟨s.toArray⟩:ByteArray).size=s.length:=by simp [ByteArray.size]
 rw [hs]
 by_cases h:s=[]
 ·subst h;rfl
 have hl:=List.length_pos_iff.2 h
 rw [if_neg (by omega),if_neg h,Lib.decode_at,hs,Nat.sub_zero,BV s 0 hl]
 exact tq _ _ _ _ _ _ _ _ (fun k=>by rw [BV s 1 k]) (fun k=>by rw [BV s 2 k]) (fun k=>by rw [BV s 3 k])
def pB:Pat:=p1 .str fun s=>.ret (.tup [.int .i32 ((iD s).1:Int),.int .i64 ((iD s).2:Int)])
theorem vv (s:Str):(iD s).1<=1114111/\(iD s).2<=s.length:=by
 by_cases h:s=[]
 ·subst h;decide
 ·have:=tl h
  exact ⟨this.2.2.1,this.2.2.2.2⟩
theorem lO {f:Nat} (L:Lays.n197 P ρ) (hu:kX (ρ.g 3) (ρ.g 4)) (hf:ρ.f 197=f) (he:aq P f):ag P f pB:=by
 subst hf
 refine bO he fun s _ ho=>?_
 refine df fun w pub vs ht hv=>?_
 obtain ⟨v,rfl,h1⟩:=VL.one_inv hv
 obtain ⟨rfl,hl⟩:=h1.str_inv
 have hl':s.length<=9223372036854775807:=hl
 refine (Any.utf8_DecodeRuneInString L ⟨s.toArray⟩ w (hu.tabs ht)).mono ?_
 rintro en w' ⟨rfl,hb⟩
 refine ⟨⟨_,rfl,fun Ω=>?_⟩,hb⟩
 rw [mC]
 obtain ⟨d1,d2⟩:=vv s
 exact V.of_tup (VL.cons (.int .i32 _ (by show (-2147483648:Int)<=_;omega) (by show _<=(2147483647:Int);omega)) (VL.cons (.int .i64 _ (by show (-9223372036854775808:Int)<=_;omega) (by show _<=(9223372036854775807:Int);omega)) .nil))
theorem oD:∀(n:Nat) (l:Str) (k:Nat),Lib.validGoD n l=(xe n l k).isNone
 | 0,_,_=>rfl
 | n+1,l,k=>by
  unfold Lib.validGoD
  rw [xe]
  by_cases h:l=[]
  ·rw [if_pos h,if_pos h];rfl
  rw [if_neg h,if_neg h]
  have hd:Lib.decodeL l=iD l:=by
   rw [←mC]
   unfold Lib.decodeL Lib.decodeGo
   rw [if_neg (by
    have:=List.length_pos_iff.2 h
    simp [ByteArray.size]
    exact h)]
  obtain ⟨b1,b2,_⟩:=tl h
  rw [hd]
  by_cases u:rH l=0
  ·rw [if_pos (b1.2 u),if_pos u];rfl
  ·rw [if_neg (fun e=>u (b1.1 e)),if_neg u,b2 u]
   exact oD n _ _
def Ab:Pat:=p1 .str fun s=>.ret (.bool (ow s).isNone)
theorem tt {f:Nat} (L:Lays.n196 P ρ) (hu:kX (ρ.g 3) (ρ.g 4)) (hf:ρ.f 196=f) (he:aq P f):ag P f Ab:=by
 subst hf
 refine bO he fun s _ ho=>?_
 refine df fun w pub vs ht hv=>?_
 obtain ⟨v,rfl,h1⟩:=VL.one_inv hv
 obtain ⟨rfl,hl⟩:=h1.str_inv
 have hl':s.length<=9223372036854775807:=hl
 refine (Any.utf8_ValidString L ⟨s.toArray⟩ w (by simpa [ByteArray.size] using hl') (hu.tabs ht)).mono ?_
 rintro en w' ⟨rfl,hb⟩
 refine ⟨⟨_,rfl,fun Ω=>?_⟩,hb⟩
 have e:Lib.validD s=(ow s).isNone:=oD s.length s 0
 have e2:(⟨s.toArray⟩:ByteArray).data.toList=s:=rfl
 rw [e2,e]
 exact .bool _
end Go.AL
end
section
namespace Go.AL
variable [Tabs]
open Go.Proofs Go.Shelf Go.RowKit
variable {P:Program} {ρ:Ren}
def rJ (g:Nat):Prop:=∃t fz,Tabs.obj g (.cells (Lib.pow10Tab.map fun z=>Value.int .u64 z).toArray t fz)
end Go.AL
end
section
namespace Go.AL
variable [Tabs]
open Go.Proofs Go.Shelf Go.RowKit
variable {P:Program} {ρ:Ren}
theorem oE {f g:Nat} (L:LaysM.n173 P ρ) (hg:P.globalNamed "internal/strconv.uint64pow10"=some g) (hp:rJ g) (hf:ρ.f 173=f) (he:aq P f) :
  ag P f (p2 (.int .i64) (.int .i64) fun n b=>⟨some (b=10/\(Lib.itoa n).length<=1000),none,.str (Lib.itoa n),[]⟩):=by
 subst hf
 refine fY he fun n b _ _ ho=>?_
 obtain ⟨rfl,hl⟩:=ho _ rfl
 obtain ⟨t,fz,hb⟩:=hp
 refine df fun w pub vs ht hv=>?_
 obtain ⟨v,u,rfl,hv,hu⟩:=VL.two_inv hv
 cases hv with
 | int _ _ h0 h1=>
 cases hu with
 | int _ _ _ _=>
 have htab:Lib.TabIs P w "internal/strconv.uint64pow10" .u64 Lib.pow10Tab:=by
  unfold Lib.TabIs World.var?
  rw [hg]
  show (match w.heap[g]? with | some (.cells cs _ _)=>some cs | _=>none)=_
  rw [(ht.2 g _ hb).1]
 refine (Any.strconv_FormatInt_10 L n h0 h1 w htab).mono ?_
 rintro en w' ⟨rfl,k,os,rfl⟩
 exact ⟨⟨_,rfl,fun Ω=>.str _ (Nat.le_trans hl (by unfold bn;decide))⟩,Lib.below_grow _ w (Nat.le_refl _) k os⟩
end Go.AL
end
section
namespace Go.AL.Seat
open Go Go.AL Go.Proofs Go.Shelf Go.Pd
variable [Tabs]
class SeatPow [Tabs]:Prop where
 pow:rJ 2
variable [SeatPow]
theorem pC:ag Tryz.prog 107 (p2 (.int .i64) (.int .i64) fun n b=>⟨some (b=10/\(Lib.itoa n).length<=1000),none,.str (Lib.itoa n),[]⟩):=oE Tryz.lays173 (by kernel_rfl) SeatPow.pow rfl (aq.mk' Tryz.func107 (by kernel_rfl))
end Go.AL.Seat
end
section
namespace Go.Proofs
open Go.Shelf
def Tryz.lays160_ren:Go.Shelf.Ren:=⟨fun | 160=>76 | 232=>114 | 231=>113 | 227=>115 | 234=>117 | 233=>116 | 236=>119 | 235=>118 | 228=>154 | 271=>156 | 151=>155 | 197=>111 | 120=>188 | 152=>187 | 260=>153 | 137=>125 | 119=>212 | 224=>213 | 225=>214 | 217=>162 | 266=>197 | n=>n,fun | 9=>9 | 4=>4 | 3=>3 | 5=>5 | 117=>162 | 116=>161 | 0=>0 | 124=>165 | 21=>21 | 105=>156 | 46=>205 | 119=>201 | 139=>204 | 138=>203 | n=>n,fun | 3=>0 | 4=>1 | n=>n⟩
theorem Tryz.lays160:Go.Proofs.Lays.n160 Tryz.prog Tryz.lays160_ren:={
 mixed:=by kernel_rfl
 f119:=Xt Tryz.func212
 f120:=Xt Tryz.func188
 f137:=Xt Tryz.func125
 f151:=Xt Tryz.func155
 f152:=Xt Tryz.func187
 f160:=Xt Tryz.func76
 f197:=Xt Tryz.func111
 f217:=Xt Tryz.func162
 f224:=Xt Tryz.func213
 f225:=Xt Tryz.func214
 f227:=Xt Tryz.func115
 f228:=Xt Tryz.func154
 f231:=Xt Tryz.func113
 f232:=Xt Tryz.func114
 f233:=Xt Tryz.func116
 f234:=Xt Tryz.func117
 f235:=Xt Tryz.func118
 f236:=Xt Tryz.func119
 f260:=Xt Tryz.func153
 f266:=Xt Tryz.func197
 f271:=Xt Tryz.func156
 t0:=Tryz.underlying0
 a0:=Tryz.isAgg0
 z0:=Tryz.sizeOf0
 v0:=Tryz.zeroValue0
 t3:=Tryz.underlying3
 a3:=Tryz.isAgg3
 z3:=Tryz.sizeOf3
 v3:=Tryz.zeroValue3
 t4:=Tryz.underlying4
 a4:=Tryz.isAgg4
 z4:=Tryz.sizeOf4
 v4:=Tryz.zeroValue4
 t5:=Tryz.underlying5
 a5:=Tryz.isAgg5
 z5:=Tryz.sizeOf5
 v5:=Tryz.zeroValue5
 t9:=Tryz.underlying9
 a9:=Tryz.isAgg9
 z9:=Tryz.sizeOf9
 v9:=Tryz.zeroValue9
 t21:=Tryz.underlying21
 a21:=Tryz.isAgg21
 z21:=Tryz.sizeOf21
 v21:=Tryz.zeroValue21
 t46:=Tryz.underlying205
 a46:=Tryz.isAgg205
 z46:=Tryz.sizeOf205
 v46:=Tryz.zeroValue205
 t105:=Tryz.underlying156
 a105:=Tryz.isAgg156
 z105:=Tryz.sizeOf156
 v105:=Tryz.zeroValue156
 t116:=Tryz.underlying161
 a116:=Tryz.isAgg161
 z116:=Tryz.sizeOf161
 t117:=Tryz.underlying162
 a117:=Tryz.isAgg162
 z117:=Tryz.sizeOf162
 v117:=Tryz.zeroValue162
 t119:=Tryz.underlying201
 a119:=Tryz.isAgg201
 z119:=Tryz.sizeOf201
 t124:=Tryz.underlying165
 a124:=Tryz.isAgg165
 z124:=Tryz.sizeOf165
 v124:=Tryz.zeroValue165
 t138:=Tryz.underlying203
 a138:=Tryz.isAgg203
 z138:=Tryz.sizeOf203
 v138:=Tryz.zeroValue203
 t139:=Tryz.underlying204
 a139:=Tryz.isAgg204
 z139:=Tryz.sizeOf204
 v139:=Tryz.zeroValue204
 g3:=by kernel_rfl
 g4:=by kernel_rfl}
def Tryz.lays145_ren:Go.Shelf.Ren:=⟨fun | 145=>120 | 220=>157 | 219=>189 | 217=>162 | 225=>214 | 224=>213 | 267=>215 | 266=>197 | 314=>234 | n=>n,fun | 9=>9 | 4=>4 | 59=>166 | 3=>3 | 5=>5 | 46=>205 | 146=>250 | 51=>232 | n=>n,fun | 1=>3 | n=>n⟩
theorem Tryz.lays145:Go.Proofs.Lays.n145 Tryz.prog Tryz.lays145_ren:={
 mixed:=by kernel_rfl
 f145:=Xt Tryz.func120
 f217:=Xt Tryz.func162
 f219:=Xt Tryz.func189
 f220:=Xt Tryz.func157
 f224:=Xt Tryz.func213
 f225:=Xt Tryz.func214
 f266:=Xt Tryz.func197
 f267:=Xt Tryz.func215
 f314:=Xt Tryz.func234
 t3:=Tryz.underlying3
 a3:=Tryz.isAgg3
 z3:=Tryz.sizeOf3
 v3:=Tryz.zeroValue3
 t4:=Tryz.underlying4
 a4:=Tryz.isAgg4
 z4:=Tryz.sizeOf4
 v4:=Tryz.zeroValue4
 t5:=Tryz.underlying5
 a5:=Tryz.isAgg5
 z5:=Tryz.sizeOf5
 v5:=Tryz.zeroValue5
 t9:=Tryz.underlying9
 a9:=Tryz.isAgg9
 z9:=Tryz.sizeOf9
 v9:=Tryz.zeroValue9
 t46:=Tryz.underlying205
 a46:=Tryz.isAgg205
 z46:=Tryz.sizeOf205
 v46:=Tryz.zeroValue205
 t51:=Tryz.underlying232
 a51:=Tryz.isAgg232
 z51:=Tryz.sizeOf232
 v51:=Tryz.zeroValue232
 t59:=Tryz.underlying166
 a59:=Tryz.isAgg166
 z59:=Tryz.sizeOf166
 v59:=Tryz.zeroValue166
 t146:=Tryz.underlying250
 a146:=Tryz.isAgg250
 z146:=Tryz.sizeOf250
 v146:=Tryz.zeroValue250
 g1:=by kernel_rfl}
def Tryz.lays146_ren:Go.Shelf.Ren:=⟨fun | 146=>121 | 221=>158 | 268=>190 | 138=>191 | 143=>163 | 195=>216 | 197=>111 | 218=>217 | 219=>189 | 260=>153 | 217=>162 | 225=>214 | 224=>213 | 267=>215 | 266=>197 | 314=>234 | n=>n,fun | 9=>9 | 31=>22 | 3=>3 | 4=>4 | 0=>0 | 105=>156 | 21=>21 | 5=>5 | 46=>205 | 119=>201 | 139=>204 | 138=>203 | 146=>250 | 51=>232 | n=>n,fun | 1=>3 | 3=>0 | 4=>1 | n=>n⟩
theorem Tryz.lays146:Go.Proofs.Lays.n146 Tryz.prog Tryz.lays146_ren:={
 mixed:=by kernel_rfl
 f138:=Xt Tryz.func191
 f143:=Xt Tryz.func163
 f146:=Xt Tryz.func121
 f195:=Xt Tryz.func216
 f197:=Xt Tryz.func111
 f217:=Xt Tryz.func162
 f218:=Xt Tryz.func217
 f219:=Xt Tryz.func189
 f221:=Xt Tryz.func158
 f224:=Xt Tryz.func213
 f225:=Xt Tryz.func214
 f260:=Xt Tryz.func153
 f266:=Xt Tryz.func197
 f267:=Xt Tryz.func215
 f268:=Xt Tryz.func190
 f314:=Xt Tryz.func234
 t0:=Tryz.underlying0
 a0:=Tryz.isAgg0
 z0:=Tryz.sizeOf0
 v0:=Tryz.zeroValue0
 t3:=Tryz.underlying3
 a3:=Tryz.isAgg3
 z3:=Tryz.sizeOf3
 v3:=Tryz.zeroValue3
 t4:=Tryz.underlying4
 a4:=Tryz.isAgg4
 z4:=Tryz.sizeOf4
 v4:=Tryz.zeroValue4
 t5:=Tryz.underlying5
 a5:=Tryz.isAgg5
 z5:=Tryz.sizeOf5
 v5:=Tryz.zeroValue5
 t9:=Tryz.underlying9
 a9:=Tryz.isAgg9
 z9:=Tryz.sizeOf9
 v9:=Tryz.zeroValue9
 t21:=Tryz.underlying21
 a21:=Tryz.isAgg21
 z21:=Tryz.sizeOf21
 v21:=Tryz.zeroValue21
 t31:=Tryz.underlying22
 a31:=Tryz.isAgg22
 z31:=Tryz.sizeOf22
 v31:=Tryz.zeroValue22
 t46:=Tryz.underlying205
 a46:=Tryz.isAgg205
 z46:=Tryz.sizeOf205
 v46:=Tryz.zeroValue205
 t51:=Tryz.underlying232
 a51:=Tryz.isAgg232
 z51:=Tryz.sizeOf232
 v51:=Tryz.zeroValue232
 t105:=Tryz.underlying156
 a105:=Tryz.isAgg156
 z105:=Tryz.sizeOf156
 v105:=Tryz.zeroValue156
 t119:=Tryz.underlying201
 a119:=Tryz.isAgg201
 z119:=Tryz.sizeOf201
 t138:=Tryz.underlying203
 a138:=Tryz.isAgg203
 z138:=Tryz.sizeOf203
 v138:=Tryz.zeroValue203
 t139:=Tryz.underlying204
 a139:=Tryz.isAgg204
 z139:=Tryz.sizeOf204
 v139:=Tryz.zeroValue204
 t146:=Tryz.underlying250
 a146:=Tryz.isAgg250
 z146:=Tryz.sizeOf250
 v146:=Tryz.zeroValue250
 g1:=by kernel_rfl
 g3:=by kernel_rfl
 g4:=by kernel_rfl}
def Tryz.lays144_ren:Go.Shelf.Ren:=⟨fun | 144=>127 | 143=>163 | 219=>189 | 217=>162 | 225=>214 | 224=>213 | 267=>215 | 266=>197 | 314=>234 | n=>n,fun | 9=>9 | 4=>4 | 3=>3 | 5=>5 | 46=>205 | 146=>250 | 51=>232 | n=>n,fun | 1=>3 | n=>n⟩
theorem Tryz.lays144:Go.Proofs.Lays.n144 Tryz.prog Tryz.lays144_ren:={
 mixed:=by kernel_rfl
 f143:=Xt Tryz.func163
 f144:=Xt Tryz.func127
 f217:=Xt Tryz.func162
 f219:=Xt Tryz.func189
 f224:=Xt Tryz.func213
 f225:=Xt Tryz.func214
 f266:=Xt Tryz.func197
 f267:=Xt Tryz.func215
 f314:=Xt Tryz.func234
 t3:=Tryz.underlying3
 a3:=Tryz.isAgg3
 z3:=Tryz.sizeOf3
 v3:=Tryz.zeroValue3
 t4:=Tryz.underlying4
 a4:=Tryz.isAgg4
 z4:=Tryz.sizeOf4
 v4:=Tryz.zeroValue4
 t5:=Tryz.underlying5
 a5:=Tryz.isAgg5
 z5:=Tryz.sizeOf5
 v5:=Tryz.zeroValue5
 t9:=Tryz.underlying9
 a9:=Tryz.isAgg9
 z9:=Tryz.sizeOf9
 v9:=Tryz.zeroValue9
 t46:=Tryz.underlying205
 a46:=Tryz.isAgg205
 z46:=Tryz.sizeOf205
 v46:=Tryz.zeroValue205
 t51:=Tryz.underlying232
 a51:=Tryz.isAgg232
 z51:=Tryz.sizeOf232
 v51:=Tryz.zeroValue232
 t146:=Tryz.underlying250
 a146:=Tryz.isAgg250
 z146:=Tryz.sizeOf250
 v146:=Tryz.zeroValue250
 g1:=by kernel_rfl}
def Tryz.lays137_ren:Go.Shelf.Ren:=⟨fun | 137=>125 | 217=>162 | 266=>197 | n=>n,fun | 9=>9 | 5=>5 | 3=>3 | n=>n,fun | n=>n⟩
theorem Tryz.lays137:Go.Proofs.Lays.n137 Tryz.prog Tryz.lays137_ren:={
 mixed:=by kernel_rfl
 f137:=Xt Tryz.func125
 f217:=Xt Tryz.func162
 f266:=Xt Tryz.func197
 t3:=Tryz.underlying3
 a3:=Tryz.isAgg3
 z3:=Tryz.sizeOf3
 v3:=Tryz.zeroValue3
 t5:=Tryz.underlying5
 a5:=Tryz.isAgg5
 z5:=Tryz.sizeOf5
 v5:=Tryz.zeroValue5
 t9:=Tryz.underlying9
 a9:=Tryz.isAgg9
 z9:=Tryz.sizeOf9
 v9:=Tryz.zeroValue9}
def Tryz.lays197_ren:Go.Shelf.Ren:=⟨fun | 197=>111 | 260=>153 | n=>n,fun | 9=>9 | 21=>21 | 3=>3 | 4=>4 | 5=>5 | 105=>156 | 119=>201 | 0=>0 | 46=>205 | 139=>204 | 138=>203 | n=>n,fun | 3=>0 | 4=>1 | n=>n⟩
theorem Tryz.lays197:Go.Proofs.Lays.n197 Tryz.prog Tryz.lays197_ren:={
 mixed:=by kernel_rfl
 f197:=Xt Tryz.func111
 f260:=Xt Tryz.func153
 t0:=Tryz.underlying0
 a0:=Tryz.isAgg0
 z0:=Tryz.sizeOf0
 v0:=Tryz.zeroValue0
 t3:=Tryz.underlying3
 a3:=Tryz.isAgg3
 z3:=Tryz.sizeOf3
 v3:=Tryz.zeroValue3
 t4:=Tryz.underlying4
 a4:=Tryz.isAgg4
 z4:=Tryz.sizeOf4
 v4:=Tryz.zeroValue4
 t5:=Tryz.underlying5
 a5:=Tryz.isAgg5
 z5:=Tryz.sizeOf5
 v5:=Tryz.zeroValue5
 t9:=Tryz.underlying9
 a9:=Tryz.isAgg9
 z9:=Tryz.sizeOf9
 v9:=Tryz.zeroValue9
 t21:=Tryz.underlying21
 a21:=Tryz.isAgg21
 z21:=Tryz.sizeOf21
 v21:=Tryz.zeroValue21
 t46:=Tryz.underlying205
 a46:=Tryz.isAgg205
 z46:=Tryz.sizeOf205
 v46:=Tryz.zeroValue205
 t105:=Tryz.underlying156
 a105:=Tryz.isAgg156
 z105:=Tryz.sizeOf156
 v105:=Tryz.zeroValue156
 t119:=Tryz.underlying201
 a119:=Tryz.isAgg201
 z119:=Tryz.sizeOf201
 t138:=Tryz.underlying203
 a138:=Tryz.isAgg203
 z138:=Tryz.sizeOf203
 v138:=Tryz.zeroValue203
 t139:=Tryz.underlying204
 a139:=Tryz.isAgg204
 z139:=Tryz.sizeOf204
 v139:=Tryz.zeroValue204
 g3:=by kernel_rfl
 g4:=by kernel_rfl}
def Tryz.lays196_ren:Go.Shelf.Ren:=⟨fun | 196=>143 | 259=>177 | n=>n,fun | 9=>9 | 4=>4 | 3=>3 | 5=>5 | 12=>12 | 119=>201 | 0=>0 | 46=>205 | 139=>204 | 138=>203 | 53=>209 | n=>n,fun | 3=>0 | 4=>1 | n=>n⟩
theorem Tryz.lays196:Go.Proofs.Lays.n196 Tryz.prog Tryz.lays196_ren:={
 mixed:=by kernel_rfl
 f196:=Xt Tryz.func143
 f259:=Xt Tryz.func177
 t0:=Tryz.underlying0
 a0:=Tryz.isAgg0
 z0:=Tryz.sizeOf0
 v0:=Tryz.zeroValue0
 t3:=Tryz.underlying3
 a3:=Tryz.isAgg3
 z3:=Tryz.sizeOf3
 v3:=Tryz.zeroValue3
 t4:=Tryz.underlying4
 a4:=Tryz.isAgg4
 z4:=Tryz.sizeOf4
 v4:=Tryz.zeroValue4
 t5:=Tryz.underlying5
 a5:=Tryz.isAgg5
 z5:=Tryz.sizeOf5
 v5:=Tryz.zeroValue5
 t9:=Tryz.underlying9
 a9:=Tryz.isAgg9
 z9:=Tryz.sizeOf9
 v9:=Tryz.zeroValue9
 t12:=Tryz.underlying12
 a12:=Tryz.isAgg12
 z12:=Tryz.sizeOf12
 v12:=Tryz.zeroValue12
 t46:=Tryz.underlying205
 a46:=Tryz.isAgg205
 z46:=Tryz.sizeOf205
 v46:=Tryz.zeroValue205
 t53:=Tryz.underlying209
 a53:=Tryz.isAgg209
 z53:=Tryz.sizeOf209
 v53:=Tryz.zeroValue209
 t119:=Tryz.underlying201
 a119:=Tryz.isAgg201
 z119:=Tryz.sizeOf201
 t138:=Tryz.underlying203
 a138:=Tryz.isAgg203
 z138:=Tryz.sizeOf203
 v138:=Tryz.zeroValue203
 t139:=Tryz.underlying204
 a139:=Tryz.isAgg204
 z139:=Tryz.sizeOf204
 v139:=Tryz.zeroValue204
 g3:=by kernel_rfl
 g4:=by kernel_rfl}
end Go.Proofs
end
section
namespace Go.AL.Seat
open Go Go.AL Go.Proofs Go.Shelf Go.Pd
class SeatLaid [Tabs]:Prop where
 max:∃m:Int,Tabs.tab 3 0 (.int .i64 m)
 utf:kX 0 1
variable [Tabs] [SeatLaid]
theorem Ac:ag Tryz.prog 76 (p2 .str .str fun a b=>⟨some (b=ox),none,.str (oy a),[]⟩):=vu Tryz.lays160 (by kernel_rfl) rfl (aq.mk' Tryz.func76 (by kernel_rfl))
theorem BW:ag Tryz.prog 120 (p2 .str .str fun a b=>⟨some (b=[45]/\a.length < 4294967281),none,.tup [.str (gy a),.str (kr a),.bool (lN a)],[]⟩):=
 let ⟨_,hm⟩:=SeatLaid.max;yl Tryz.lays145 hm rfl (aq.mk' Tryz.func120 (by kernel_rfl))
theorem ym:ag Tryz.prog 121 (p2 .str .str fun a b=>⟨some (b=[46]/\a.length < 4294967281),none,.lst .str (splitB 46 a) none,[]⟩):=
 let ⟨_,hm⟩:=SeatLaid.max;tp Tryz.lays146 (by kernel_rfl) hm rfl (aq.mk' Tryz.func121 (by kernel_rfl))
theorem rK:ag Tryz.prog 127 (p2 .str .str fun a b=>⟨some (b.length=1),none,.bool (decide (b.getD 0 0∈a)),[]⟩):=oB Tryz.lays144 rfl (aq.mk' Tryz.func127 (by kernel_rfl))
theorem pD:ag Tryz.prog 125 (p2 .str (.int .u8) fun a c=>.ret (.int .i64 (A6 a c))):=mL Tryz.lays137 rfl (aq.mk' Tryz.func125 (by kernel_rfl))
theorem oF:ag Tryz.prog 111 (p1 .str fun s=>.ret (.tup [.int .i32 ((iD s).1:Int),.int .i64 ((iD s).2:Int)])):=lO Tryz.lays197 SeatLaid.utf rfl (aq.mk' Tryz.func111 (by kernel_rfl))
theorem yn:ag Tryz.prog 143 (p1 .str fun s=>.ret (.bool (ow s).isNone)):=tt Tryz.lays196 SeatLaid.utf rfl (aq.mk' Tryz.func143 (by kernel_rfl))
end Go.AL.Seat
end
section
namespace Go.Proofs.YtgackciebknbeaaGreatDoor.Join
open Go.AL Go.AL.Seat Go.ChangeShapes Go.WideShapes Go.RowKit Go.Lib Go.Shelf
set_option maxRecDepth 1000000
theorem own:ownKnob Tryz.prog.godebug=none:=by kernel_rfl
theorem BX:laidOutB Tryz.prog=true:=by kernel_rfl
theorem undB:Tryz.prog.underlying 4=some .bool:=by kernel_rfl
theorem undI:Tryz.prog.underlying 3=some (.int .i64):=by kernel_rfl
theorem DJ:40 < Tryz.prog.types.size:=Xo (by kernel_rfl)
def laid:List (String × DataW Unit):=Rows.evalLetsRow.laid
theorem DK:(Rows.laid_unicode_utf8_acceptRanges:DataW Unit)=acceptData:=by kernel_rfl
theorem DL {W:World} (h:W.ShapedOpen Tryz.prog):∃m,W.cell? ⟨3,0,none⟩=some (.int .i64 m):=
 cell_of_shapedOpen_int (t:=3) (zero:=#[.int .i64 0]) h (Xo (by kernel_rfl)) (by kernel_rfl) rfl (by kernel_rfl) (by kernel_rfl) undI
theorem DM {W:World} (h:laidMet Tryz.prog laid W):Utf8Tabs 0 1 W:=
 utf8Tabs_of_readsT (ρ:=Tryz.lays196_ren) (U8Types.of196 Tryz.lays196) ⟨by kernel_rfl,by kernel_rfl,by kernel_rfl,by kernel_rfl,by kernel_rfl,by kernel_rfl,by kernel_rfl⟩
  (Pinned.utf8First_eq ▸ laidMet.reads h (by simp [laid,Rows.evalLetsRow,Rows.laid_unicode_utf8_first])) (DK ▸ laidMet.reads h (by simp [laid,Rows.evalLetsRow]))
theorem Ad {W:World} (h:laidMet Tryz.prog laid W) (hs:W.ShapedOpen Tryz.prog):@SeatLaid (jj W):=by
 letI:Tabs:=jj W
 obtain ⟨m,hm⟩:=DL hs
 obtain ⟨u1,u2⟩:=DM h
 exact ⟨⟨m,by decide,hm⟩,fun c hc=>⟨by decide,u1 c hc⟩,fun i hi=>⟨⟨by decide,(u2 i hi).1⟩,by decide,(u2 i hi).2⟩⟩
theorem BY:(Rows.laid_internal_strconv_uint64pow10:DataW Unit)=tabData .u64 pow10Tab:=by
 simp only [tabData,pow10Tab]
 rfl
theorem DN {W:World} (h:laidMet Tryz.prog laid W):TabIs Tryz.prog W "internal/strconv.uint64pow10" .u64 pow10Tab:=by
 obtain ⟨g,t,cs,fuel,p,hg,hty,hvar,hd⟩:=laidMet.reads h (n:= "internal/strconv.uint64pow10") (d:=Rows.laid_internal_strconv_uint64pow10) (by simp [laid,Rows.evalLetsRow])
 obtain rfl:=Option.some.inj ((show Tryz.prog.globalNamed "internal/strconv.uint64pow10"=some 2 by kernel_rfl).symm.trans hg)
 obtain rfl:=Option.some.inj ((show (Tryz.prog.globals[2]?).map (·.type)=some 231 by kernel_rfl).symm.trans hty)
 rw [BY] at hd
 have hcs:=cells_of_tab (P:=Tryz.prog) (n:=20) (show Tryz.prog.underlying 231=some (.array 20 209) by kernel_rfl) (show Tryz.prog.underlying 209=some (.int .u64) by kernel_rfl) (by kernel_rfl) (by kernel_rfl) hd
 unfold TabIs
 rw [hvar,←hcs]
theorem BZ {W:World} (h:laidMet Tryz.prog laid W):@SeatPow (jj W):=by
 letI:Tabs:=jj W
 have hp:=DN h
 unfold TabIs World.var? at hp
 rw [show Tryz.prog.globalNamed "internal/strconv.uint64pow10"=some 2 by kernel_rfl] at hp
 simp only [Option.bind_some] at hp
 refine ⟨?_⟩
 unfold rJ
 cases hw:W.heap[2]? with
 | none=>rw [hw] at hp;cases hp
 | some o=>
  rw [hw] at hp
  cases o with
  | cells cs t fz=>
   obtain rfl:=Option.some.inj hp
   exact ⟨t,fz,by decide,hw⟩
  | _=>cases hp
def z32:List Int:=[0,1,28,2,29,14,24,3,30,22,20,15,25,17,4,8,31,27,13,23,21,19,16,7,26,12,18,6,11,5,10,9]
def z64:List Int:=[0,1,56,2,57,49,28,3,61,58,42,50,38,29,17,4,62,47,59,36,45,43,51,22,53,39,33,30,24,18,12,5,63,55,48,27,60,41,37,16,46,35,44,21,52,32,23,11,54,26,40,15,34,20,31,10,25,14,19,9,13,8,7,6]
def zPow:List Int:=[1,10,100,1000,10000,100000,1000000,10000000,100000000,1000000000,10000000000,100000000000,1000000000000,10000000000000,100000000000000,1000000000000000,10000000000000000,100000000000000000,1000000000000000000,10000000000000000000]
def zAcc:List Int:=[128,191,160,191,128,159,144,191,128,143,0,0,0,0,0,0,0,0,0,0,0,0,0,0,0,0,0,0,0,0,0,0]
def D2:List Int:=List.map Int.ofNat Pinned.utf8FirstZ
noncomputable def jJ (os:Os):World:=
 let N:=(World.settled Tryz.prog os).heap.size
 let w0:=World.holding Tryz.prog os ⟨#[.cells #[.string ⟨#[118,97,108,117,101,32,111,117,116,32,111,102,32,114,97,110,103,101]⟩] 256,.cells #[.string ⟨#[105,110,118,97,108,105,100,32,115,121,110,116,97,120]⟩] 256],#[],[]⟩
 let put (h:Array Obj) (g:Nat) (cs:Array Value):Array Obj:=h.modify g fun
  | .cells _ t frozen=>.cells cs t frozen
  | o=>o
 let h0:=put (put w0.heap 4 #[.iface 254 (.pointer (some ⟨N+1,0,none⟩))]) 5 #[.iface 254 (.pointer (some ⟨N,0,none⟩))]
 let h1:=put (put (put h0 2 (zPow.map (Value.int .u64)).toArray) 6 (z32.map (Value.int .u8)).toArray) 7 (z64.map (Value.int .u8)).toArray
 let h2:=put (put h1 0 (D2.map (Value.int .u8)).toArray) 1 (zAcc.map (Value.int .u8)).toArray
 {w0 with heap:=h2}
noncomputable abbrev N0:Nat:=(World.settled Tryz.prog default).heap.size
theorem D3 (os:Os) (args:Array Value):LaidIn Tryz.prog ((jJ os).forCall (fun _ _=>0) ⟨#[],args,[]⟩).memory laid [6,7,2,1,5,N0,4,N0+1,0]:=
 LaidIn.of_run [6,7,2,1,5,N0,4,N0+1,0] 10 (by kernel_rfl) (by kernel_rfl) (by kernel_rfl) (by kernel_rfl)
theorem Ae (os:Os) (args:Array Value):laidMet Tryz.prog laid ((jJ os).forCall (fun _ _=>0) ⟨#[],args,[]⟩).memory:=(D3 os args).met
end Go.Proofs.YtgackciebknbeaaGreatDoor.Join
end
section
namespace Go.Pd
open Go.AL
def ec (b:UInt8):Bool:=!(decide (bI b < 32) && !decide (bI b=10) && !decide (bI b=9))
def oG (s:Str):Bool:=s.all ec && (ow s).isNone
def bP (s:Shape):Bool:=decide (dx s=0) && allS b8 s
def gd (t:Trm) (n v s p:Nat):Bool:=decide (t.names.length=n) && decide (t.vars.length=v) && decide (t.shapes.length=s) && decide (t.parts.length=p)
def gp (t:Trm):Bool:=decide (0<=t.pos) && (decide (t.n=0) || decide (t.kind=1)) && (decide (t.pkg=[]) || decide (t.kind=5)) && t.shapes.all bP
def fj (l:List Str):Bool:=l.all aw && decide l.Nodup
def Af (t:Trm):Bool:=
 if t.kind=1 then decide (t.name=[]) && decide (0<=t.n) && decide (t.n<=999999999999999) && gd t 0 0 0 0
 else if t.kind=2 then oG t.name && gd t 0 0 0 0
 else if t.kind=3∨t.kind=4 then decide (t.name=[]) && gd t 0 0 0 0
 else if t.kind=5 then aw t.name && (decide (t.pkg=[]) || aw t.pkg) && gd t 0 0 0 0
 else if t.kind=6 then decide (t.name=[]) && decide (t.names.length<=4096) && fj t.names && gd t t.names.length 0 t.names.length 1
 else if t.kind=7 then decide (t.name=[]) && decide (0 < t.parts.length) && gd t 0 0 0 t.parts.length
 else if t.kind=8 then decide (t.name=[]) && fj t.names && gd t t.names.length 0 0 t.names.length
 else if t.kind=9∨t.kind=10 then aw t.name && gd t 0 0 0 1
 else if t.kind=11 then decide (t.name=[]) && gd t 0 0 1 t.parts.length
 else if t.kind=12 then decide (t.name=[]) && gd t 0 0 1 3
 else if t.kind=13 then decide (t.name=[]) && fj t.names && t.vars.all aw && gd t t.names.length t.names.length (t.names.length+1) (t.names.length+1)
 else if t.kind=14 then aw t.name && gd t 0 0 0 2
 else if t.kind=15 then decide (t.name=[]) && gd t 0 0 1 1
 else if t.kind=16∨t.kind=17 then cU t.name && gd t 0 0 0 1
 else false
def au (t:Trm):Bool:=gp t && Af t
mutual
def allT (f:Trm→Bool):Trm→Bool
 | ⟨k,g,q,z,ns,vs,ss,ps,pp⟩=>f ⟨k,g,q,z,ns,vs,ss,ps,pp⟩ && allTL f ps
def allTL (f:Trm→Bool):List Trm→Bool
 | []=>true
 | p ::r=>allT f p && allTL f r
end
theorem n5 (f:Trm→Bool) (t:Trm):allT f t=(f t && allTL f t.parts):=by cases t;rw [allT]
theorem jK (f:Trm→Bool):∀l:List Trm,allTL f l=l.all (allT f)
 | []=>rfl
 | p ::r=>by rw [List.all_cons,←jK f r];rw [allTL]
def bj (t:Trm):Bool:=allT (fun x=>decide (x.names.length<=8796093022208)) t
theorem yo {t x:Trm} (h:bj t=true) (hx:x∈t.parts):bj x=true:=by
 unfold bj at h ⊢
 rw [n5,Bool.and_eq_true,jK] at h
 exact List.all_eq_true.1 h.2 x hx
theorem vw {t:Trm} (h:bj t=true):t.names.length<=8796093022208:=by
 unfold bj at h
 rw [n5,Bool.and_eq_true] at h
 exact Xo h.1
def bG (t:Trm):Int:=
 if 4096 < (countT t 4096).1 then 3 else if 40 < (countT t 4096).2 then 91 else if allT au t=true then 0 else 80
end Go.Pd
namespace Go.Pd
open Go.AL
theorem dnZ (n:Nat):decide ((n:Int)=0)=decide (n=0):=decide_eq_decide.2 (by omega)
theorem dn1 (n:Nat):decide ((n:Int)=1)=decide (n=1):=decide_eq_decide.2 (by omega)
theorem dn2 (n:Nat):decide ((n:Int)=2)=decide (n=2):=decide_eq_decide.2 (by omega)
theorem dn3 (n:Nat):decide ((n:Int)=3)=decide (n=3):=decide_eq_decide.2 (by omega)
theorem dnN (n m:Nat):decide ((n:Int)=(m:Int))=decide (n=m):=decide_eq_decide.2 (by omega)
theorem dnS (n m:Nat):decide ((n:Int)=(m:Int)+1)=decide (n=m+1):=decide_eq_decide.2 (by omega)
theorem dnL (n:Nat):decide ((n:Int)<=4096)=decide (n<=4096):=decide_eq_decide.2 (by omega)
theorem dnP (n:Nat):decide ((0:Int) < (n:Int))=decide (0 < n):=decide_eq_decide.2 (by omega)
theorem tu (s:Str) (k:Nat) (h:k < s.length):(b6 s).getD k (dfl (Ty.int IntKind.u8))=bI (s.getD k 0):=by
 unfold b6
 simp [List.getD_eq_getElem?_getD,h,bI]
theorem yp (b:UInt8):ec b=false↔(bI b < 32/\bI b≠10/\bI b≠9):=by
 unfold ec
 simp only [Bool.not_eq_false',Bool.and_eq_true,decide_eq_true_eq,Bool.not_eq_true',decide_eq_false_iff_not]
 omega
end Go.Pd
end
noncomputable section
namespace Go.AL
open Go.ChangeShapes Go.WideShapes Go.RowKit
variable [Tabs]
structure GoodR {H:Type} (P:Program) (N M:Nat) (g:TypeId→DataW H→Prop):Prop where
 str:∀t s,P.underlying t=some .string→g t (.lit (.string s))→s.length<=M
 len:∀t e es sp,P.underlying t=some (.slice e)→g t (.slice es sp)→16<=P.bytesOf e→es.length<=N
 el:∀t e es sp,P.underlying t=some (.slice e)→g t (.slice es sp)→∀x∈es,g e x
 part:∀t fs ps,P.underlying t=some (.struct fs)→g t (.agg ps)→∀(i:Nat) (f:Field) p,fs[i]?=some f→ps[i]?=some p→g f.type p
variable {H:Type} {enc:TypeId × Value→H} {P:Program} {w:World} {base:Nat} {held:Bool}
theorem D4 {N M:Nat} {g:TypeId→DataW H→Prop} (hb:GoodR P N M g) {t e:TypeId} {τ:Ty} {Q:den τ→Prop} {fuel:Nat} {cs:List Value} {x:DataW H × List MemPlace} (ht:P.underlying t=some (.slice e)) (hc:P.cellsOf e=ae τ) (h:DataW.trod enc P w base (fun _=>true) held fuel t cs=some x) (hg:g t x.1)
  (hel:∀(n:Nat) (ds:List Value) (y:DataW H × List MemPlace),fuel=n+1→DataW.trod enc P w base (fun _=>true) held n e ds=some y→g e y.1→∃z:den τ,VL (Om0 w) (cells τ z) ds/\Q z)
  (hsp:∀a len cap,cs=[.slice (some a) len cap]→a.spot=none):∃(l:List (den τ)) (v:Value),cs=[v]/\V (Om0 w) (.lst τ l none) v/\(16<=P.bytesOf e→l.length<=N)/\∀z∈l,Q z:=by
 rcases DataW.trod_slice ht h with ⟨rfl,_⟩ | ⟨a,len,cap,elems,rest,n,hfu,rfl,hx,_,hlc,hcm,hlen,hels,_,_⟩
 ·exact ⟨[],_,rfl,.lstNil τ none (fun id hid=>by cases hid),fun _=>Nat.zero_le _,fun z hz=>by cases hz⟩
 ·have hs:=hsp a len cap rfl
  obtain ⟨bl,off,spot⟩:=a
  simp only at hs
  subst hs
  have each:∀i,i < len→∃z:den τ,∃ds:List Value,ds.length=ae τ/\(∀j,j < ae τ→w.cell? ⟨bl,off+(i *ae τ+j),none⟩=ds[j]?)/\VL (Om0 w) (cells τ z) ds/\Q z:=by
   intro i hi
   have h1:=hels i hi
   obtain ⟨y,hy⟩:∃y,elems[i]?=some y:=⟨_,List.getElem?_eq_getElem (by omega)⟩
   rw [hy,hc,Option.bind_eq_some_iff] at h1
   obtain ⟨ds,hd,hy'⟩:=h1
   obtain ⟨_,hdl,hdc⟩:=World.cells?_some hd
   obtain ⟨z,hz,hq⟩:=hel n ds y hfu hy' (by
    rw [hx] at hg
    exact hb.el _ _ _ _ ht hg _ (List.mem_map_of_mem (List.mem_of_getElem? hy)))
   refine ⟨z,ds,hdl,fun j hj=>?_,hz,hq⟩
   have:=hdc j hj
   have ha:∀(o n:Nat),(⟨bl,o,none⟩:Addr).add n=⟨bl,o+n,none⟩:=by
    intro o n
    unfold Addr.add
    by_cases h0:n=0
    ·subst h0;rfl
    ·rw [if_neg h0]
   rw [ha,ha,Nat.add_assoc] at this
   exact this
  have hz:∃l:List (den τ),l.length=len/\∀i z,l[i]?=some z→∃ds:List Value,ds.length=ae τ/\(∀j,j < ae τ→w.cell? ⟨bl,off+(i *ae τ+j),none⟩=ds[j]?)/\VL (Om0 w) (cells τ z) ds/\Q z:=by
   refine ⟨(List.range len).attach.map fun i=>(each i.1 (List.mem_range.1 i.2)).choose,by simp,fun i z hi=>?_⟩
   have hil:i < len:=by
    have:=(List.getElem?_eq_some_iff.1 hi).1
    simpa using this
   simp only [List.getElem?_map,Option.map_eq_some_iff] at hi
   obtain ⟨⟨k,hk⟩,h1,h2⟩:=hi
   have hki:k=i:=by
    have:=List.getElem?_eq_some_iff.1 h1
    obtain ⟨_,e⟩:=this
    have:=congrArg Subtype.val e
    simpa using this.symm
   subst hki
   rw [←h2]
   exact (each k (List.mem_range.1 hk)).choose_spec
  obtain ⟨l,hll,hle⟩:=hz
  have hQ:∀z∈l,Q z:=fun z hz=>by
   obtain ⟨i,hi⟩:=List.getElem?_of_mem hz
   obtain ⟨_,_,_,_,hq⟩:=hle i z hi
   exact hq
  have hL:16<=P.bytesOf e→l.length<=N:=fun h16=>by
   rw [hx] at hg
   rw [hll,←hlen]
   have:=hb.len _ _ _ _ ht hg h16
   rwa [List.length_map] at this
  refine ⟨l,_,rfl,?_,hL,hQ⟩
  have key:=V.lst (Ω:=Om0 w) τ l none bl off cap (fun i j=>(w.cell? ⟨bl,off+(i *ae τ+j),none⟩).getD undef) (by omega) (by unfold maxLen at hcm;unfold bn;omega) (fun id hid=>by cases hid) (fun i z hz j c hj=>?_) (fun i z hz j c hj=>?_)
  ·rw [hll] at key
   exact key
  ·obtain ⟨ds,d1,d2,d3,_⟩:=hle i z hz
   have hjw:j < ae τ:=by
    rw [←aM τ z]
    exact (List.getElem?_eq_some_iff.1 hj).1
   have hv:w.cell? ⟨bl,off+(i *ae τ+j),none⟩=some ds[j]:=by rw [d2 j hjw];exact List.getElem?_eq_getElem (by omega)
   refine ⟨⟨_,hv⟩,?_⟩
   show w.cell? _=_
   rw [hv];rfl
  ·obtain ⟨ds,d1,d2,d3,_⟩:=hle i z hz
   have hjw:j < ae τ:=by
    rw [←aM τ z]
    exact (List.getElem?_eq_some_iff.1 hj).1
   have hd:ds[j]?=some ds[j]:=List.getElem?_eq_getElem (by omega)
   rw [d2 j hjw,hd]
   exact d3.2 j c ds[j] hj hd
theorem xf {N M:Nat} {g:TypeId→DataW H→Prop} (hb:GoodR P N M g) {t e:TypeId} {τ:Ty} {Q:den τ→Prop} {fuel:Nat} {cs:List Value} {x:DataW H × List MemPlace} (ht:P.underlying t=some (.slice e)) (hc:P.cellsOf e=ae τ) (hw:0 < ae τ)
  (h:DataW.trod enc P w base (fun _=>true) held fuel t cs=some x) (hg:g t x.1)
  (hel:∀(n:Nat) (ds:List Value) (y:DataW H × List MemPlace),fuel=n+1→DataW.trod enc P w base (fun _=>true) held n e ds=some y→g e y.1→∃z:den τ,VL (Om0 w) (cells τ z) ds/\Q z) :
  ∃(l:List (den τ)) (v:Value),cs=[v]/\V (Om0 w) (.lst τ l none) v/\(16<=P.bytesOf e→l.length<=N)/\∀z∈l,Q z:=by
 have h0:=h
 rcases DataW.trod_slice ht h with ⟨rfl,_⟩ | ⟨a,len,cap,elems,rest,n,hfu,rfl,_,_,hlc,hcm,hlen,hels,hrest,_⟩
 ·exact ⟨[],_,rfl,.lstNil τ none (fun id hid=>by cases hid),fun _=>Nat.zero_le _,fun z hz=>by cases hz⟩
 ·by_cases hcap:cap=0
  ·have:len=0:=by omega
   subst hcap this
   exact ⟨[],_,rfl,.lstVoid τ a,fun _=>Nat.zero_le _,fun z hz=>by cases hz⟩
  ·refine D4 hb ht hc h0 hg hel fun a' len' cap' e'=>?_
   simp only [List.cons.injEq,Value.slice.injEq,Xs,and_true] at e'
   obtain ⟨rfl,rfl,rfl⟩:=e'
   have hr:∃(ad:Addr) (y:DataW H × List MemPlace),ad=a/\(w.cells? base ad (P.cellsOf e)).bind (DataW.trod enc P w base (fun _=>true) held n e)=some y:=by
    by_cases hl:len=0
    ·obtain ⟨r1,r2⟩:=hrest rfl
     have:=r2 0 (by omega)
     rw [hl] at this
     refine ⟨_,_,?_,this.trans (List.getElem?_eq_getElem (by omega))⟩
     simp [Addr.add]
    ·have:=hels 0 (by omega)
     refine ⟨_,_,?_,this.trans (List.getElem?_eq_getElem (by omega))⟩
     simp [Addr.add]
   obtain ⟨ad,y,rfl,hy⟩:=hr
   rw [Option.bind_eq_some_iff] at hy
   obtain ⟨ds,hd,_⟩:=hy
   obtain ⟨_,hdl,hdc⟩:=World.cells?_some hd
   have:=hdc 0 (by rw [hc];exact hw)
   have ha:ad.add 0=ad:=by simp [Addr.add]
   rw [ha,List.getElem?_eq_getElem (by rw [hdl,hc];exact hw)] at this
   unfold World.cell? at this
   split at this
   ·split at this
    ·cases this
    ·rename_i hs
     cases hsp:ad.spot
     ·rfl
     ·rw [hsp] at hs;exact absurd rfl hs
   ·cases this
theorem Ag {N M:Nat} {g:TypeId→DataW H→Prop} (hb:GoodR P N M g) {sp:Nat→Bool} {t:TypeId} {fs:Array Field} {fuel:Nat} {cs:List Value} {x:DataW H × List MemPlace} (ht:P.underlying t=some (.struct fs)) (h:DataW.trod enc P w base sp held fuel t cs=some x) (hg:g t x.1) :
  ∃n,fuel=n+1/\cs.length=P.cellsOf t/\∀(i:Nat) (f:Field),fs[i]?=some f→∃y,DataW.trod enc P w base sp held n f.type ((cs.drop f.offset).take (P.cellsOf f.type))=some y/\g f.type y.1:=by
 obtain ⟨xs,n,hn,hx,hl,hs,hf⟩:=DataW.trod_struct ht h
 refine ⟨n,hn,hl,fun i f hif=>?_⟩
 have hi:i < xs.length:=by
  rw [hs]
  rcases Nat.lt_or_ge i fs.size with k | k
  ·exact k
  ·rw [Array.getElem?_eq_none k] at hif;cases hif
 refine ⟨xs[i],by rw [hf i f hif];exact List.getElem?_eq_getElem hi,?_⟩
 rw [hx] at hg
 exact hb.part _ _ _ ht hg i f _ hif (by rw [List.getElem?_map,List.getElem?_eq_getElem hi];rfl)
structure TermAt (P:Program) (t:TypeId):Prop where
 ex:∃(f0 f1 f2 f3 f4 f5 f6 f7 f8:Field) (e g:TypeId),P.underlying t=some (.struct #[f0,f1,f2,f3,f4,f5,f6,f7,f8])/\P.cellsOf t=9/\
  (f0.offset=0/\f1.offset=1/\f2.offset=2/\f3.offset=3/\f4.offset=4/\f5.offset=5/\f6.offset=6/\f7.offset=7/\f8.offset=8)/\
  (P.cellsOf f0.type=1/\P.cellsOf f1.type=1/\P.cellsOf f2.type=1/\P.cellsOf f3.type=1/\P.cellsOf f4.type=1/\P.cellsOf f5.type=1/\P.cellsOf f6.type=1/\P.cellsOf f7.type=1/\P.cellsOf f8.type=1)/\
  (P.underlying f0.type=some (.int .i64)/\P.underlying f1.type=some .string/\P.underlying f2.type=some .string/\P.underlying f3.type=some (.int .i64)/\P.underlying f4.type=some (.slice e)/\P.underlying f5.type=some (.slice e)/\
   P.underlying f6.type=some (.slice g)/\P.underlying f7.type=some (.slice t)/\P.underlying f8.type=some (.int .i64))/\(P.underlying e=some .string/\P.cellsOf e=1/\P.bytesOf e=16)/\ShapeAt P g
def D5 (P:Program) (t:TypeId) (d:DataW H):Prop:=∀n∈d.weights P t,n<=reachBytes
theorem mD {P:Program} {e:TypeId}:∀{ds:List (DataW H)} {x:DataW H},x∈ds→∀n∈x.weights P e,n∈DataW.weightsAll P e ds
 | d ::r,x,hx,n,hn=>by
  unfold DataW.weightsAll
  rcases List.mem_cons.1 hx with rfl | hx
  ·exact List.mem_append.2 (.inl hn)
  ·exact List.mem_append.2 (.inr (mD hx n hn))
theorem iE {P:Program}:∀{ts:List TypeId} {ds:List (DataW H)} {i:Nat} {t:TypeId} {x:DataW H},ts[i]?=some t→ds[i]?=some x→∀n∈x.weights P t,n∈DataW.weightsEach P ts ds
 | [],_,i,t,x,h,_,_,_=>by simp at h
 | _ ::_,[],i,t,x,_,h,_,_=>by simp at h
 | t' ::ts,d ::ds,0,t,x,h,g,n,hn=>by
  simp only [List.getElem?_cons_zero,Xs] at h g
  subst h g
  unfold DataW.weightsEach
  exact List.mem_append.2 (.inl hn)
 | t' ::ts,d ::ds,i+1,t,x,h,g,n,hn=>by
  simp only [List.getElem?_cons_succ] at h g
  unfold DataW.weightsEach
  exact List.mem_append.2 (.inr (iE h g n hn))
theorem vz (P:Program):GoodR (H:=H) P 8796093022208 140737488355328 (D5 P) where
 str t s ht h:=by
  have:=h s.length (by unfold DataW.weights;exact .head _)
  unfold reachBytes at this
  omega
 len t e es sp ht h h16:=by
  have:=h ((es.length+sp.length) *P.bytesOf e) (by unfold DataW.weights;rw [ht];exact .head _)
  have h2:=Nat.mul_le_mul_left (es.length+sp.length) h16
  unfold reachBytes at this
  omega
 el t e es sp ht h x hx n hn:=h n (by
  unfold DataW.weights
  rw [ht]
  exact .tail _ (List.mem_append.2 (.inl (mD hx n hn))))
 part t fs ps ht h i f p hf hp n hn:=h n (by
  unfold DataW.weights
  rw [ht]
  refine iE (i:=i) (t:=f.type) ?_ hp n hn
  rw [List.getElem?_map,Array.getElem?_toList,hf]
  rfl)
end Go.AL
end
section
namespace Go.Pd
open Go Go.AL
theorem ej {p:Prop} [Decidable p] (h:(!decide p)=true):¬p:=by simpa using h
theorem eK {p:Prop} [Decidable p] (h:¬(!decide p)=true):p:=by simpa using h
def lP (n:Int):Thg:=⟨1,n,[],[],[],[],none⟩
def D6 (s:Str):Thg:=⟨2,0,[],s,[],[],none⟩
def ku (b:Bool):Thg:=⟨3,if b=true then 1 else 0,[],[],[],[],none⟩
def vA (k:Int) (o x:Str) (ns:List Str) (l:List Thg):Thg:=⟨k,0,o,x,ns,l,none⟩
def yq (f:Fnc):Thg:=⟨8,0,[],[],[],[],some f⟩
def oH:Thg:=⟨0,0,[],[],[],[],none⟩
def cA (s:Option Scp) (o n:Str) (w:Thg):Option Scp:=some ⟨o,n,w,s⟩
def rL:Option Scp→Nat
 | none=>0
 | some ⟨_,_,_,r⟩=>rL r+1
mutual
def findS:Scp→Str→Str→Option Scp
 | ⟨p,n,w,r⟩,o,m=>if p=o/\n=m then some ⟨p,n,w,r⟩ else findF r o m
def findF:Option Scp→Str→Str→Option Scp
 | none,_,_=>none
 | some s,o,m=>findS s o m
end
theorem qg (p n:Str) (w:Thg) (r:Option Scp):rL (some ⟨p,n,w,r⟩)=rL r+1:=by rw [rL]
theorem iF (p n:Str) (w:Thg) (r:Option Scp) (o m:Str):findF (some ⟨p,n,w,r⟩) o m=if p=o/\n=m then some ⟨p,n,w,r⟩ else findF r o m:=by rw [findF,findS]
theorem vB (o m:Str):findF none o m=none:=by rw [findF]
def two:List Str:=[[97,100,100],[115,117,98],[109,117,108],[108,101,115,115],[115,97,109,101],[98,111,116,104],[99,97,116]]
def jP:List Str:=[[110,111,116],[115,105,122,101],[115,104,111,119]]
def du (k:Int) (s:Option Scp) (n:Str):Option Scp:=cA s [] n (yq ⟨none,[],[],none,n,k⟩)
def ck:Option Scp:=jP.foldl (du 1) (two.foldl (du 2) none)
def tv (n:Int):Int:=IntKind.i64.wrap n
structure Ev where
 f:Flt
 v:Thg
 st:Int
structure EvL where
 f:Flt
 vs:List Thg
 st:Int
def okE (v:Thg) (st:Int):Option Ev:=some ⟨⟨0,0⟩,v,st⟩
def pF (e a st:Int):Option Ev:=some ⟨⟨e,a⟩,oH,st⟩
def C0 (r:Option Ev) (k:Thg→Int→Option Ev):Option Ev:=
 match r with
 | none=>none
 | some e=>if e.f.err=0 then k e.v e.st else some ⟨e.f,oH,e.st⟩
def kY (r:Option EvL) (k:List Thg→Int→Option Ev):Option Ev:=
 match r with
 | none=>none
 | some e=>if e.f.err=0 then k e.vs e.st else some ⟨e.f,oH,e.st⟩
def D7:Ev:=⟨⟨0,0⟩,oH,0⟩
def C1:EvL:=⟨⟨0,0⟩,[],0⟩
def lQ (ev:Trm→Int→Option Ev):List Trm→List Thg→Int→Option EvL
 | [],out,st=>some ⟨⟨0,0⟩,out,st⟩
 | t ::r,out,st=>
  match ev t st with
  | none=>none
  | some e=>if e.f.err=0 then lQ ev r (out++[e.v]) e.st else some ⟨e.f,[],e.st⟩
def an (ev:Trm→Int→Option Ev) (l:List Trm) (st:Int):Option EvL:=if 1000000 < l.length then none else lQ ev l [] st
def dh (k:Int) (l:List Thg):Bool:=l.all fun x=>decide (x.kind=k)
def k9 (k:Int) (l:List Thg) (a:Int) (r:Option Ev):Option Ev:=if dh k l=true then r else pF 291 a 0
def nH0 (l:List Thg):Int:=(l.getD 0 default).n
def nH1 (l:List Thg):Int:=(l.getD 1 default).n
def tH0 (l:List Thg):Str:=(l.getD 0 default).text
def tH1 (l:List Thg):Str:=(l.getD 1 default).text
def catE (x y:Str) (a:Int):Option Ev:=if 1000000000000000000 < x.length∨1000000000000000000 < y.length then none else if 4096 < x.length+y.length then pF 3 a 0 else okE (D6 (x++y)) 0
def numE (nm:Str) (l:List Thg):Option Ev:=
 if nm=[115,104,111,119] then (if 1000 < (Go.Lib.itoa (nH0 l)).length then none else okE (D6 (Go.Lib.itoa (nH0 l))) 0)
 else if l.length < 2 then none
 else okE (if nm=[97,100,100] then lP (tv (nH0 l+nH1 l)) else if nm=[115,117,98] then lP (tv (nH0 l - nH1 l)) else if nm=[109,117,108] then lP (tv (nH0 l *nH1 l)) else if nm=[108,101,115,115] then ku (decide (nH0 l < nH1 l)) else ku (decide (nH0 l=nH1 l))) 0
def ah (nm:Str) (l:List Thg) (a:Int):Option Ev:=
 if l=[] then none
 else if nm=[110,111,116] then k9 3 l a (okE (ku (decide (nH0 l=0))) 0)
 else if nm=[98,111,116,104] then k9 3 l a (if l.length < 2 then none else okE (ku (decide (tv (nH0 l+nH1 l)=2))) 0)
 else if nm=[99,97,116] then k9 2 l a (if l.length < 2 then none else catE (tH0 l) (tH1 l) a)
 else if nm=[115,105,122,101] then k9 2 l a (okE (lP (tH0 l).length) 0)
 else k9 1 l a (numE nm l)
theorem dB {α:Type} {r:Option α} (h:r≠none):∃v,r=some v:=by cases r with | none=>exact absurd rfl h | some v=>exact ⟨v,rfl⟩
theorem jn {k:Int} {l:List Thg} {a:Int} {r:Option Ev} {e:Ev} (h:k9 k l a r=some e) (hk:(!dh k l)=true):e=⟨⟨291,a⟩,oH,0⟩:=by
 unfold k9 at h
 rw [if_neg (by simpa using hk)] at h
 exact (Option.some.inj h).symm
theorem gS {k:Int} {l:List Thg} {a:Int} {r:Option Ev} {e:Ev} (h:k9 k l a r=some e) (hk:¬(!dh k l)=true):r=some e:=by
 unfold k9 at h
 rw [if_pos (by simpa using hk)] at h
 exact h
theorem rM {l:List Thg} {r:Option Ev} {e:Ev} (h:(if l.length < 2 then none else r)=some e):r=some e/\(1:Int) < l.length:=by
 split at h
 ·cases h
 ·exact ⟨h,by omega⟩
theorem cW {v:Thg} {st:Int} {e:Ev} (h:okE v st=some e):e=⟨⟨0,0⟩,v,st⟩:=(Option.some.inj h).symm
theorem dm {x a st:Int} {e:Ev} (h:pF x a st=some e):e=⟨⟨x,a⟩,oH,st⟩:=(Option.some.inj h).symm
def Ah (r:Option Ev) (st:Int):Option Ev:=match r with | none=>none | some e=>some ⟨e.f,e.v,st⟩
def dq:Option Scp→List Str→List Thg→Option (Option Scp)
 | s,[],_=>some s
 | _,_ ::_,[]=>none
 | s,n ::ns,x ::xs=>dq (cA s [] n x) ns xs
def fcn (l:List Thg):Fnc:=((l.getD 0 default).fn).getD default
def oI (l:List Thg):Bool:=(l.getD 0 default).fn.isSome
def Ai (l:List Thg):Bool:=(l.getD 0 default).fn.isNone
theorem D8 {l:List Thg} (h:Ai l=true):oI l=false:=by unfold Ai at h;unfold oI;cases q:(l.getD 0 default).fn <;> simp_all
theorem D9 {l:List Thg} (h:¬Ai l=true):oI l=true:=by unfold Ai at h;unfold oI;cases q:(l.getD 0 default).fn <;> simp_all
abbrev EvT:=Trm→Plc→Int→Option Ev
def CF (ev:EvT) (f:Fnc) (l:List Thg) (a st:Int):Option Ev:=
 match f.body with
 | none=>Ah (ah f.basic l a) st
 | some b=>
  match dq f.scp f.names l with
  | none=>none
  | some s=>ev b ⟨s,f.self⟩ st
def yr (mo st:Int):Prop:=0<=st/\st<=mo/\mo<=1000000
instance (mo st:Int):Decidable (yr mo st):=inferInstanceAs (Decidable (_/\_))
def bw (ev:EvT) (mo:Int) (a:Int) (l:List Thg) (st:Int):Option Ev:=
 if ¬yr mo st∨l.length=0∨1000000 < l.length then none
 else if oI l=true/\(fcn l).args=(l.length:Int) - 1 then (if st=mo then pF 292 a st else CF ev (fcn l) (l.drop 1) a (st+1))
 else pF 291 a st
def iL (t:Trm) (i:Nat) (r:Option Ev):Option Ev:=if t.parts.length<=i then none else r
def kZ (t:Trm) (i:Nat):Trm:=t.parts.getD i default
def Aj (x:Thg) (t:Trm) (st:Int):Option Ev:=
 if x.kind=5/\0<=ba x.names t.name 0 then (if x.parts.length<=(ba x.names t.name 0).toNat then none else okE (x.parts.getD (ba x.names t.name 0).toNat default) st) else pF 291 t.pos st
def ifE (ev:EvT) (x:Thg) (t:Trm) (p:Plc) (st:Int):Option Ev:=
 if x.kind=3 then (if x.n=0∨x.n=1 then iL t (2 - x.n).toNat (ev (kZ t (2 - x.n).toNat) p st) else none) else pF 291 t.pos st
def Ak (ev:EvT) (x:Thg) (t:Trm) (p:Plc) (i:Nat) (st:Int):Option Ev:=
 if t.vars.length<=i∨x.parts.length=0 then none else iL t (i+1) (ev (kZ t (i+1)) ⟨cA p.scp [] (t.vars.getD i default) (x.parts.getD 0 default),p.self⟩ st)
def Al (ev:EvT) (x:Thg) (t:Trm) (p:Plc) (st:Int):Option Ev:=
 if x.kind=6/\0<=ba t.names x.text 0 then Ak ev x t p (ba t.names x.text 0).toNat st else pF 291 t.pos st
def rawE (x:Thg) (t:Trm) (p:Plc) (st:Int):Option Ev:=
 if x.kind=7/\x.pkg=p.self/\x.text=t.name then (if x.parts.length=0 then none else okE (x.parts.getD 0 default) st) else pF 291 t.pos st
def CG (ev:EvT) (t:Trm) (p:Plc) (x:Thg) (st:Int):Option Ev:=
 if t.kind=9 then Aj x t st else if t.kind=12 then ifE ev x t p st else if t.kind=13 then Al ev x t p st else rawE x t p st
def al (ev:EvT) (t:Trm) (p:Plc) (st:Int):Option Ev:=iL t 0 (C0 (ev (kZ t 0) p st) (CG ev t p))
def letE (ev:EvT) (t:Trm) (p:Plc) (st:Int):Option Ev:=iL t 1 (C0 (ev (kZ t 0) p st) fun v st=>ev (kZ t 1) ⟨cA p.scp [] t.name v,p.self⟩ st)
def CH (ev:EvT) (t:Trm) (p:Plc) (st:Int):Option Ev:=iL t 0 (ev (kZ t 0) p st)
def Da (x:Option Scp) (t:Trm) (st:Int):Option Ev:=if x.isSome=true then okE (x.getD default).what st else pF 110 t.pos st
def varE (t:Trm) (p:Plc) (st:Int):Option Ev:=Da (findF p.scp t.pkg t.name) t st
def funE (t:Trm) (p:Plc) (st:Int):Option Ev:=iL t 0 (okE (yq ⟨p.scp,p.self,t.names,some (kZ t 0),[],t.names.length⟩) st)
def xg (ev:EvT) (mo:Int) (t:Trm) (p:Plc) (st:Int):Option Ev:=
 if t.kind=1 then okE (lP t.n) st
 else if t.kind=2 then okE (D6 t.name) st
 else if t.kind=3∨t.kind=4 then okE (ku (decide (t.kind=3))) st
 else if t.kind=5 then varE t p st
 else if t.kind=6 then funE t p st
 else if t.kind=7 then kY (an (fun x=>ev x p) t.parts st) (bw ev mo t.pos)
 else if t.kind=8 then kY (an (fun x=>ev x p) t.parts st) fun l st=>okE (vA 5 [] [] t.names l) st
 else if t.kind=10 then kY (an (fun x=>ev x p) t.parts st) fun l st=>okE (vA 6 [] t.name [] l) st
 else if t.kind=11 then kY (an (fun x=>ev x p) t.parts st) fun l st=>okE (vA 4 [] [] [] l) st
 else if t.kind=15 then CH ev t p st
 else if t.kind=16 then kY (an (fun x=>ev x p) t.parts st) fun l st=>okE (vA 7 p.self t.name [] l) st
 else if t.kind=14 then letE ev t p st
 else al ev t p st
def a7 (mo:Int):Nat→EvT
 | 0,_,_,_=>none
 | n+1,t,p,st=>if yr mo st then xg (a7 mo n) mo t p st else none
end Go.Pd
end
section
namespace Go.AL
variable [Tabs]
section
variable {P:Program}
def p4 (τ σ ρ μ:Ty) (F:den τ→den σ→den ρ→den μ→Ans):Pat
 | [a,b,c,d],[]=>(match arg τ a,arg σ b,arg ρ c,arg μ d with | some a,some b,some c,some d=>some (F a b c d) | _,_,_,_=>none)
 | _,_=>none
theorem DO {f:Nat} {τ σ ρ μ:Ty} {F:den τ→den σ→den ρ→den μ→Ans} (he:aq P f)
  (h:∀x y z u,Wf τ x→Wf σ y→Wf ρ z→(∀q,(F x y z u).ob=some q→q)→ao P f [inj τ x,inj σ y,inj ρ z,inj μ u] [] (F x y z u)):ag P f (p4 τ σ ρ μ F):=by
 intro args S A hA ho _
 unfold p4 at hA
 split at hA
 ·split at hA
  ·rename_i x y z u hx hy hz hu
   simp at hA
   subst hA
   exact ⟨he,ao.args (.cons (Rd.arg hx) (.cons (Rd.arg hy) (.cons (Rd.arg hz) (.cons (Rd.arg hu) .nil)))) (ao.wf fun hw=>h x y z u hw.one hw.two hw.three ho)⟩
  ·cases hA
 ·cases hA
end
end Go.AL
end
noncomputable section
namespace Go.AL
open Go.Pd
variable [Tabs] {P:Program}
def yt (st mo:Int):List (Nat × SObj):=[(900,.box (.agg [.int .i64 st,.int .i64 mo]))]
def ab (r:Option Ev):Ev:=match r with | none=>D7 | some e=>e
theorem bY (e:Ev):ab (some e)=e:=rfl
def bW (r:Option EvL):EvL:=match r with | none=>C1 | some e=>e
theorem gT (e:EvL):bW (some e)=e:=rfl
def kx (t:Nat) (mo:Int) (ob:Prop) (e:Ev):Ans:=
 ⟨some ob,some (!decide (e.f.err=0),.iface t (.agg [.int .i64 e.f.err,.int .i64 e.f.pos]),[(900,.box (.agg [.int .i64 e.st,.int .i64 mo]))]),.st .thing e.v,[(900,.box (.agg [.int .i64 e.st,.int .i64 mo]))]⟩
def evLA (t:Nat) (mo:Int) (ob:Prop) (e:EvL):Ans:=
 ⟨some ob,some (!decide (e.f.err=0),.iface t (.agg [.int .i64 e.f.err,.int .i64 e.f.pos]),[(900,.box (.agg [.int .i64 e.st,.int .i64 mo]))]),.lst (.st .thing) e.vs none,[(900,.box (.agg [.int .i64 e.st,.int .i64 mo]))]⟩
def bsA (t:Nat) (ob:Prop) (e:Ev):Ans:=⟨some ob,some (!decide (e.f.err=0),.iface t (.agg [.int .i64 e.f.err,.int .i64 e.f.pos]),[]),.st .thing e.v,[]⟩
def pE (τ:Ty) (F:den τ→Plc→Int→Int→Ans):Pat
 | [.ptr 900 0,a,b],[(900,.box (.agg [.int .i64 st,.int .i64 mo]))]=>(match arg τ a,arg (.st .plc) b with | some x,some p=>some (F x p st mo) | _,_=>none)
 | _,_=>none
def pEc (F:Trm→List Thg→Int→Int→Ans):Pat
 | [.ptr 900 0,a,b],[(900,.box (.agg [.int .i64 st,.int .i64 mo]))]=>(match arg (.pt .term) a,arg (.lst (.st .thing)) b with | some (some x),some l=>some (F x l st mo) | _,_=>none)
 | _,_=>none
theorem Wf.pt {n:SN} {x:SD n} (h:Wf (.pt n) (some x)):Wf (.st n) x:=by
 obtain ⟨Ω,v,hv⟩:=h
 cases hv with
 | ptSome _ _ _ hc=>
  cases hc with
  | cptr _ b off vals h1 h2=>
   refine ⟨Ω,.agg ((List.range (cells (.st n) x).length).map vals).toArray,.st n x _ (.agg _ _ (by simp) fun j c v hc hv=>?_)⟩
   have hlt:j < (cells (.st n) x).length:=by
    rcases Nat.lt_or_ge j (cells (.st n) x).length with q | q
    ·exact q
    ·rw [List.getElem?_eq_none q] at hc;cases hc
   rw [List.getElem?_map,List.getElem?_range hlt] at hv
   simp only [Option.map_some,Xs] at hv
   rw [←hv]
   exact h2 j c hc
theorem xh {f:Nat} {τ:Ty} {F:den τ→Plc→Int→Int→Ans} (he:aq P f)
  (h:∀x p st mo,Wf τ x→Wf (.st .plc) p→(∀q,(F x p st mo).ob=some q→q)→ao P f [.ptr 900 0,inj τ x,.st .plc p] (yt st mo) (F x p st mo)):ag P f (pE τ F):=by
 intro args S A hA ho _
 unfold pE at hA
 split at hA
 ·split at hA
  ·rename_i x p hx hp
   simp only [Xs] at hA
   subst hA
   exact ⟨he,ao.args (.cons (Rd.refl _) (.cons (Rd.arg hx) (.cons (Rd.arg hp) .nil))) (ao.wf fun hw=>h _ _ _ _ (WfL.two hw) (WfL.three (τ:=.st .plc) hw) ho)⟩
  ·cases hA
 ·cases hA
theorem Db {f:Nat} {F:Trm→List Thg→Int→Int→Ans} (he:aq P f)
  (h:∀x l st mo,Wf (.st .term) x→Wf (.lst (.st .thing)) l→(∀q,(F x l st mo).ob=some q→q)→ao P f [.ptr 900 0,.pt .term (some x),.lst (.st .thing) l none] (yt st mo) (F x l st mo)):ag P f (pEc F):=by
 intro args S A hA ho _
 unfold pEc at hA
 split at hA
 ·split at hA
  ·rename_i x l hx hl
   simp only [Xs] at hA
   subst hA
   exact ⟨he,ao.args (.cons (Rd.refl _) (.cons (Rd.arg hx) (.cons (Rd.arg hl) .nil))) (ao.wf fun hw=>h _ _ _ _ (Wf.pt (WfL.two (τ:=.pt .term) hw)) (WfL.three (τ:=.lst (.st .thing)) hw) ho)⟩
  ·cases hA
 ·cases hA
end Go.AL
end
section
namespace Go.Pd
open Go.AL
def p0 (A:Ans):Pat
 | [],[]=>some A
 | _,_=>none
theorem CI [Tabs] {P:Program} {f:Nat} {A:Ans} (he:aq P f) (h:ao P f [] [] A):ag P f (p0 A):=by
 intro args S A' hA _ _
 unfold p0 at hA
 split at hA
 ·simp only [Xs] at hA
  subst hA
  exact ⟨he,h⟩
 ·cases hA
end Go.Pd
end
noncomputable section
namespace Go.Pd
open Go Go.AL
mutual
def szV:Vlu→Nat
 | ⟨_,_,_,_,_,ps⟩=>szVL ps+1
def szVL:List Vlu→Nat
 | []=>0
 | p ::r=>szV p+szVL r
end
mutual
def allV (f:Vlu→Bool):Vlu→Bool
 | ⟨k,z,g,x,ns,ps⟩=>f ⟨k,z,g,x,ns,ps⟩ && allVL f ps
def allVL (f:Vlu→Bool):List Vlu→Bool
 | []=>true
 | p ::r=>allV f p && allVL f r
end
mutual
def deepV:Vlu→Int→Int
 | ⟨_,_,_,_,_,ps⟩,l=>deepVL ps (l+1) l
def deepVL:List Vlu→Int→Int→Int
 | [],_,d=>d
 | p ::r,l,d=>deepVL r l (max d (deepV p l))
end
theorem jo (a:Vlu):szV a=szVL a.parts+1:=by cases a;rfl
theorem fx (a:Vlu):0 < szV a:=by rw [jo];omega
theorem gq:∀{l:List Vlu} {a:Vlu},a∈l→szV a<=szVL l
 | b ::r,a,h=>by
  simp only [szVL]
  rcases List.mem_cons.1 h with rfl | h
  ·omega
  ·have:=gq h;omega
theorem jq:∀(l:List Vlu) (k:Nat) (d:Vlu),k < l.length→szVL (l.take (k+1))=szVL (l.take k)+szV (l.getD k d)
 | a ::r,0,d,_=>by simp [szVL]
 | a ::r,k+1,d,h=>by
  have:=jq r k d (by simpa using h)
  simp only [List.take_succ_cons,szVL,List.getD_cons_succ] at this ⊢
  omega
theorem rN (l:List Vlu) (k:Nat):szVL (l.take k)<=szVL l:=by
 induction l generalizing k with
 | nil=>simp [szVL]
 | cons a r ih=>
  cases k with
  | zero=>simp [szVL]
  | succ k=>have:=ih k;simp only [List.take_succ_cons,szVL];omega
theorem allV_eq (f:Vlu→Bool) (v:Vlu):allV f v=(f v && v.parts.all (allV f)):=by
 have e:∀l:List Vlu,allVL f l=l.all (allV f):=by
  intro l
  induction l with
  | nil=>rfl
  | cons a r ih=>rw [List.all_cons,←ih];rfl
 cases v with
 | mk k z g x ns ps=>show (f _ && allVL f ps)=_;rw [e]
def vC (t:Nat) (v:Vlu) (l c:Int) (q:Prop):Ans:=
 ⟨some (q/\0<=c/\c<=2000/\1<=l/\l<=c+1),some (decide (2000 < c+(szV v:Int)),.iface t (.agg []),[(900,.box (.int .i64 2001))]),.int .i64 (deepV v l),[(900,.box (.int .i64 (c+(szV v:Int))))]⟩
def l0 (t:Nat) (n:Nat):Pat:=fun args S=>
 match args,S with
 | [a,.int .i64 l,.ptr 900 0],[(900,.box (.int .i64 c))]=>(match arg (.st .val) a with | some v=>some (vC t v l c (szV v<=n)) | none=>none)
 | _,_=>none
theorem mE [Tabs] {P:Program} {f t n:Nat} (he:aq P f) (h:∀v l c,Wf (.st .val) v→szV v<=n→(0<=c/\c<=2000/\1<=l/\l<=c+1)→ao P f [.st .val v,.int .i64 l,.ptr 900 0] [(900,.box (.int .i64 c))] (vC t v l c (szV v<=n))) :
  ag P f (l0 t n):=by
 intro args S A hA ho _
 unfold l0 at hA
 split at hA
 ·split at hA
  ·rename_i v hv
   simp only [Xs] at hA
   subst hA
   obtain ⟨h1,h2⟩:=ho _ rfl
   exact ⟨he,ao.args (.cons (Rd.arg hv) (.cons (Rd.refl _) (.cons (Rd.refl _) .nil))) (ao.wf fun hw=>h _ _ _ hw.one h1 h2)⟩
  ·cases hA
 ·cases hA
def qh (v:Vlu):Bool:=decide (v.pkg=[]) && decide (v.text=[]) && decide (v.names.length=0)
def lR (v:Vlu):Bool:=decide (v.parts.length=0)
def ai (v:Vlu):Bool:=
 if v.kind=1 then qh v && lR v
 else if v.kind=2 then decide (v.pkg=[]) && decide (v.n=0) && decide (v.names.length=0) && lR v
 else if v.kind=3 then qh v && lR v && (decide (v.n=0) || decide (v.n=1))
 else if v.kind=4 then qh v && decide (v.n=0)
 else if v.kind=5 then decide (v.pkg=[]) && decide (v.text=[]) && decide (v.n=0) && fj v.names && decide (v.names.length=v.parts.length)
 else if v.kind=6 then decide (v.pkg=[]) && decide (v.n=0) && decide (v.names.length=0) && aw v.text && decide (v.parts.length=1)
 else if v.kind=7 then aw v.pkg && cU v.text && decide (v.n=0) && decide (v.names.length=0) && decide (v.parts.length=1)
 else if v.kind=8 then qh v && lR v && decide (0<=v.n) && decide (v.n<=1000)
 else false
def bD (v:Vlu):Bool:=allV (fun x=>decide (x.names.length<=8796093022208)) v
def fb (v:Vlu):Int:=if 2000 < szV v then 3 else if 40 < deepV v 1 then 91 else if allV ai v=true then 0 else 290
def fc:Vlu:=⟨0,0,[],[],[],[]⟩
structure Td where
 ok:Bool
 v:Vlu
 room:Int
structure TdL where
 ok:Bool
 vs:List Vlu
 room:Int
def Dc:Td:=⟨false,fc,0⟩
def cM (r:Option Td):Td:=match r with | none=>Dc | some t=>t
theorem lS (t:Td):cM (some t)=t:=rfl
def fnN (x:Thg):Int:=if x.fn.isSome=true then (x.fn.getD default).args else x.n
def DQ (x:Thg) (ps:List Vlu):Vlu:=⟨x.kind,fnN x,x.pkg,x.text,x.names,ps⟩
def fe (td:Thg→Int→Option Td):List Thg→List Vlu→Int→Option TdL
 | [],out,r=>some ⟨true,out,r⟩
 | x ::l,out,r=>
  match td x r with
  | none=>none
  | some t=>if t.ok=true then fe td l (out++[t.v]) t.room else some ⟨false,[],t.room⟩
def oJ (r:Int):Prop:=0<=r/\r<=1000000
instance (r:Int):Decidable (oJ r):=inferInstanceAs (Decidable (_/\_))
def endT (x:Thg) (t:TdL):Td:=⟨t.ok,if t.ok=true then DQ x t.vs else fc,t.room⟩
def aP:Nat→Thg→Int→Option Td
 | 0,_,_=>none
 | n+1,x,r=>
  if ¬oJ r then none
  else if r - 1 < 0 then some ⟨false,fc,r - 1⟩
  else if 8796093022208 < x.names.length∨1000000 < x.parts.length then none
  else (fe (aP n) x.parts [] (r - 1)).map (endT x)
structure Sw where
 f:Flt
 v:Vlu
def Dd:Sw:=⟨⟨0,0⟩,fc⟩
def js (r:Option Sw):Sw:=match r with | none=>Dd | some t=>t
theorem qi (t:Sw):js (some t)=t:=rfl
def bU (m:Nat) (x:Thg) (a:Int):Option Sw:=
 match aP m x 2000 with
 | none=>none
 | some t=>
  if t.ok=true then (if bD t.v=true then (if fb t.v=0 then some ⟨⟨0,0⟩,t.v⟩ else some ⟨⟨fb t.v,a⟩,fc⟩) else none)
  else some ⟨⟨3,a⟩,fc⟩
structure Rn where
 v:Vlu
 st:Int
 f:Flt
def De:Rn:=⟨fc,0,⟨0,0⟩⟩
def aR (r:Option Rn):Rn:=match r with | none=>De | some t=>t
theorem gU (t:Rn):aR (some t)=t:=rfl
def lT:Plc:=⟨ck,[]⟩
def swR (st:Int) (s:Sw):Rn:=if s.f.err=0 then ⟨s.v,st,⟨0,0⟩⟩ else ⟨fc,st,s.f⟩
def Am (m:Nat) (a:Int) (e:Ev):Option Rn:=if e.f.err=0 then (bU m e.v a).map (swR e.st) else some ⟨fc,e.st,e.f⟩
def bE (n m:Nat) (t:Trm) (k:Int):Option Rn:=(a7 k n t lT 0).bind (Am m t.pos)
def C2 (r:Rn):Rn:=if r.f.err=0 then ⟨r.v,r.st,⟨0,0⟩⟩ else ⟨fc,0,r.f⟩
def bk (n m:Nat) (t:Trm) (k:Int):Option Rn:=
 if ¬bG t=0 then some ⟨fc,0,⟨bG t,0⟩⟩
 else if k < 0∨2000 < k then some ⟨fc,0,⟨2,0⟩⟩
 else (bE n m t k).map C2
def Ao (q:Prop) (t:Td):Ans:=⟨some q,none,.tup [.st .val t.v,.bool t.ok],[(900,.box (.int .i64 t.room))]⟩
def jL (n:Nat):Pat:=fun args S=>
 match args,S with
 | [a,.ptr 900 0],[(900,.box (.int .i64 r))]=>(match arg (.st .thing) a with | some x=>some (Ao ((aP n x r).isSome=true) (cM (aP n x r))) | none=>none)
 | _,_=>none
theorem oK [Tabs] {P:Program} {f n:Nat} (he:aq P f) (h:∀x r,Wf (.st .thing) x→(aP n x r).isSome=true→ao P f [.st .thing x,.ptr 900 0] [(900,.box (.int .i64 r))] (Ao ((aP n x r).isSome=true) (cM (aP n x r)))) :
  ag P f (jL n):=by
 intro args S A hA ho _
 unfold jL at hA
 split at hA
 ·split at hA
  ·rename_i x hx
   simp only [Xs] at hA
   subst hA
   exact ⟨he,ao.args (.cons (Rd.arg hx) (.cons (Rd.refl _) .nil)) (ao.wf fun hw=>h _ _ hw.one (ho _ rfl))⟩
  ·cases hA
 ·cases hA
def swA (t:Nat) (q:Prop) (s:Sw):Ans:=⟨some q,some (!decide (s.f.err=0),.iface t (.agg [.int .i64 s.f.err,.int .i64 s.f.pos]),[]),.st .val s.v,[]⟩
def DR:AV:=.agg [.int .i64 0,.int .i64 0,.str [],.str [],.nils,.nils]
def rnS (st mo:Int):List (Nat × SObj):=[(900,.box (.ptr 902 0)),(901,.box DR),(902,.box (.agg [.int .i64 st,.int .i64 mo]))]
def Df (t:Nat) (mo:Int) (q:Prop) (r:Rn):Ans:=
 ⟨some q,some (!decide (r.f.err=0),.iface t (.agg [.int .i64 r.f.err,.int .i64 r.f.pos]),[(902,.box (.agg [.int .i64 r.st,.int .i64 mo]))]),.tup [],
  [(901,.box (.st .val r.v)),(902,.box (.agg [.int .i64 r.st,.int .i64 mo]))]⟩
def Dg (mo:Int) (q:Prop) (r:Rn):Ans:=⟨some q,none,.st .fault r.f,[(901,.box (.st .val r.v)),(902,.box (.agg [.int .i64 r.st,.int .i64 mo]))]⟩
theorem xi [Tabs] {n:SN} {c:AV} {x:SD n} (h:arg (.st n) c=some x):Rd (.cptr c) (.cptr (.st n x)):=by
 intro Ω v hv
 have hr:=lu (.st n) h
 cases hv with
 | cptr _ b off vals h1 h2=>
  have key:∀(j:Nat) (d:AV),(cells (.st n) x)[j]?=some d→∃c',(aa c)[j]?=some c'/\Rd c' d:=fun j d hd=>by
   have hlt:j < (aa c).length:=by
    rw [hr.1]
    rcases Nat.lt_or_ge j (cells (.st n) x).length with q | q
    ·exact q
    ·rw [List.getElem?_eq_none q] at hd;cases hd
   exact ⟨_,List.getElem?_eq_getElem hlt,hr.2 j _ d (List.getElem?_eq_getElem hlt) hd⟩
  refine .cptr _ b off vals (fun j d hd=>?_) (fun j d hd=>?_)
  ·obtain ⟨c',hc,_⟩:=key j d hd
   exact h1 j c' hc
  ·obtain ⟨c',hc,r⟩:=key j d hd
   exact r _ _ (h2 j c' hc)
theorem xj [Tabs] {n:SN} {x:SD n} (h:∃Ω v,V Ω (.cptr (.st n x)) v):Wf (.st n) x:=by
 obtain ⟨Ω,v,h⟩:=h
 exact Wf.pt ⟨Ω,v,.ptSome _ _ _ h⟩
theorem DS [Tabs] (g:Nat) {cs ds:List AV} (h:RdL cs ds):Rd (.fn g cs) (.fn g ds):=by
 intro Ω v hv
 obtain ⟨vs,rfl,h1⟩:=V.fn_inv hv
 have:=h1.rd h
 exact .fn g ds vs this.1 this.2
def tw (t n m:Nat):Pat:=fun args S=>
 match args,S with
 | [.ptr 900 0,.cptr b,.ptr 901 0],[(900,.box (.ptr 902 0)),(901,.box (.agg [.int .i64 0,.int .i64 0,.str [],.str [],.nils,.nils])),(902,.box (.agg [.int .i64 0,.int .i64 mo]))]=>
  (match arg (.st .term) b with | some x=>some (Df t mo ((bE n m x mo).isSome=true) (aR (bE n m x mo))) | none=>none)
 | _,_=>none
theorem Ap [Tabs] {P:Program} {f t n m:Nat} (he:aq P f) (h:∀x mo,Wf (.st .term) x→(bE n m x mo).isSome=true→ao P f [.ptr 900 0,.cptr (.st .term x),.ptr 901 0] (rnS 0 mo) (Df t mo ((bE n m x mo).isSome=true) (aR (bE n m x mo)))) :
  ag P f (tw t n m):=by
 intro args S A hA ho _
 unfold tw at hA
 split at hA
 ·split at hA
  ·rename_i x hx
   simp only [Xs] at hA
   subst hA
   exact ⟨he,ao.args (.cons (Rd.refl _) (.cons (xi hx) (.cons (Rd.refl _) .nil))) (ao.wf fun hw=>h _ _ (xj hw.cons.2.cons.1) (ho _ rfl))⟩
  ·cases hA
 ·cases hA
def Aq (g n m:Nat):Pat:=fun args S=>
 match args,S with
 | [.fn g' [.ptr 900 0,.cptr b,.ptr 901 0]],[(900,.box (.ptr 902 0)),(901,.box (.agg [.int .i64 0,.int .i64 0,.str [],.str [],.nils,.nils])),(902,.box (.agg [.int .i64 0,.int .i64 mo]))]=>
  (match Nat.beq g' g,arg (.st .term) b with | true,some x=>some (Dg mo ((bE n m x mo).isSome=true) (aR (bE n m x mo))) | _,_=>none)
 | _,_=>none
theorem C3 [Tabs] {P:Program} {f g n m:Nat} (he:aq P f) (h:∀x mo,Wf (.st .term) x→(bE n m x mo).isSome=true→ao P f [.fn g [.ptr 900 0,.cptr (.st .term x),.ptr 901 0]] (rnS 0 mo) (Dg mo ((bE n m x mo).isSome=true) (aR (bE n m x mo)))) :
  ag P f (Aq g n m):=by
 intro args S A hA ho _
 unfold Aq at hA
 split at hA
 ·split at hA
  ·rename_i x hg hx
   simp only [Xs] at hA
   subst hA
   have e:=Nat.eq_of_beq_eq_true hg
   subst e
   exact ⟨he,ao.args (.cons (DS _ (.cons (Rd.refl _) (.cons (xi hx) (.cons (Rd.refl _) .nil)))) .nil) (ao.wf fun hw=>h _ _ (by
    obtain ⟨Ω,v,hv⟩:=hw.cons.1
    obtain ⟨vs,rfl,h1⟩:=V.fn_inv hv
    exact xj (WfL.cons (WfL.cons ⟨Ω,vs,h1⟩).2).1) (ho _ rfl))⟩
  ·cases hA
 ·cases hA
theorem DT {n m:Nat} {t:Trm} {k:Int} {r:Rn} (h:bE n m t k=some r) (hf:¬r.f.err=0):r.v=fc:=by
 unfold bE at h
 obtain ⟨e,he,h⟩:=Option.bind_eq_some_iff.1 h
 unfold Am at h
 split at h
 ·obtain ⟨s,hs,rfl⟩:=Option.map_eq_some_iff.1 h
  unfold swR at hf ⊢
  split
  ·rename_i q;rw [if_pos q] at hf;exact absurd rfl hf
  ·rfl
 ·cases h;rfl
theorem Dh {n m:Nat} {t:Trm} {k:Int} {r:Rn} (h:bE n m t k=some r) (hf:r.f.err=0):r.f=⟨0,0⟩:=by
 unfold bE at h
 obtain ⟨e,he,h⟩:=Option.bind_eq_some_iff.1 h
 unfold Am at h
 split at h
 ·obtain ⟨s,hs,rfl⟩:=Option.map_eq_some_iff.1 h
  unfold swR at hf ⊢
  split
  ·rfl
  ·rename_i q;rw [if_neg q] at hf;exact absurd hf q
 ·rename_i q;cases h;exact absurd hf q
end Go.Pd
end
noncomputable section
namespace Go.AL
open Go.ChangeShapes Go.WideShapes Go.RowKit
variable [Tabs]
variable {H:Type} {enc:TypeId × Value→H} {P:Program} {w:World} {base:Nat} {held:Bool}
structure ValAt (P:Program) (t:TypeId):Prop where
 ex:∃(f0 f1 f2 f3 f4 f5:Field) (e:TypeId),P.underlying t=some (.struct #[f0,f1,f2,f3,f4,f5])/\P.cellsOf t=6/\
  (f0.offset=0/\f1.offset=1/\f2.offset=2/\f3.offset=3/\f4.offset=4/\f5.offset=5)/\
  (P.cellsOf f0.type=1/\P.cellsOf f1.type=1/\P.cellsOf f2.type=1/\P.cellsOf f3.type=1/\P.cellsOf f4.type=1/\P.cellsOf f5.type=1)/\
  (P.underlying f0.type=some (.int .i64)/\P.underlying f1.type=some (.int .i64)/\P.underlying f2.type=some .string/\P.underlying f3.type=some .string/\P.underlying f4.type=some (.slice e)/\P.underlying f5.type=some (.slice t))/\
  (P.underlying e=some .string/\P.cellsOf e=1/\P.bytesOf e=16)
def vD (N:Nat) (x:Vlu):Bool:=decide (x.names.length<=N)
theorem DU {N M:Nat} {g:TypeId→DataW H→Prop} (hb:GoodR P N M g) {t:TypeId} (hs:ValAt P t):∀(fuel:Nat) (cs:List Value) (x:DataW H × List MemPlace),DataW.trod enc P w base (fun _=>true) held fuel t cs=some x→g t x.1→
  ∃s:Vlu,VL (Om0 w) (cells (.st .val) s) cs/\Pd.allV (vD N) s=true:=by
 obtain ⟨f0,f1,f2,f3,f4,f5,e,ht,hc,⟨o0,o1,o2,o3,o4,o5⟩,⟨c0,c1,c2,c3,c4,c5⟩,⟨u0,u1,u2,u3,u4,u5⟩,⟨us,ce,b16⟩⟩:=hs
 intro fuel
 induction fuel using Nat.strongRecOn with
 | _ fuel ih=>
 intro cs x h hN
 obtain ⟨n,hn,hl,hf⟩:=Ag hb ht h hN
 rw [hc] at hl
 obtain ⟨y0,h0,_⟩:=hf 0 f0 rfl
 obtain ⟨y1,h1,_⟩:=hf 1 f1 rfl
 obtain ⟨y2,h2,_⟩:=hf 2 f2 rfl
 obtain ⟨y3,h3,_⟩:=hf 3 f3 rfl
 obtain ⟨y4,h4,b4⟩:=hf 4 f4 rfl
 obtain ⟨y5,h5,b5⟩:=hf 5 f5 rfl
 match cs,hl with
 | [a0,a1,a2,a3,a4,a5],_=>
  rw [o0,c0] at h0
  rw [o1,c1] at h1
  rw [o2,c2] at h2
  rw [o3,c3] at h3
  rw [o4,c4] at h4
  rw [o5,c5] at h5
  simp only [List.drop_zero,List.drop_succ_cons,List.take_succ_cons,List.take_zero] at h0 h1 h2 h3 h4 h5
  obtain ⟨k,e0,v0⟩:=CC u0 h0
  obtain ⟨z,e1,v1⟩:=CC u1 h1
  obtain ⟨p,w2,e2,v2⟩:=A0 u2 h2
  obtain ⟨m,w3,e3,v3⟩:=A0 u3 h3
  obtain ⟨ns,w4,e4,v4,l4,_⟩:=xf (τ:=.str) (Q:=fun _=>True) hb u4 ce (by decide) h4 b4 (fun n ds y _ hy _=>by
   obtain ⟨s,v,rfl,hv⟩:=A0 us hy
   exact ⟨s,VL.cons hv .nil,trivial⟩)
  obtain ⟨ps,w5,e5,v5,_,q5⟩:=xf (τ:=.st .val) (Q:=fun s=>Pd.allV (vD N) s=true) hb u5 (by rw [hc];rfl) (by decide) h5 b5 (fun k ds y hk hy hle=>ih k (by omega) ds y hy hle)
  simp only [List.cons.injEq,and_true] at e0 e1 e2 e3 e4 e5
  subst e0 e1 e2 e3 e4 e5
  refine ⟨⟨k,z,p,m,ns,ps⟩,VL.cons v0 (VL.cons v1 (VL.cons v2 (VL.cons v3 (VL.cons v4 (VL.cons v5 .nil))))),?_⟩
  rw [Pd.allV_eq,Bool.and_eq_true,List.all_eq_true]
  exact ⟨Xd (l4 (Nat.le_of_eq b16.symm)),q5⟩
theorem Ar {N M:Nat} {g:TypeId→DataW H→Prop} (hb:GoodR P N M g) {t:TypeId} (hs:ValAt P t) {r:Reach} {b0:Nat} {v:Value} {d:DataW H} {ps:List MemPlace} (hv:Value.okWide P w r b0 t v) (h:DataW.Trod enc P w base (fun _=>true) held t v d ps) (hg:g t d):∃s:Vlu,V (Om0 w) (.st .val s) v/\Pd.allV (vD N) s=true:=by
 obtain ⟨fu,h⟩:=h
 obtain ⟨s,hs',hq⟩:=DU hb hs _ _ _ h hg
 refine ⟨s,.st .val s v ?_,hq⟩
 have hl:=hs'.1
 have hc:(cells (.st .val) s).length=6:=rfl
 rw [hc] at hl
 cases v with
 | agg vs=>
  have:=V.of_agg hs'
  simpa [Value.cells] using this
 | _=>simp [Value.cells] at hl
end Go.AL
end
section
namespace Go.Proofs.YtgackciebknbeaaGreatDoor.Join
open Go.AL Go.AL.Seat Go.Pd Go.ChangeShapes Go.WideShapes Go.RowKit Go.Lib Go.Shelf
set_option maxRecDepth 1000000
theorem DV:ValAt Tryz.prog 32:=⟨_,_,_,_,_,_,9,Tryz.underlying32,by kernel_rfl,⟨rfl,rfl,rfl,rfl,rfl,rfl⟩,⟨by kernel_rfl,by kernel_rfl,by kernel_rfl,by kernel_rfl,by kernel_rfl,by kernel_rfl⟩,⟨by kernel_rfl,by kernel_rfl,by kernel_rfl,by kernel_rfl,by kernel_rfl,by kernel_rfl⟩,⟨by kernel_rfl,by kernel_rfl,by kernel_rfl⟩⟩
theorem DW:Tryz.prog.readableRec 32=true:=by kernel_rfl
end Go.Proofs.YtgackciebknbeaaGreatDoor.Join
end
section
open Go Go.AL Go.Proofs
namespace Go.AL.Seat
variable [Tabs]
def r1:TR:=⟨.other,1,8,[.undef],none⟩
def r2:TR:=⟨.int .i64,1,8,[.int .i64 0],some (.int .i64)⟩
def r5:TR:=⟨.int .u8,1,1,[.int .u8 0],some (.int .u8)⟩
def r7:TR:=⟨.strct true [(0,2),(1,3),(2,4),(3,6)],4,24,[.int .i64 0,.int .i64 0,.bool false,.int .u8 0],none⟩
def r9:TR:=⟨.str,1,16,[.str []],some .str⟩
def r12:TR:=⟨.int .u64,1,8,[.int .u64 0],some (.int .u64)⟩
def r13:TR:=⟨.strct false [(0,9),(1,12)],2,24,[.str [],.int .u64 0],none⟩
def r18:TR:=⟨.strct false [(0,17)],1,8,[.nilp],none⟩
def r20:TR:=⟨.iface,1,16,[.nilif],none⟩
def r21:TR:=⟨.int .i32,1,4,[.int .i32 0],some (.int .i32)⟩
def r49:TR:=⟨.strct true [(0,3),(1,3)],2,16,[.int .i64 0,.int .i64 0],none⟩
def r76:TR:=⟨.strct true [(0,35)],2,16,[.int .i64 0,.int .i64 0],none⟩
def r95:TR:=⟨.strct false [],0,0,[],none⟩
def C4:TR:=⟨.strct true [(0,9),(1,3)],2,24,[.str [],.int .i64 0],none⟩
def C5:TR:=⟨.strct false [(0,101),(2,68),(3,35)],5,64,[.str [],.int .i64 0,.nils,.int .i64 0,.int .i64 0],none⟩
def r148:TR:=⟨.strct true [(0,3),(1,3),(2,3),(3,3)],4,32,[.int .i64 0,.int .i64 0,.int .i64 0,.int .i64 0],none⟩
def r202:TR:=⟨.strct true [(0,5),(1,5)],2,2,[.int .u8 0,.int .u8 0],none⟩
def r238:TR:=⟨.strct false [(0,9),(1,9),(2,171)],3,48,[.str [],.str [],.nilif],none⟩
def r255:TR:=⟨.strct true [(0,9)],1,16,[.str []],none⟩
def r267:TR:=⟨.strct false [(0,17),(1,17),(2,17),(3,9)],4,40,[.nilp,.nilp,.nilp,.str []],none⟩
def r278:TR:=⟨.strct false [(0,12),(1,12),(2,232),(3,273),(4,5),(5,5),(6,274),(7,275),(8,253),(9,276),(10,277)],11,48,[.int .u64 0,.int .u64 0,.int .u32 0,.int .u8 0,.int .u8 0,.int .u8 0,.int .u8 0,.undef,.nilp,.int .i32 0,.int .i32 0],none⟩
def tbl:List (Nat × TR):=[(1,r1),
 (2,r2),
 (3,r2),
 (4,⟨.bool,1,1,[.bool false],some .bool⟩),
 (5,r5),
 (6,r5),
 (7,r7),
 (8,r7),
 (9,r9),
 (10,r9),
 (11,r9),
 (12,r12),
 (13,r13),
 (14,r13),
 (15,⟨.ptr 268,1,8,[.nilp],none⟩),
 (16,⟨.ptr 271,1,8,[.nilp],none⟩),
 (17,⟨.ptr 279,1,8,[.nilp],none⟩),
 (18,r18),
 (19,r18),
 (20,r20),
 (21,r21),
 (22,⟨.slice 9,1,24,[.nils],some (.lst .str)⟩),
 (23,⟨.slice 93,1,24,[.nils],some (.lst (.st .shape))⟩),
 (24,⟨.slice 26,1,24,[.nils],some (.lst (.st .term))⟩),
 (25,⟨.strct false [(0,3),(1,9),(2,9),(3,3),(4,22),(5,22),(6,23),(7,24),(8,3)],9,152,[.int .i64 0,.str [],.str [],.int .i64 0,.nils,.nils,.nils,.nils,.int .i64 0],none⟩),
 (26,⟨.strct false [(0,3),(1,9),(2,9),(3,3),(4,22),(5,22),(6,23),(7,24),(8,3)],9,152,[.int .i64 0,.str [],.str [],.int .i64 0,.nils,.nils,.nils,.nils,.int .i64 0],some (.st .term)⟩),
 (27,r1),
 (28,r1),
 (29,r1),
 (30,⟨.slice 32,1,24,[.nils],some (.lst (.st .val))⟩),
 (31,⟨.strct false [(0,3),(1,2),(2,9),(3,9),(4,22),(5,30)],6,96,[.int .i64 0,.int .i64 0,.str [],.str [],.nils,.nils],none⟩),
 (32,⟨.strct false [(0,3),(1,2),(2,9),(3,9),(4,22),(5,30)],6,96,[.int .i64 0,.int .i64 0,.str [],.str [],.nils,.nils],some (.st .val)⟩),
 (33,r2),
 (34,⟨.strct true [(0,33),(1,3)],2,16,[.int .i64 0,.int .i64 0],none⟩),
 (35,⟨.strct true [(0,33),(1,3)],2,16,[.int .i64 0,.int .i64 0],some (.st .fault)⟩),
 (37,r1),
 (38,r1),
 (39,r1),
 (41,r1),
 (42,r1),
 (43,r1),
 (45,r1),
 (46,r1),
 (47,r1),
 (48,⟨.ptr 50,1,8,[.nilp],none⟩),
 (49,r49),
 (50,r49),
 (51,r1),
 (52,r1),
 (53,⟨.slice 56,1,24,[.nils],some (.lst (.st .thing))⟩),
 (54,⟨.ptr 88,1,8,[.nilp],none⟩),
 (55,⟨.strct false [(0,3),(1,2),(2,9),(3,9),(4,22),(5,53),(6,54)],7,104,[.int .i64 0,.int .i64 0,.str [],.str [],.nils,.nils,.nilp],none⟩),
 (56,⟨.strct false [(0,3),(1,2),(2,9),(3,9),(4,22),(5,53),(6,54)],7,104,[.int .i64 0,.int .i64 0,.str [],.str [],.nils,.nils,.nilp],some (.st .thing)⟩),
 (57,r1),
 (58,⟨.ptr 26,1,8,[.nilp],none⟩),
 (59,⟨.ptr 86,1,8,[.nilp],none⟩),
 (60,r1),
 (61,⟨.strct false [(0,59),(1,9)],2,24,[.nilp,.str []],none⟩),
 (62,⟨.strct false [(0,59),(1,9)],2,24,[.nilp,.str []],some (.st .plc)⟩),
 (63,r1),
 (65,r1),
 (67,r1),
 (68,⟨.slice 109,1,24,[.nils],some (.lst (.st .token))⟩),
 (70,r1),
 (72,r1),
 (73,r1),
 (75,r1),
 (76,r76),
 (77,r76),
 (80,r1),
 (81,⟨.ptr 3,1,8,[.nilp],none⟩),
 (82,r1),
 (83,r1),
 (84,r1),
 (85,⟨.strct false [(0,9),(1,9),(2,56),(9,59)],10,144,[.str [],.str [],.int .i64 0,.int .i64 0,.str [],.str [],.nils,.nils,.nilp,.nilp],none⟩),
 (86,⟨.strct false [(0,9),(1,9),(2,56),(9,59)],10,144,[.str [],.str [],.int .i64 0,.int .i64 0,.str [],.str [],.nils,.nils,.nilp,.nilp],some (.st .scope)⟩),
 (87,⟨.strct false [(0,62),(2,22),(3,58),(4,9),(5,3)],6,80,[.nilp,.str [],.nils,.nilp,.str [],.int .i64 0],none⟩),
 (88,⟨.strct false [(0,62),(2,22),(3,58),(4,9),(5,3)],6,80,[.nilp,.str [],.nils,.nilp,.str [],.int .i64 0],some (.st .func)⟩),
 (89,r1),
 (90,r1),
 (91,r1),
 (92,⟨.strct false [(0,3),(1,9),(2,9),(3,22),(4,23)],5,88,[.int .i64 0,.str [],.str [],.nils,.nils],none⟩),
 (93,⟨.strct false [(0,3),(1,9),(2,9),(3,22),(4,23)],5,88,[.int .i64 0,.str [],.str [],.nils,.nils],some (.st .shape)⟩),
 (94,r1),
 (95,r95),
 (96,r95),
 (98,r1),
 (99,⟨.ptr 103,1,8,[.nilp],none⟩),
 (100,C4),
 (101,C4),
 (102,C5),
 (103,C5),
 (104,r1),
 (105,r1),
 (106,r1),
 (107,r1),
 (108,⟨.strct true [(0,3),(1,9),(2,3)],3,32,[.int .i64 0,.str [],.int .i64 0],none⟩),
 (109,⟨.strct true [(0,3),(1,9),(2,3)],3,32,[.int .i64 0,.str [],.int .i64 0],some (.st .token)⟩),
 (110,⟨.ptr 115,1,8,[.nilp],none⟩),
 (111,r1),
 (112,⟨.strct false [(0,68),(1,3),(2,35)],4,48,[.nils,.int .i64 0,.int .i64 0,.int .i64 0],none⟩),
 (113,⟨.strct false [(0,68),(1,3),(2,35)],4,48,[.nils,.int .i64 0,.int .i64 0,.int .i64 0],some (.st .par)⟩),
 (114,⟨.strct false [(0,113)],4,48,[.nils,.int .i64 0,.int .i64 0,.int .i64 0],none⟩),
 (115,⟨.strct false [(0,113)],4,48,[.nils,.int .i64 0,.int .i64 0,.int .i64 0],some (.st .par)⟩),
 (116,r1),
 (117,r1),
 (118,r1),
 (119,r1),
 (120,r1),
 (121,r1),
 (122,r1),
 (123,r1),
 (124,r1),
 (125,r1),
 (126,⟨.ptr 101,1,8,[.nilp],none⟩),
 (127,⟨.slice 3,1,24,[.nils],some (.lst (.int .i64))⟩),
 (129,r1),
 (130,r1),
 (131,r1),
 (132,r1),
 (133,⟨.strct true [(0,3),(1,3),(2,3),(3,9)],4,40,[.int .i64 0,.int .i64 0,.int .i64 0,.str []],none⟩),
 (134,⟨.strct true [(0,3),(1,3),(2,3),(3,9)],4,40,[.int .i64 0,.int .i64 0,.int .i64 0,.str []],some (.st .version)⟩),
 (136,r1),
 (138,r1),
 (139,⟨.ptr 113,1,8,[.nilp],none⟩),
 (140,r1),
 (141,r1),
 (142,r1),
 (143,r1),
 (144,r1),
 (145,r1),
 (146,r1),
 (147,r1),
 (148,r148),
 (149,r148),
 (150,r1),
 (151,r1),
 (152,r1),
 (153,r1),
 (154,r1),
 (155,r1),
 (157,r1),
 (158,r1),
 (159,r1),
 (163,r1),
 (164,r1),
 (165,⟨.ptr 161,1,8,[.nilp],none⟩),
 (167,r1),
 (168,r1),
 (169,⟨.arr 3 3,3,24,[.int .i64 0,.int .i64 0,.int .i64 0],none⟩),
 (170,r20),
 (171,r20),
 (173,r1),
 (174,r1),
 (175,⟨.slice 5,1,24,[.nils],some (.lst (.int .u8))⟩),
 (176,r1),
 (177,r1),
 (178,r1),
 (179,r1),
 (180,r1),
 (181,r1),
 (182,r1),
 (183,r1),
 (184,r1),
 (185,r1),
 (186,r1),
 (187,r1),
 (188,r1),
 (189,r1),
 (190,r1),
 (191,r1),
 (192,r1),
 (193,r1),
 (194,r1),
 (195,r1),
 (196,r1),
 (197,r1),
 (198,r1),
 (199,r1),
 (200,r1),
 (202,r202),
 (203,r202),
 (205,r12),
 (206,r1),
 (207,r1),
 (209,r12),
 (210,r1),
 (211,r1),
 (213,r1),
 (214,r1),
 (215,r1),
 (216,r2),
 (218,r1),
 (219,⟨.ptr 239,1,8,[.nilp],none⟩),
 (220,r1),
 (221,r1),
 (222,r95),
 (224,r1),
 (225,r1),
 (226,r1),
 (227,r1),
 (228,r1),
 (229,r1),
 (230,r1),
 (232,⟨.int .u32,1,4,[.int .u32 0],some (.int .u32)⟩),
 (234,r1),
 (236,r1),
 (237,r1),
 (238,r238),
 (239,r238),
 (240,r1),
 (241,r1),
 (242,r2),
 (244,r1),
 (245,r1),
 (246,r1),
 (248,r1),
 (249,r1),
 (251,r1),
 (252,r1),
 (253,⟨.ptr 5,1,8,[.nilp],none⟩),
 (254,⟨.ptr 256,1,8,[.nilp],none⟩),
 (255,r255),
 (256,r255),
 (257,r12),
 (258,r1),
 (259,r1),
 (260,r1),
 (261,r1),
 (264,⟨.ptr 257,1,8,[.nilp],none⟩),
 (265,r1),
 (266,r1),
 (267,r267),
 (268,r267),
 (272,r1),
 (273,r5),
 (274,r5),
 (275,r1),
 (276,r21),
 (277,r21),
 (278,r278),
 (279,r278)]
theorem tk {t:Nat} {r:TR} (h1:(Tryz.prog.info? t).map (fun i=>(i.size,i.bytes,i.zero.map fun z=>z.cells.toList.map bH))=some (r.size,r.bytes,some r.zero):=by kernel_rfl)
  (h2:(Tryz.prog.underlying t).map (aE Tryz.prog r.ti)=some true:=by kernel_rfl)
  (h3:(dQ r.zero r.size && (Nat.beq r.size 0 || Nat.blt 0 r.bytes) && (match r.ty with | some τ=>Nat.beq (ae τ) r.size && (By τ ==r.isAgg) | none=>true))=true:=by kernel_rfl)
  (h8:(Tryz.prog.info? t).map (fun i=>i.zero.map fun z=>uO z ==r.isAgg)=some (some true):=by kernel_rfl)
  (h9:(match r.ti with | .strct true _=>!Tryz.prog.stoodInHeld t && !Tryz.prog.eqGuardType Tryz.prog.depth t | _=>true)=true:=by kernel_rfl):TRok Tryz.prog t r:=TRok.mk' h1 h2 h3 h8 h9
theorem tx:aK Tryz.prog tbl:=
 .cons tk (.cons tk (.cons tk (.cons tk (.cons tk (.cons tk (.cons tk (.cons tk (.cons tk (.cons tk (.cons tk (.cons tk (.cons tk (.cons tk (.cons tk (.cons tk (.cons tk (.cons tk (.cons tk (.cons tk (.cons tk (.cons tk (.cons tk (.cons tk (.cons tk (.cons tk (.cons tk (.cons tk (.cons tk (.cons tk (.cons tk (.cons tk (.cons tk (.cons tk (.cons tk (.cons tk (.cons tk (.cons tk (.cons tk (.cons tk (.cons tk (.cons tk (.cons tk (.cons tk (.cons tk (.cons tk (.cons tk (.cons tk (.cons tk (.cons tk (.cons tk (.cons tk (.cons tk (.cons tk (.cons tk (.cons tk (.cons tk (.cons tk (.cons tk (.cons tk (.cons tk (.cons tk (.cons tk (.cons tk (.cons tk (.cons tk (.cons tk (.cons tk (.cons tk (.cons tk (.cons tk (.cons tk (.cons tk (.cons tk (.cons tk (.cons tk (.cons tk (.cons tk (.cons tk (.cons tk (.cons tk (.cons tk (.cons tk (.cons tk (.cons tk (.cons tk (.cons tk (.cons tk (.cons tk (.cons tk (.cons tk (.cons tk (.cons tk (.cons tk (.cons tk (.cons tk (.cons tk (.cons tk (.cons tk (.cons tk (.cons tk (.cons tk (.cons tk (.cons tk (.cons tk (.cons tk (.cons tk (.cons tk (.cons tk (.cons tk (.cons tk (.cons tk (.cons tk (.cons tk (.cons tk (.cons tk (.cons tk (.cons tk (.cons tk (.cons tk (.cons tk (.cons tk (.cons tk (.cons tk (.cons tk (.cons tk (.cons tk (.cons tk (.cons tk (.cons tk (.cons tk (.cons tk (.cons tk (.cons tk (.cons tk (.cons tk (.cons tk (.cons tk (.cons tk (.cons tk (.cons tk (.cons tk (.cons tk (.cons tk (.cons tk (.cons tk (.cons tk (.cons tk (.cons tk (.cons tk (.cons tk (.cons tk (.cons tk (.cons tk (.cons tk (.cons tk (.cons tk (.cons tk (.cons tk (.cons tk (.cons tk (.cons tk (.cons tk (.cons tk (.cons tk (.cons tk (.cons tk (.cons tk (.cons tk (.cons tk (.cons tk (.cons tk (.cons tk (.cons tk (.cons tk (.cons tk (.cons tk (.cons tk (.cons tk (.cons tk (.cons tk (.cons tk (.cons tk (.cons tk (.cons tk (.cons tk (.cons tk (.cons tk (.cons tk (.cons tk (.cons tk (.cons tk (.cons tk (.cons tk (.cons tk (.cons tk (.cons tk (.cons tk (.cons tk (.cons tk (.cons tk (.cons tk (.cons tk (.cons tk (.cons tk (.cons tk (.cons tk (.cons tk (.cons tk (.cons tk (.cons tk (.cons tk (.cons tk (.cons tk (.cons tk (.cons tk (.cons tk (.cons tk (.cons tk (.cons tk (.cons tk (.cons tk (.cons tk (.cons tk (.cons tk (.cons tk (.cons tk (.cons tk (.cons tk (.cons tk (.cons tk (.cons tk (.cons tk (.cons tk (.cons tk (.cons tk (.cons tk (.cons tk (.cons tk (.cons tk (.cons tk (.cons tk (.nil))))))))))))))))))))))))))))))))))))))))))))))))))))))))))))))))))))))))))))))))))))))))))))))))))))))))))))))))))))))))))))))))))))))))))))))))))))))))))))))))))))))))))))))))))))))))))))))))))))))))))))))))))))))))))))))))))))))))))))))))))
theorem mixed:Tryz.prog.follows .mixedOrders=true:=by kernel_rfl
end Go.AL.Seat
end
noncomputable section
namespace Go.AL
variable [Tabs]
def Di:AV→Bool
 | .ptr k 0=>bc k
 | _=>false
def ptrIn (ks:List Nat):AV→Bool
 | .ptr k _=>ks.contains k
 | _=>false
def C6 (ks:List Nat) (t:List (Nat × AV)):List (Nat × AV):=t.map fun x=>(x.1,if ptrIn ks x.2 then x.2 else .undef)
structure RC where
 r0:Code
 rest:Code
 crest:Code
 t5:Nat
 caps:List Operand
 t6:Nat
 t3:Nat
def Dj (g:Nat) (c cc:Code):Option RC:=
 match c,cc with
 | .seq r0 (.seq (.region _ o1 false) rest),.seq (.region _ o2 false) crest=>
  match o1.toList,o2.toList with
  | [⟨some t5,.makeFunc (.func g') fst caps,_,_,_,none⟩,⟨none,.defer ⟨.value (.tmp t5'),asx,_⟩,_,_,_,none⟩],
   [⟨some t6,.call ⟨.builtin .recover,as2,_⟩,_,_,_,none⟩,⟨some t3,.assign (.tmp t6'),_,_,_,none⟩]=>
   if Nat.beq g' g && Nat.beq t5' t5 && Nat.beq t6' t6 && fst.isEmpty && asx.isEmpty && as2.isEmpty then some ⟨r0,rest,crest,t5,caps.toList,t6,t3⟩ else none
  | _,_=>none
 | _,_=>none
def As (C:Cfg) (rs:List ResultVar) (L:List cE) (s1:St) (S1:List (Nat × SObj)) (S:List (Nat × SObj)) (A:Ans) (t2:List (Nat × AV)) (s3:St):Prop:=
 match aU (aD s3.b) && (aD S1).all (fun k=>(aD s3.b).contains k) with
 | true=>
  match iK C.tbl ⟨C6 (aD S1) t2,s3.b⟩ rs with
  | some l=>
   (match iI (aj s1.b) L 998 (fo S1 s3.b),mapVs (me L 998) (fm L 998) (fm L 998) l with
   | some u',some l'=>dV ⟨[],bR s1.b u'⟩ fun s4=>pT (some l') s4 A.val (bR S A.upd)
   | _,_=>False)
  | none=>False
 | false=>False
def tz (C:Cfg) (annC:An) (clo:Func) (R:RC) (caps:List AV) (v:AV) (s2:St) (fin:St→Prop):Prop:=
 gi (List.range clo.ntmps) fun keep=>dV ⟨gZ (cr 0 caps) R.t3 v,s2.b⟩ fun s=>swp C keep annC R.crest s fun
  | .exit _,_=>False
  | .pan _,_=>False
  | _,s3=>fin s3
def fwpR (C:Cfg) (ann annC:An) (fn:Func) (g:Nat) (clo:Func) (args:List AV) (S:List (Nat × SObj)) (A:Ans):Prop:=
 match fn.body,clo.body,A.pan with
 | some c,some cc,none=>
  match Dj g c cc with
  | none=>False
  | some R=>
   match bp fn.ntmps c && bp clo.ntmps cc && Nat.blt R.t5 fn.ntmps && jQ args fn.ntmps && (aD S).all bc && clo.results.isEmpty && jQ R.caps clo.ntmps && jQ R.caps R.t6 with
   | false=>False
   | true=>gi ((List.range fn.ntmps)) fun keep=>dV ⟨cr 0 args,S⟩ fun i=>swp C keep ann R.r0 i fun
    | .normal,s1=>
     (match (aD s1.b).map (fun i=>(i,(none:Option (Nat × Nat)))) with
     | L=>
      (match aU (L.map (·.1)) && Nat.ble L.length 100,mapVs (toP L) (toI L) (toI L) ((List.range fn.ntmps).map (aL s1.t)),mapVs (toP L) (toI L) (toI L) (R.caps.map (opd (aL s1.t))),kF (aj s1.b) L L 900 with
      | true,some as1,some caps,some S1=>
       (match caps.all Di with
       | true=>dV ⟨gZ (cr 0 as1) R.t5 .undef,S1⟩ fun i=>swp C keep ann R.rest i fun
        | .exit _,_=>False
        | .pan v,s2=>tz C annC clo R caps v s2 (As C fn.results.toList L s1 S1 S A s2.t)
        | _,s2=>tz C annC clo R caps .nilif s2 (As C fn.results.toList L s1 S1 S A s2.t)
       | false=>False)
      | _,_,_,_=>False))
    | _,_=>False
 | _,_,_=>False
theorem lU:∀(u S:List (Nat × SObj)) (i:Nat),aU (u.map (·.1))=true→aj (bR S u) i=(aj u i).or (aj S i)
 | [],S,i,_=>by simp [bR,aH,aF]
 | (j,o) ::r,S,i,h=>by
  simp only [List.map_cons,aU,Bool.and_eq_true,Bool.not_eq_true'] at h
  simp only [bR]
  rw [lU r _ i h.2,fK]
  simp only [aH,aF]
  by_cases e:j=i
  ·subst e
   have:aj r j=none:=by
    cases hb:aj r j with
    | none=>rfl
    | some o'=>
     have:=cd r j o' hb
     have h1:=h.1
     simp only [List.contains_eq_mem,decide_eq_false_iff_not,List.mem_map,not_exists,not_and] at h1
     exact absurd rfl (h1 _ this)
   simp [this]
  ·simp [e]
section
variable {P:Program} {C:Cfg}
theorem V.pinned {e0 e:Nat→Option CObj} {w0 w:World} {p0 p:Nat→Nat→Prop} (hk:∀id c,e0 id=some c→∃c',e id=some c'/\CLe c c') {a:AV} {v:Value} (ha:Di a=true) (h:V ⟨e0,w0,p0⟩ a v):V ⟨e,w,p⟩ a v:=by
 cases h with
 | ptr i o b q len he=>
  obtain ⟨c',h1,h2⟩:=hk i _ he
  have:=h2.box
  subst this
  exact .ptr i o b q len h1
 | _=>simp [Di] at ha
theorem Holds.retmp' {F:Fr} {s:AS} {a a':Act} {Ω:Om} (h:Holds F s a Ω) {n:Nat} {ds:List Deferred} {T:Nat→AV} (hT:∀i,V Ω (T i) (a'.tmps.getD i undef)) (hs:a'.tmps.size=n) (hd:a'.defers=ds) :
  Holds ⟨F.w0,F.pub0,n,F.e0,F.dom0,ds,F.tab0⟩ ⟨T,s.B⟩ a' Ω:=
 ⟨hT,hs,hd,h.slots,h.dom,h.inj,h.pubok,h.keep,⟨h.frame.os,h.frame.tape,h.frame.output,h.frame.size,h.frame.block,h.frame.cell,h.frame.kind,h.frame.pub,h.frame.old,h.frame.pcell⟩⟩
inductive Rcv:FrameMode→AV→Om→Value→FrameMode→Prop
 | ret (Ω:Om):Rcv .returning .nilif Ω .nilIface .returning
 | pan (Ω:Om) (a:AV) (v:Value):V Ω a v→Rcv (.panicking [{v,recovered:=false}]) a Ω v (.panicking [{v,recovered:=true}])
structure RCcode (g:Nat) (R:RC) (c cc:Code):Prop where
 code:∃i1 i2 ty1 ps1 af1 ty2 ps2 af2 ts2 ty3 ps3 af3 ts3 ty4 ps4 af4,
  c=.seq R.r0 (.seq (.region i1 #[⟨some R.t5,.makeFunc (.func g) #[] R.caps.toArray,ty1,ps1,af1,none⟩,⟨none,.defer ⟨.value (.tmp R.t5),#[],ts2⟩,ty2,ps2,af2,none⟩] false) R.rest)/\
  cc=.seq (.region i2 #[⟨some R.t6,.call ⟨.builtin .recover,#[],ts3⟩,ty3,ps3,af3,none⟩,⟨some R.t3,.assign (.tmp R.t6),ty4,ps4,af4,none⟩] false) R.crest
theorem Au {g:Nat} {c cc:Code} {R:RC} (h:Dj g c cc=some R):RCcode g R c cc:=by
 unfold Dj at h
 split at h
 ·rename_i r0 i1 o1 rest i2 o2 crest
  split at h
  ·rename_i h1 h2
   split at h
   ·rename_i hc
    simp only [Bool.and_eq_true,Nat.beq_eq,Array.isEmpty_iff] at hc
    obtain ⟨⟨⟨⟨⟨rfl,rfl⟩,rfl⟩,rfl⟩,rfl⟩,rfl⟩:=hc
    simp only [Xs] at h
    subst h
    have e1:=congrArg List.toArray h1
    have e2:=congrArg List.toArray h2
    simp only [Array.toArray_toList] at e1 e2
    subst e1 e2
    exact ⟨_,_,_,_,_,_,_,_,_,_,_,_,_,_,_,_,rfl,rfl⟩
   ·cases h
  ·cases h
 ·cases h
theorem mF {ts:Array Nat} {d:Option Nat} {ty:Nat} {ps:String} {af:Array Edge} {ρ:Operand→Value} {w:World} :
  (execOp ρ ⟨d,.call ⟨.builtin .recover,#[],ts⟩,ty,ps,af,none⟩).run P w=.ok .recover w:=by
 simp [execOp,resolve,invoke,builtin]
theorem vE (hm:P.follows .mixedOrders=true) (hT:aK P C.tbl) (hS:bu P C.spec) {g:Nat} {clo:Func} {c cc:Code} {R:RC} (hR:RCcode g R c cc) (hg:P.funcs[g]?=some clo) (hb:clo.body=some cc)
  (hd:bp clo.ntmps cc=true) (hres:clo.results=#[]) {caps:List AV} (hcl:caps.length<=clo.ntmps) (hc6:caps.length<=R.t6) {F:Fr} {s2:St} {a2:Act} {Ω2:Om} (h:Holds F s2.abs a2 Ω2) {vs:List Value} (hv:VL Ω2 caps vs)
  {u u':FrameMode} {av:AV} {v:Value} (hrc:Rcv u av Ω2 v u') {annC:An} {fin:St→Prop} (hc:tz C annC clo R caps av s2 fin) :
  CallsD P g vs.toArray u Ω2.w fun en u2 w'=>u2=u'/\en=.returned (.tuple #[])/\∃s3 Ω3 a3 T,Ω3.w=w'/\fin s3/\Holds ⟨F.w0,F.pub0,clo.ntmps,F.e0,F.dom0,[],F.tab0⟩ ⟨T,aj s3.b⟩ a3 Ω3:=by
 obtain ⟨i1,i2,ty1,ps1,af1,ty2,ps2,af2,ts2,ty3,ps3,af3,ts3,ty4,ps4,af4,_,rfl⟩:=hR
 refine callsD_of_wpS hg hb (fun c₀ cs hu=>?_)
 apply wpS_seq
 apply wpS_region
 simp only [bp,Bool.and_eq_true,List.all_cons,List.all_nil,Bool.and_true,Nat.blt_eq] at hd
 obtain ⟨⟨hd6,hd3⟩,hdc⟩:=hd
 have hvs:vs.length<=clo.ntmps:=by rw [←hv.1];exact hcl
 have hbase:Holds ⟨F.w0,F.pub0,clo.ntmps,F.e0,F.dom0,[],F.tab0⟩ ⟨aL (cr 0 caps),aj s2.b⟩ {tmps:=vs.toArray++Array.replicate (clo.ntmps - vs.toArray.size) undef,defers:=[]} Ω2:=
  h.retmp' (fun i=>gQ _ hv i) (by simp;omega) rfl
 have key:∃cs',(∃c1,cs'=c1 ::cs/\c1={c₀ with mode:=u'})/\∀Q':Exit→Act→List Frame→World→Prop,Q' .normal (({tmps:=vs.toArray++Array.replicate (clo.ntmps - vs.toArray.size) undef,defers:=[]}:Act).put (some R.t6) v |>.put (some R.t3) v) cs' Ω2.w→
   wpOpsS P #[⟨some R.t6,.call ⟨.builtin .recover,#[],ts3⟩,ty3,ps3,af3,none⟩,⟨some R.t3,.assign (.tmp R.t6),ty4,ps4,af4,none⟩] Q' [0,1] {tmps:=vs.toArray++Array.replicate (clo.ntmps - vs.toArray.size) undef,defers:=[]} (c₀ ::cs) Ω2.w:=by
  have two:∀(cs':List Frame) (Q':Exit→Act→List Frame→World→Prop),Q' .normal (({tmps:=vs.toArray++Array.replicate (clo.ntmps - vs.toArray.size) undef,defers:=[]}:Act).put (some R.t6) v |>.put (some R.t3) v) cs' Ω2.w→
    wpOpsS P #[⟨some R.t6,.call ⟨.builtin .recover,#[],ts3⟩,ty3,ps3,af3,none⟩,⟨some R.t3,.assign (.tmp R.t6),ty4,ps4,af4,none⟩] Q' [1] (({tmps:=vs.toArray++Array.replicate (clo.ntmps - vs.toArray.size) undef,defers:=[]}:Act).put (some R.t6) v) cs' Ω2.w:=by
   intro cs' Q' hq
   have he:(({tmps:=vs.toArray++Array.replicate (clo.ntmps - vs.toArray.size) undef,defers:=[]}:Act).put (some R.t6) v).eval (.tmp R.t6)=v:=by
    show (Act.put _ (some R.t6) v).tmps.getD R.t6 undef=v
    rw [bX hbase.size hd6,if_pos rfl]
   unfold wpOpsS
   simp only [List.getElem?_toArray,List.getElem?_cons_succ,List.getElem?_cons_zero,Region.wanted,if_true]
   have hr:(execOp (({tmps:=vs.toArray++Array.replicate (clo.ntmps - vs.toArray.size) undef,defers:=[]}:Act).put (some R.t6) v).eval ⟨some R.t3,.assign (.tmp R.t6),ty4,ps4,af4,none⟩).run P Ω2.w=.ok (.value v) Ω2.w:=by
    show (pure (Next.value (Act.eval _ (.tmp R.t6))):Sem Next).run P Ω2.w=_
    rw [he]
    rfl
   rw [hr]
   simp only [Oper.upon]
   exact hq
  cases hrc with
  | ret=>
   refine ⟨_,⟨c₀,rfl,by cases c₀;simp only at hu;subst hu;rfl⟩,fun Q' hq=>?_⟩
   unfold wpOpsS
   simp only [List.getElem?_toArray,List.getElem?_cons_zero,Region.wanted,if_true]
   rw [mF]
   simp only [recoverD,hu]
   exact two _ Q' hq
  | pan _ _ hv'=>
   refine ⟨_,⟨_,rfl,rfl⟩,fun Q' hq=>?_⟩
   unfold wpOpsS
   simp only [List.getElem?_toArray,List.getElem?_cons_zero,Region.wanted,if_true]
   rw [mF]
   simp only [recoverD,hu]
   exact two _ Q' hq
 obtain ⟨cs',⟨c1,rfl,hc1⟩,key⟩:=key
 refine key _ ?_
 refine wpS_of_wp ?_
 unfold tz at hc
 rw [fW,cG] at hc
 have hav:V Ω2 av v:=by
  cases hrc <;> first | exact .nilif | assumption
 have h1:=(hbase.pure (dst:=some R.t6) (val:=.undef) (v:=v) (.undef v) (fun d e=>by cases e;exact hd6)).pure (dst:=some R.t3) (val:=av) (v:=v) hav (fun d e=>by cases e;exact hd3)
 have h2:Holds ⟨F.w0,F.pub0,clo.ntmps,F.e0,F.dom0,[],F.tab0⟩ (St.abs ⟨gZ (cr 0 caps) R.t3 av,s2.b⟩) _ Ω2:=h1.weak (s':=St.abs ⟨gZ (cr 0 caps) R.t3 av,s2.b⟩) (fun i=>by
  simp only [St.abs,eG,bB]
  by_cases e3:R.t3=i
  ·right;simp [e3]
  ·by_cases e6:R.t6=i
   ·left
    subst e6
    rw [if_neg e3,eI,if_pos (Nat.zero_le _),Nat.sub_zero]
    simp [List.getD_eq_getElem?_getD,List.getElem?_eq_none hc6]
   ·right;simp [e3,e6]) rfl
 refine wp_mono (jH hm hT hS _ annC R.crest _ _ _ Ω2 hc hdc h2) ?_
 intro e a' w' hq
 obtain ⟨z,s3,Ω3,q1,q2,q3,q4⟩:=hq
 have fin3:fin s3→bodyPostS P clo c₀ cs (fun en u2 w'=>u2=u'/\en=.returned (.tuple #[])/\∃s3 Ω3 a3 T,Ω3.w=w'/\fin s3/\Holds ⟨F.w0,F.pub0,clo.ntmps,F.e0,F.dom0,[],F.tab0⟩ ⟨T,aj s3.b⟩ a3 Ω3) .ret a' (c1 ::cs) w':=by
  intro hf
  refine ⟨q3.defers,u',by rw [hc1],.tuple #[],by simp [results,hres],rfl,rfl,s3,Ω3,a',_,q2,hf,q3⟩
 cases z with
 | normal=>cases q1;exact fin3 q4
 | ret=>cases q1;exact fin3 q4
 | exit id=>exact q4.elim
 | pan v=>exact q4.elim
theorem yu {w:World} {pub:Nat→Nat→Prop} {e:Nat→Option CObj} {n:Nat} {hl:∀id c,e id=some c→bc id=true} {ds:List Deferred} {ht:fQ w pub e} {T:Nat→AV} {t:List (Nat × AV)} {b b':List (Nat × SObj)} {a:Act} {Ω:Om} {l:List AV} {us:List Value} {val:AV}
  (hh:Holds ⟨w,pub,n,e,hl,ds,ht⟩ ⟨T,aj b⟩ a Ω) (k2:VL Ω l us) (hend:pT (some l) ⟨t,b⟩ val b') :
  ∃pub' e',V ⟨e',Ω.w,pub'⟩ val (if h:us.toArray.size=1 then us.toArray[0] else .tuple us.toArray)/\After w pub e (aj b') Ω.w pub' e':=by
 unfold pT at hend
 split at hend
 ·rename_i x hres
  cases hres
  obtain ⟨u,rfl⟩:=gR (by rw [←k2.1];rfl)
  have h1:=hh.retmp' (T:=aL (cr 0 [x])) (a':={tmps:=[u].toArray++Array.replicate 0 undef,defers:=[]}) (n:=1) (ds:=[]) (fun i=>gQ 0 k2 i) (by simp) rfl
  obtain ⟨Ω2,e2,hh2⟩:=cR (s:=⟨[(0,x)],b⟩) h1 (fv hend)
  refine ⟨Ω2.pub,Ω2.e,?_,?_⟩
  ·have:=hh2.tmps 0
   rw [←e2]
   exact this
  ·rw [←e2]
   exact fX hh2
 ·rename_i l' hne hres
  cases hres
  split at hend
  ·rename_i rs
   split at hend
   ·rename_i hln
    have hl2:=bC _ _ hln
    have h1:=hh.retmp' (T:=aL (cr 0 l)) (a':={tmps:=us.toArray++Array.replicate 0 undef,defers:=[]}) (n:=us.length) (ds:=[]) (fun i=>gQ 0 k2 i) (by simp) rfl
    obtain ⟨Ω2,e2,hh2⟩:=cR (s:=⟨cr 0 l,b⟩) h1 (fv hend)
    have hsz:¬us.toArray.size=1:=by
     intro h1
     obtain ⟨x,hx⟩:=gR (l:=l) (by rw [k2.1];simpa using h1)
     exact hne x hx
    rw [dif_neg hsz]
    refine ⟨Ω2.pub,Ω2.e,?_,?_⟩
    ·refine .tup rs us (by rw [←k2.1,←hl2]) (fun j c v hc hv=>?_)
     have:=hh2.tmps j
     simp only [St.abs,eI,Nat.zero_le,if_true,Nat.sub_zero,List.getD_eq_getElem?_getD,hc,Option.getD_some] at this
     have e3:(us.toArray++Array.replicate 0 undef).getD j undef=v:=by
      simp [Array.getD_eq_getD_getElem?,hv]
     rw [e3] at this
     rw [←e2]
     exact this
    ·rw [←e2]
     exact fX hh2
   ·exact hend.elim
  ·exact hend.elim
 ·rename_i h;cases h
theorem CLe.to_box {c:CObj} {b o l:Nat} (h:CLe c (.box b o l)):c=.box b o l:=by
 cases c <;> simp [CLe] at h
 obtain ⟨rfl,rfl,rfl⟩:=h
 rfl
theorem V.ptrIn {F:Fr} {Ω2 Ω3:Om} {ks:List Nat} (h2:∀id c,F.e0 id=some c→∃c',Ω2.e id=some c'/\CLe c c') (h3:∀id c,F.e0 id=some c→∃c',Ω3.e id=some c'/\CLe c c')
  (hk:∀k∈ks,∃c,F.e0 k=some c) {a:AV} {v:Value} (h:V Ω2 a v):V Ω3 (if AL.ptrIn ks a=true then a else .undef) v:=by
 split
 ·rename_i hp
  cases h with
  | ptr i o b q len he=>
   simp only [AL.ptrIn,List.contains_eq_mem,decide_eq_true_eq] at hp
   obtain ⟨c,hc⟩:=hk i hp
   obtain ⟨c2,e2,l2⟩:=h2 i c hc
   rw [he] at e2
   cases e2
   have:=l2.to_box
   subst this
   obtain ⟨c3,e3,l3⟩:=h3 i _ hc
   have:=l3.box
   subst this
   exact .ptr i o b q len e3
  | _=>simp [AL.ptrIn] at hp
 ·exact .undef v
theorem yw (hT:aK P C.tbl) {w:World} {pub:Nat→Nat→Prop} {e:Nat→Option CObj} {n n1:Nat} {hl:∀id c,e id=some c→bc id=true} {ht:fQ w pub e} {s1:St} {a1:Act} {Ω1:Om} {L:List cE} {ht1:fQ Ω1.w Ω1.pub (cq L Ω1.e)} (h3:Holds ⟨w,pub,n,e,hl,[],ht⟩ s1.abs a1 Ω1)
  (hdist:aU (L.map (·.1))=true) {S1:List (Nat × SObj)} (hS1:kF (aj s1.b) L L 900=some S1) {hl1:∀id c,cq L Ω1.e id=some c→bc id=true} (hk1:∀k∈aD S1,∃c,cq L Ω1.e k=some c)
  {ds:List Deferred} {s2:St} {a2:Act} {Ω2:Om} (q3:Holds ⟨Ω1.w,Ω1.pub,n,cq L Ω1.e,hl1,ds,ht1⟩ s2.abs a2 Ω2) {s3:St} {a3:Act} {Ω3:Om} {T:Nat→AV} (h5:Holds ⟨Ω1.w,Ω1.pub,n1,cq L Ω1.e,hl1,[],ht1⟩ ⟨T,aj s3.b⟩ a3 Ω3)
  {fn:Func} {S:List (Nat × SObj)} {A:Ans} (hpan:A.pan=none) (hf:As C fn.results.toList L s1 S1 S A s2.t s3) :
  ∃v,(results fn a2.tmps).run P Ω3.w=.ok v Ω3.w/\∃pub' e',(∀b pv u,A.pan=some (b,pv,u)→b=false)/\V ⟨e',Ω3.w,pub'⟩ A.val v/\After w pub e (aj (bR S A.upd)) Ω3.w pub' e':=by
 unfold As at hf
 split at hf
 ·rename_i hck
  simp only [Bool.and_eq_true,List.all_eq_true] at hck
  obtain ⟨hd3,hin⟩:=hck
  split at hf
  ·rename_i l hres
   split at hf
   ·rename_i u' l' hu' hl'
    rw [cG] at hf
    have hR:Holds ⟨Ω1.w,Ω1.pub,n,cq L Ω1.e,hl1,ds,ht1⟩ (St.abs ⟨C6 (aD S1) s2.t,s3.b⟩) a2 Ω3:=by
     have:=h5.retmp' (T:=aL (C6 (aD S1) s2.t)) (a':=a2) (n:=n) (ds:=ds) (fun i=>by
      rw [show aL (C6 (aD S1) s2.t) i=if ptrIn (aD S1) (aL s2.t i)=true then aL s2.t i else .undef from kT (fun x=>if ptrIn (aD S1) x=true then x else .undef) (by simp [ptrIn]) s2.t i]
      exact V.ptrIn (F:=⟨Ω1.w,Ω1.pub,n,cq L Ω1.e,hl1,ds,ht1⟩) q3.keep h5.keep hk1 (q3.tmps i)) q3.size q3.defers
     exact this
    obtain ⟨us,k1,k2⟩:=dN hT hR _ _ hres
    have hmap:(results fn a2.tmps).run P Ω3.w=.ok (if h:us.toArray.size=1 then us.toArray[0] else .tuple us.toArray) Ω3.w:=by
     rw [kl,←Array.toArray_toList (xs:=fn.results),List.mapM_toArray]
     simp only [Sem.run_bind,Sem.run_map,k1,Result.andThen_ok,Sem.run_pure]
    have hB:aj (bR S1 s3.b)=aj s3.b:=by
     funext i
     rw [lU _ _ _ hd3]
     cases h:aj s3.b i with
     | some o=>rfl
     | none=>
      cases h':aj S1 i with
      | none=>rfl
      | some o=>
       have:=hin i (List.mem_map.2 ⟨(i,o),cd _ _ _ h',rfl⟩)
       simp only [List.contains_eq_mem,decide_eq_true_eq] at this
       exact absurd this (gO _ _ h)
    have hA:After Ω1.w Ω1.pub (cq L Ω1.e) (aj (bR S1 s3.b)) Ω3.w Ω3.pub Ω3.e:=by
     rw [hB]
     exact fX (h5.retmp' (T:=T) (a':=a3) (n:=n1) (ds:=[]) h5.tmps h5.size h5.defers)
    obtain ⟨Ω',w1,w2,w3⟩:=lA h3 (d:=998) (by omega) hdist hS1 hd3 hu' (val:=.tup l) (val':=.tup l') (by simp only [mapV,hl']) (v:=.tuple us.toArray) (V.of_tup k2) hA
    obtain ⟨us',e1,k3⟩:=w2.tup_inv
    have e2:us=us':=by
     have:=congrArg Array.toList (Value.tuple.inj e1)
     simpa using this
    subst e2
    rw [show s1.abs.B=aj s1.b from rfl,←fV] at w3
    obtain ⟨pub',e',p1,p2⟩:=yu (T:=s1.abs.T) (b:=bR s1.b u') (t:=[]) w3 k3 hf
    rw [w1] at p1 p2
    exact ⟨_,hmap,pub',e',(fun b pv u h=>by rw [hpan] at h;cases h),p1,p2⟩
   ·exact hf.elim
  ·exact hf.elim
 ·exact hf.elim
theorem fwpR_sound (hm:P.follows .mixedOrders=true) (hT:aK P C.tbl) (hS:bu P C.spec) {ann annC:An} {f g:Nat} {fn clo:Func} (hf:P.funcs[f]?=some fn) (hg:P.funcs[g]?=some clo)
  (eg:∀args w,(callFunc g args).run P w=.ok (.enter g args) w) {args:List AV} {S:List (Nat × SObj)} {A:Ans} (h:fwpR C ann annC fn g clo args S A):ao P f args S A:=by
 intro w pub e vs hp ht hv hs hdom hinj
 unfold fwpR at h
 split at h
 ·rename_i c cc hb hcb hpan
  split at h
  ·exact h.elim
  ·rename_i R hR
   split at h
   ·exact h.elim
   ·rename_i hck
    simp only [Bool.and_eq_true,List.all_eq_true,Array.isEmpty_iff,Nat.blt_eq] at hck
    obtain ⟨⟨⟨⟨⟨⟨⟨hk1,hk2⟩,hk5⟩,hk3⟩,hk4⟩,hres⟩,hcl⟩,hc6⟩:=hck
    have hlen:=da _ _ hk3
    have hcl:=da _ _ hcl
    have hc6:=da _ _ hc6
    rw [fW,cG] at h
    have hlent:∀id c,e id=some c→bc id=true:=by
     intro id c hc
     cases hg:aj S id with
     | none=>rw [hdom id hg] at hc;cases hc
     | some o=>exact hk4 id (List.mem_map.2 ⟨(id,o),cd _ _ _ hg,rfl⟩)
    have hRc:=Au hR
    obtain ⟨i1,i2,ty1,ps1,af1,ty2,ps2,af2,ts2,ty3,ps3,af3,ts3,ty4,ps4,af4,rfl,_⟩:=id hRc
    refine calls_of_wp_defers hf hb ?_
    have hh:=iB (n:=fn.ntmps) hp ht hv hlen hs hdom hinj hlent
    have hdr:bp fn.ntmps R.r0=true/\bp fn.ntmps R.rest=true:=by
     simp only [bp,Bool.and_eq_true] at hk1
     exact ⟨hk1.1,hk1.2.2⟩
    refine wp_seq (wp_mono (jH (F:=⟨w,pub,fn.ntmps,e,hlent,[],ht⟩) hm hT hS _ ann R.r0 _ _ _ _ h hdr.1 hh) ?_)
    intro en a1 w1 hq
    obtain ⟨z,s1,Ω1,q1,rfl,h3,h4⟩:=hq
    cases z with
    | exit id=>exact h4.elim
    | ret=>exact h4.elim
    | pan pv=>exact h4.elim
    | normal=>
     cases q1
     simp only at h4
     generalize hLL:(aD s1.b).map (fun i=>(i,(none:Option (Nat × Nat))))=L at h4
     split at h4
     ·rename_i as1 caps S1 hdl has hcaps hS1
      simp only [Bool.and_eq_true,Nat.ble_eq] at hdl
      obtain ⟨hdist,hL100⟩:=hdl
      split at h4
      ·rename_i hcp
       rw [cG] at h4
       obtain ⟨k1,k2,k3⟩:=fJ L 900 S1 hS1
       refine wp_seq (wp_region ?_)
       show wpOps P _ _ [0,1] a1 Ω1.w
       refine cg (o:=⟨some R.t5,.makeFunc (.func g) #[] R.caps.toArray,ty1,ps1,af1,none⟩) rfl rfl (ay (v:=.func (.func g) #[] (R.caps.toArray.map a1.eval)) (w':=Ω1.w) (by simp [execOp,Instr.makeFunc]) ?_)
       have he5:(a1.put (some R.t5) (.func (.func g) #[] (R.caps.toArray.map a1.eval))).eval (.tmp R.t5)=.func (.func g) #[] (R.caps.toArray.map a1.eval):=by
        show (Act.put a1 (some R.t5) _).tmps.getD R.t5 undef=_
        rw [bX h3.size hk5,if_pos rfl]
       refine cg (o:=⟨none,.defer ⟨.value (.tmp R.t5),#[],ts2⟩,ty2,ps2,af2,none⟩) rfl rfl ?_
       have hrun:(execOp (a1.put (some R.t5) (.func (.func g) #[] (R.caps.toArray.map a1.eval))).eval ⟨none,.defer ⟨.value (.tmp R.t5),#[],ts2⟩,ty2,ps2,af2,none⟩).run P Ω1.w=.ok (.defer {target:=.fn (.func g) (R.caps.toArray.map a1.eval),args:=#[]}) Ω1.w:=by
        have he5':=he5
        simp only [List.map_toArray] at he5'
        simp [execOp,resolve,he5',Deferred.ofValue]
       unfold Oper.wp
       rw [hrun]
       have hcv:R.caps.toArray.map a1.eval=(R.caps.map a1.eval).toArray:=by simp
       have hdef0:a1.defers=[]:=h3.defers
       have hvl1:VL Ω1 ((List.range fn.ntmps).map (aL s1.t)) a1.tmps.toList:=by
        have hz:a1.tmps.size=fn.ntmps:=h3.size
        refine ⟨by simp;omega,fun j c v hc hv=>?_⟩
        simp only [List.getElem?_map,Option.map_eq_some_iff] at hc
        obtain ⟨q,hq,rfl⟩:=hc
        have hqj:q=j:=by
         have:=List.getElem?_eq_some_iff.1 hq
         obtain ⟨_,e⟩:=this
         simpa using e.symm
        subst hqj
        have:=h3.tmps q
        rw [Array.getElem?_toList] at hv
        simp only [Array.getD_eq_getD_getElem?,hv,Option.getD_some] at this
        exact this
       have hvc1:VL Ω1 (R.caps.map (opd (aL s1.t))) (R.caps.map a1.eval):=by
        refine ⟨by simp,fun j c v hc hv=>?_⟩
        simp only [List.getElem?_map,Option.map_eq_some_iff] at hc hv
        obtain ⟨x,hx,rfl⟩:=hc
        obtain ⟨y,hy,rfl⟩:=hv
        rw [hx] at hy
        cases hy
        exact aZ h3 x
       have hvl:=hvl1.mapVs (j6 L Ω1.e) has
       have hvc:=hvc1.mapVs (j6 L Ω1.e) hcaps
       have hlent1:∀k i r,aY L k=some (i,r)→∃o o',s1.abs.B i=some o/\dR L r o=some o'/\aj S1 k=some o':=by
        intro k i r hk
        obtain ⟨h1,h2⟩:=dM hk
        obtain ⟨o,o',q1,q2,q3⟩:=k2 _ i r h2
        rw [show 900+(k - 900)=k by omega] at q3
        exact ⟨o,o',q1,q2,q3⟩
       have hLs:∀q i r,nth L q=some (i,r)→∃o o',s1.abs.B i=some o/\dR L r o=some o':=fun q i r hq=>let ⟨o,o',q1,q2,_⟩:=k2 q i r hq;⟨o,o',q1,q2⟩
       have hslots:∀id o,aj S1 id=some o→b9 ⟨cq L Ω1.e,Ω1.w,Ω1.pub⟩ (fun _ _=>True) id o:=fun id o' ho'=>by
        obtain ⟨q,i,r,o2,e1,e2,e3,e4⟩:=k1 id o' ho'
        subst e1
        exact sO (bZ (jE L i 900 q r hdist e2)) (h3.slots i o2 e3) e4
       have hdom1:∀id,aj S1 id=none→cq L Ω1.e id=none:=fun id hid=>by
        unfold cq
        cases hl:aY L id with
        | none=>rfl
        | some x=>
         obtain ⟨o1,o2,_,_,q3⟩:=hlent1 id x.1 x.2 hl
         rw [hid] at q3
         cases q3
       have hinj1:Inj (cq L Ω1.e):=fun i j c c' b oo hi hj ho1 ho2=>by
        obtain ⟨i1,r1,c1,p1,p2,p3⟩:=gN h3.slots hLs hi
        obtain ⟨i2,r2,c2,p4,p5,p6⟩:=gN h3.slots hLs hj
        have:=h3.inj i1 i2 c1 c2 b oo p2 p5 (p3 b oo ho1) (p6 b oo ho2)
        subst this
        have a1:=cC hdist p1
        have a2:=cC hdist p4
        rw [a1] at a2
        simp at a2
        exact a2.1
       have hpin:∀id c,cq L Ω1.e id=some c→bc id=true:=by
        intro id c hc
        cases hg:aj S1 id with
        | none=>rw [hdom1 id hg] at hc;cases hc
        | some o=>
         have:=k3 (id,o) (cd _ _ _ hg)
         simp only [bc,Bool.and_eq_true,Nat.ble_eq,Nat.blt_eq]
         simp only at this
         omega
       have hkS:∀k∈aD S1,∃c,cq L Ω1.e k=some c:=by
        intro k hk
        obtain ⟨x,hx,rfl⟩:=List.mem_map.1 hk
        cases hg:aj S1 x.1 with
        | none=>exact absurd (List.mem_map.2 ⟨x,hx,rfl⟩) (gO _ _ hg)
        | some o=>
         have hso:=hslots x.1 o hg
         cases o with
         | box c=>obtain ⟨_,_,e1,_⟩:=hso;exact ⟨_,e1⟩
         | tail τ n=>obtain ⟨_,_,e1,_⟩:=hso;exact ⟨_,e1⟩
         | map κ τ m=>obtain ⟨_,e1,_⟩:=hso;exact ⟨_,e1⟩
         | bld t u l=>obtain ⟨_,_,e1,_⟩:=hso;exact ⟨_,e1⟩
         | tailp τ n x=>obtain ⟨_,_,e1,_⟩:=hso;exact ⟨_,e1⟩
       have hlen1:as1.length<=fn.ntmps:=by
        have:=hvl.1
        rw [this,Array.length_toList,h3.size]
        exact Nat.le_refl _
       have hi1:=iB (n:=fn.ntmps) h3.pubok (h3.tabsC hLs) hvl hlen1 hslots hdom1 hinj1 hpin
       have hi2:=hi1.retmp' (T:=aL (cr 0 as1)) (a':={tmps:=a1.tmps,defers:=[{target:=.fn (.func g) (R.caps.toArray.map a1.eval),args:=#[]}]}) (n:=fn.ntmps) (ds:=[{target:=.fn (.func g) (R.caps.toArray.map a1.eval),args:=#[]}])
        (fun i=>by
         have:=hi1.tmps i
         have e0:(a1.tmps.toList.toArray++Array.replicate (fn.ntmps - a1.tmps.toList.toArray.size) undef)=a1.tmps:=by
          have hz:a1.tmps.size=fn.ntmps:=h3.size
          apply Array.ext'
          simp [hz]
         rw [e0] at this
         exact this) h3.size rfl
       have hi3:=hi2.pure (dst:=some R.t5) (val:=.undef) (v:=.func (.func g) #[] (R.caps.toArray.map a1.eval)) (.undef _) (fun d e=>by cases e;exact hk5)
       have hi4:=hi3.weak (s':=St.abs ⟨gZ (cr 0 as1) R.t5 .undef,S1⟩) (fun i=>by
        simp only [St.abs,eG,bB]
        by_cases e5:R.t5=i
        ·left;simp [e5]
        ·right;simp [e5]) rfl
       have hact:(({tmps:=a1.tmps,defers:=[{target:=.fn (.func g) (R.caps.toArray.map a1.eval),args:=#[]}]}:Act).put (some R.t5) (.func (.func g) #[] (R.caps.toArray.map a1.eval)))=
         ({(a1.put (some R.t5) (.func (.func g) #[] (R.caps.toArray.map a1.eval))) with defers:={target:=.fn (.func g) (R.caps.toArray.map a1.eval),args:=#[]} ::(a1.put (some R.t5) (.func (.func g) #[] (R.caps.toArray.map a1.eval))).defers}:Act).put none undef:=by
        simp [Act.put,hdef0]
       show Code.wp P R.rest _ (({(a1.put (some R.t5) (.func (.func g) #[] (R.caps.toArray.map a1.eval))) with defers:={target:=.fn (.func g) (R.caps.toArray.map a1.eval),args:=#[]} ::(a1.put (some R.t5) (.func (.func g) #[] (R.caps.toArray.map a1.eval))).defers}:Act).put none undef) Ω1.w
       rw [←hact]
       refine wp_mono (jH hm hT hS _ ann R.rest _ _ _ ⟨cq L Ω1.e,Ω1.w,Ω1.pub⟩ h4 hdr.2 hi4) ?_
       intro en a2 w2 hq
       obtain ⟨z,s2,Ω2,g1,rfl,g3,g4⟩:=hq
       have hcv2:VL Ω2 caps (R.caps.map a1.eval):=by
        refine ⟨hvc.1,fun j c v hc hv=>?_⟩
        exact V.pinned g3.keep (List.all_eq_true.1 hcp c (List.mem_of_getElem? hc)) (hvc.2 j c v hc hv)
       have hcl':caps.length<=clo.ntmps:=by rw [hvc.1,List.length_map];exact hcl
       have hc6':caps.length<=R.t6:=by rw [hvc.1,List.length_map];exact hc6
       have close:∀(u u':FrameMode) (av:AV) (v:Value),u≠.run→settle u'=.returning→Rcv u av Ω2 v u'→tz C annC clo R caps av s2 (As C fn.results.toList L s1 S1 S A s2.t)→
         Leaves P fn a2.tmps (fun en w'=>∃pub' e',match en with
          | .returned v=>(∀b pv u,A.pan=some (b,pv,u)→b=false)/\V ⟨e',w',pub'⟩ A.val v/\After w pub e (aj (bR S A.upd)) w' pub' e'
          | .panicked ch=>∃pv u v,A.pan=some (true,pv,u)/\ch=[{v,recovered:=false}]/\V ⟨e',w',pub'⟩ pv v/\After w pub e (aj (bR S u)) w' pub' e'
          | .outgrown=>False) [{target:=.fn (.func g) (R.caps.toArray.map a1.eval),args:=#[]}] u Ω2.w:=by
        intro u u' av v hu hse hrc hcr
        refine leaves_cons (f:=g) (args:=(R.caps.map a1.eval).toArray) hu (by simp [invoke,eg]) ?_
        refine (vE hm hT hS hRc hg hcb hk2 hres hcl' hc6' g3 hcv2 hrc hcr).mono ?_
        rintro en u2 w3 ⟨rfl,rfl,s3,Ω3,a3,T3,rfl,hfin,h5⟩
        simp only [hse,Leaves]
        obtain ⟨v,r1,pub',e',r2,r3,r4⟩:=yw hT h3 hdist hS1 hkS g3 h5 hpan hfin
        exact ⟨v,r1,pub',e',r2,r3,r4⟩
       have hds:a2.defers=[{target:=.fn (.func g) (R.caps.toArray.map a1.eval),args:=#[]}]:=g3.defers
       cases z with
       | normal=>cases g1;show Leaves P fn a2.tmps _ a2.defers .returning Ω2.w;rw [hds];exact close .returning .returning .nilif .nilIface (by simp) rfl (.ret Ω2) g4
       | ret=>cases g1;show Leaves P fn a2.tmps _ a2.defers .returning Ω2.w;rw [hds];exact close .returning .returning .nilif .nilIface (by simp) rfl (.ret Ω2) g4
       | exit id=>exact g4.elim
       | pan pv=>
        obtain ⟨v,rfl,hv⟩:=g1
        show Leaves P fn a2.tmps _ a2.defers (.panicking [{v,recovered:=false}]) Ω2.w
        rw [hds]
        exact close _ (.panicking [{v,recovered:=true}]) pv v (by simp) (by simp [settle]) (.pan Ω2 pv v hv) g4
      ·exact h4.elim
     ·exact h4.elim
 ·exact h.elim
end
end Go.AL
end
section
namespace Go.AL
open Go.Shelf Go.Proofs Go.RowKit
variable [Tabs] {P:Program} {ρ:Ren}
theorem After.newRow {w w':World} {pub:Nat→Nat→Prop} {e:Nat→Option CObj} (hp:j0 w pub) (hd:∀id,e id=none) (hb:Below w.heap.size w w') {g:Nat} (hg:w.heap.size<=g) {p:Nat→Prop} (hc:∀o,p o→∃v,w'.cell? ⟨g,o,none⟩=some v) :
  After w pub e (aj (bR [] [])) w' (fun b o=>pub b o∨(b=g/\p o)) e where
 os:=hb.os
 tape:=hb.tape
 output:=hb.output
 size:=hb.size
 block b h _:=hb.block b h
 cell b o h _:=ak (hb.block b h) o
 kind b h _:=⟨b7 (hb.block b h),fun o=>aO (hb.block b h) o⟩
 ext:=⟨fun _ c h=>⟨c,h,CLe.refl c⟩,fun _ _ h=>.inl h,fun b o h=>by obtain ⟨v,hv⟩:=hp b o h;exact ak (hb.block b (aS hv)) o⟩
 fresh b o h:=by
  rcases h with h | ⟨rfl,_⟩
  ·exact .inl h
  ·exact .inr (.inl hg)
 ok b o h:=by
  rcases h with h | ⟨rfl,h⟩
  ·obtain ⟨v,hv⟩:=hp b o h;exact ⟨v,(ak (hb.block b (aS hv)) o).trans hv⟩
  ·exact hc o h
 slots id o h:=by simp [bR,aH,aF] at h
 dom id _:=hd id
 inj i j c d b o h:=by rw [hd i] at h;cases h
theorem tA (L:Lays2.n16 P ρ) (l:List Str) (hb:l.length *16<=140737488355328) {ob:Option Prop}:ao P (ρ.f 16) [.lst .str l none] [] ⟨ob,none,.lst .str l none,[]⟩:=by
 intro w pub e vs hp ht hv hs hd hi
 have he:e=fun _=>none:=funext fun id=>hd id rfl
 subst he
 obtain ⟨v,rfl,hV⟩:=hv.one_inv
 cases hV with
 | lstNil _ _ tok=>
  refine (Any.slices_Clone_string_nil L 0 0 w).mono ?_
  rintro en w' ⟨rfl,rfl⟩
  exact ⟨pub,_,fun b pv u h=>(by cases h),.lstNil _ _ tok,After.below hp (fun _=>rfl) (Below.refl _ _)⟩
 | lstVoid _ a=>
  refine (Any.slices_Clone_string_zero L a 0 w).mono ?_
  rintro en w' ⟨v',rfl,⟨hl,hrow⟩,hn,hbw⟩
  refine ⟨pub,_,fun b pv u h=>(by cases h),?_,After.below hp (fun _=>rfl) hbw⟩
  rcases hrow with ⟨rfl,hz⟩ | ⟨g,cap,cur,rfl,hbase,hg,h1,h2,h3,h4⟩
  ·exact absurd rfl hn
  ·exact .lst .str [] none g 0 cap (fun _ _=>.bool false) (Nat.zero_le _) (by unfold maxLen at h2;unfold bn;omega) (fun id h=>by cases h) (fun i x hx=>by cases hx) (fun i x hx=>by cases hx)
 | lst _ _ _ b off cap vals h1 h2 tok hcell hval=>
  have at_:∀i (hi:i < l.length),w.cell? ⟨b,off+i,none⟩=some (.string ⟨l[i].toArray⟩)/\l[i].length<=bn:=fun i hi=>by
   have hx:l[i]?=some l[i]:=List.getElem?_eq_getElem hi
   obtain ⟨_,c1⟩:=hcell i l[i] hx 0 (.str l[i]) rfl
   have c2:=hval i l[i] hx 0 (.str l[i]) rfl
   obtain ⟨c3,c4⟩:=c2.str_inv
   rw [c3,show off+(i *ae .str+0)=off+i by rw [show ae .str=1 from rfl];omega] at c1
   exact ⟨c1,c4⟩
  refine (Any.slices_Clone_string L b off l.length cap (l.map fun s=>(⟨s.toArray⟩:ByteArray)) w (by simp) hb (fun j hj=>?_)).mono ?_
  ·have hj':j < l.length:=by simpa using hj
   rw [(at_ j hj').1,List.getD_eq_getElem?_getD,List.getElem?_map,List.getElem?_eq_getElem hj']
   rfl
  rintro en w' ⟨v',rfl,⟨hl,hrow⟩,hn,hbw⟩
  rcases hrow with ⟨rfl,hz⟩ | ⟨g,cap',cur,rfl,hbase,hg,k1,k2,k3,k4⟩
  ·exact absurd rfl hn
  have hcur:∀i (hi:i < l.length),cur[i]?=some (.string ⟨l[i].toArray⟩):=fun i hi=>by
   have:(cur.toList.take (l.length *1))[i]?=some (.string ⟨l[i].toArray⟩):=by
    rw [k4,List.getElem?_map,List.getElem?_take]
    simp [hi]
   rw [List.getElem?_take] at this
   split at this
   ·simpa using this
   ·cases this
  refine ⟨fun b o=>pub b o∨(b=g/\o < l.length),_,fun b pv u h=>(by cases h),?_,After.newRow hp (fun _=>rfl) hbw hbase (p:=fun o=>o < l.length) (fun o ho=>⟨_,by rw [ax hg];exact hcur o ho⟩)⟩
  refine .lst .str l none g 0 cap' (fun i _=>.string ⟨(l.getD i []).toArray⟩) k1 (by unfold maxLen at k2;unfold bn;omega) (fun id h=>by cases h) (fun i x hx j c hc=>?_) (fun i x hx j c hc=>?_)
  ·obtain ⟨hi,rfl⟩:=List.getElem?_eq_some_iff.1 hx
   have hj:j=0:=by
    cases j with
    | zero=>rfl
    | succ j=>simp [cells] at hc
   subst hj
   rw [show 0+(i *ae .str+0)=i by rw [show ae .str=1 from rfl];omega]
   refine ⟨.inr ⟨rfl,hi⟩,?_⟩
   show w'.cell? ⟨g,i,none⟩=_
   rw [ax hg,hcur i hi,List.getD_eq_getElem?_getD,List.getElem?_eq_getElem hi]
   rfl
  ·obtain ⟨hi,rfl⟩:=List.getElem?_eq_some_iff.1 hx
   have hj:j=0:=by
    cases j with
    | zero=>rfl
    | succ j=>simp [cells] at hc
   subst hj
   have e1:c=.str l[i]:=by simpa [cells] using hc.symm
   subst e1
   rw [List.getD_eq_getElem?_getD,List.getElem?_eq_getElem hi]
   exact .str _ (at_ i hi).2
def tB:Pat:=p1 (.lst .str) fun l=>⟨some (l.length *16<=140737488355328),none,.lst .str l none,[]⟩
theorem tC {f:Nat} (L:Lays2.n16 P ρ) (hf:ρ.f 16=f) (he:aq P f):ag P f tB:=by
 subst hf
 exact bO he fun l _ ho=>tA L l (ho _ rfl)
end Go.AL
end
section
namespace Go.Proofs
open Go.Shelf
def Tryz.lays2_16_ren:Go.Shelf.Ren:=⟨fun | 16=>40 | n=>n,fun | 24=>22 | 9=>9 | 4=>4 | n=>n,fun | n=>n⟩
theorem Tryz.lays2_16:Go.Proofs.Lays2.n16 Tryz.prog Tryz.lays2_16_ren:={
 mixed:=by kernel_rfl
 f16:=Xt Tryz.func40
 t4:=Tryz.underlying4
 a4:=Tryz.isAgg4
 z4:=Tryz.sizeOf4
 v4:=Tryz.zeroValue4
 t9:=Tryz.underlying9
 a9:=Tryz.isAgg9
 z9:=Tryz.sizeOf9
 v9:=Tryz.zeroValue9
 t24:=Tryz.underlying22
 a24:=Tryz.isAgg22
 z24:=Tryz.sizeOf22
 v24:=Tryz.zeroValue22
 i9:=by kernel_rfl}
end Go.Proofs
end
section
namespace Go.AL.Seat
open Go Go.AL Go.Proofs Go.Shelf Go.Pd
variable [Tabs]
theorem qj:ag Tryz.prog 40 tB:=tC Tryz.lays2_16 rfl (aq.mk' Tryz.func40 (by kernel_rfl))
end Go.AL.Seat
end
section
namespace Go.Pd
open Go.AL
abbrev SR3:=Shape × Int × Flt
abbrev TR3:=Trm × Int × Flt
end Go.Pd
end
section
namespace Go.Pd
open Go.AL
abbrev st (l:List Tokn) (a:Int):PS:=⟨l,a,0,0⟩
variable {l:List Tokn}
section
variable {l:List Tokn} {R:PS→Shape × PS} {R':Int→SR3}
end
end Go.Pd
end
section
namespace Go.Pd
open Go.AL
mutual
def eqT:Trm→Trm→Bool→Bool
 | ⟨k,g,q,z,ns,vs,ss,ps,pp⟩,⟨k',g',q',z',ns',vs',ss',ps',pp'⟩,b=>
  decide (k=k') && decide (g=g') && decide (q=q') && decide (z=z') && (!b || decide (pp=pp')) && decide (ns=ns') && decide (vs=vs') && eqL ss ss' && eqTL ps ps' b
def eqTL:List Trm→List Trm→Bool→Bool
 | [],[],_=>true
 | x ::r,y ::s,b=>eqT x y b && eqTL r s b
 | _,_,_=>false
end
end Go.Pd
end
section
namespace Go.Pd
open Go.AL
def Dk (t:Trm):Bool:=allT (fun x=>decide (x.name.length<=2000000) && decide (x.names.length<=2000000)) t
end Go.Pd
end
section
namespace Go.Pd
open Go Go.AL
theorem C7 (n:Int):tv n=if 9223372036854775808<=n % 18446744073709551616 then n % 18446744073709551616 - 18446744073709551616 else n % 18446744073709551616:=by
 unfold tv IntKind.wrap
 simp [IntKind.bits,IntKind.signed]
def OkX (S:Nat) (t:Trm):Prop:=szT t<=S/\allT au t=true/\Dk t=true
structure HeadH (x:Thg):Prop where
 lo:-9223372036854775808<=x.n
 hi:x.n<=9223372036854775807
 txt:x.text.length<=2000000
 nms:x.names.length<=2000000
 pts:x.parts.length<=1000000
 tru:x.kind=3→x.n=0∨x.n=1
 rcd:x.kind=5→x.names.length=x.parts.length
 one:x.kind=6∨x.kind=7→x.parts.length=1
mutual
inductive OkH (S:Nat):Thg→Prop
 | mk (x:Thg) (h:HeadH x) (hp:∀y∈x.parts,OkH S y) (hf:∀f,x.fn=some f→OkF S f):OkH S x
inductive OkF (S:Nat):Fnc→Prop
 | mk (f:Fnc) (hs:OkS S f.scp) (hb:(∃b,f.body=some b/\OkX S b/\f.args=(f.names.length:Int))∨(f.body=none/\((f.args=2/\f.basic∈two)∨(f.args=1/\f.basic∈jP)))):OkF S f
inductive OkS (S:Nat):Option Scp→Prop
 | nil:OkS S none
 | bnd (s:Scp) (hw:OkH S s.what) (hr:OkS S s.rest):OkS S (some s)
end
variable {S:Nat}
variable {mo st:Int}
structure Kinds (t:Trm):Prop where
 i1:t.kind=1→0<=t.n/\t.n<=999999999999999
 i6:t.kind=6→t.parts.length=1
 i7:t.kind=7→0 < t.parts.length
 i8:t.kind=8→t.names.length=t.parts.length
 i10:t.kind=10→t.parts.length=1
 i12:t.kind=12→t.parts.length=3
 i13:t.kind=13→t.vars.length=t.names.length/\t.parts.length=t.names.length+1
 i14:t.kind=14→t.parts.length=2
 i15:t.kind=15→t.parts.length=1
 i16:t.kind=16→t.parts.length=1
 els:t.kind≠1→t.kind≠2→¬(t.kind=3∨t.kind=4)→t.kind≠5→t.kind≠6→t.kind≠7→t.kind≠8→t.kind≠10→t.kind≠11→0 < t.parts.length
end Go.Pd
end
section
namespace Go.Pd
open Go Go.AL
variable {S:Nat}
theorem Dl {t:Trm} {k:Int} (hc:bG t=0) (h0:0<=k) (h1:k<=2000) (n m:Nat):bk n m t k=(bE n m t k).map C2:=by
 unfold bk
 rw [if_neg (by omega),if_neg (by omega)]
end Go.Pd
end
section
open Go Go.AL Go.Pd
namespace Go.AL.Seat
theorem Av (c:Int)  :
  if decide ((97:Int)<=c)=true then True/\decide (c<=(122:Int))=ct c/\True else True/\false=ct c/\True:=by
 unfold ct;simp only [ji];split <;> simp [*]
theorem Aw (c:Int)  :
  if decide ((65:Int)<=c)=true then True/\decide (c<=(90:Int))=cD c/\True else True/\false=cD c/\True:=by
 unfold cD;simp only [ji];split <;> simp [*]
theorem Ax (c:Int)  :
  if decide ((48:Int)<=c)=true then True/\decide (c<=(57:Int))=jl c/\True else True/\false=jl c/\True:=by
 unfold jl;simp only [ji];split <;> simp [*]
theorem C8 (c:Int)  :
  if ct c=true then True/\true=dZ c/\True else if cD c=true then True/\true=dZ c/\True else if jl c=true then True/\true=dZ c/\True else True/\decide (c=(95:Int))=dZ c/\True:=by
 unfold dZ;cases ct c <;> cases cD c <;> cases jl c <;> simp
theorem yx (s:Str) (hs:Wf .str s) :
  if decide (s=[])=true then True/\false=bT ct s/\True else if decide ((24:Int) < (↑(List.length s):Int))=true then True/\false=bT ct s/\True else ((0:Int)<=(0:Int)/\(0:Int) < (↑(List.length s):Int))/\if (!ct (↑(UInt8.toNat (List.getD s (Int.toNat (0:Int)) (0:UInt8))):Int))=true then True/\false=bT ct s/\True else (∃(x:Nat),(x<=List.length s/\bT ct s=List.all (List.drop x s) fun (c:UInt8) ↦dZ (bI c))/\(0:Int)=(↑x:Int)/\s=s/\false=false/\(↑(List.length s):Int)=(↑(List.length s):Int)/\True)/\∀(x:Nat),(x<=List.length s/\bT ct s=List.all (List.drop x s) fun (c:UInt8) ↦dZ (bI c))→if decide ((↑x:Int) < (↑(List.length s):Int))=true then ((0:Int)<=(↑x:Int)/\(↑x:Int) < (↑(List.length s):Int))/\if (!dZ (↑(UInt8.toNat (List.getD s (Int.toNat (↑x:Int)) (0:UInt8))):Int))=true then True/\false=bT ct s/\True else inR IntKind.i64 ((↑x:Int)+(1:Int))/\∃(y:Nat),(y<=List.length s/\bT ct s=List.all (List.drop y s) fun (c:UInt8) ↦dZ (bI c))/\List.length s - y < List.length s - x/\(↑x:Int)+(1:Int)=(↑y:Int)/\s=s/\false=false/\(↑(List.length s):Int)=(↑(List.length s):Int)/\True else True/\true=bT ct s/\True:=by
 have hlen:=hs.str
 have eb:∀b:UInt8,(b.toNat:Int)=bI b:=fun _=>rfl
 simp only [ji,Int.toNat_natCast,Int.toNat_zero,true_and,and_true,eb,bT]
 generalize ct (bI (s.getD 0 0))=f0
 by_cases h0:s=[]
 ·simp [h0]
 have hpos:0 < s.length:=List.length_pos_iff.2 h0
 by_cases h1:s.length<=24
 ·rw [if_neg h0,if_neg (by omega)]
  refine ⟨by omega,?_⟩
  cases f0 with
  | false=>simp
  | true=>
   simp only [Bool.not_true,Bool.false_eq_true,if_false,h0,h1,decide_false,decide_true,Bool.not_false,Bool.true_and]
   refine ⟨⟨0,⟨by omega,rfl⟩,rfl⟩,?_⟩
   rintro k ⟨h3,h4⟩
   split
   ·have hk:k < s.length:=by omega
    rw [bf s k 0 hk,List.all_cons] at h4
    generalize dZ (bI (s.getD k 0))=r at h4 ⊢
    refine ⟨by omega,?_⟩
    cases r with
    | false=>simpa using h4.symm
    | true=>
     simp only [Bool.not_true,Bool.false_eq_true,if_false]
     exact ⟨bV hk hlen,k+1,⟨by omega,by simpa using h4⟩,by omega,by omega⟩
   ·have hk:k=s.length:=by omega
    subst hk
    simpa using h4.symm
 ·rw [if_neg h0,if_pos (by omega)]
  simp [h1]
theorem yy (s:Str) (hs:Wf .str s) :
  if decide (s=[])=true then True/\false=bT cD s/\True else if decide ((24:Int) < (↑(List.length s):Int))=true then True/\false=bT cD s/\True else ((0:Int)<=(0:Int)/\(0:Int) < (↑(List.length s):Int))/\if (!cD (↑(UInt8.toNat (List.getD s (Int.toNat (0:Int)) (0:UInt8))):Int))=true then True/\false=bT cD s/\True else (∃(x:Nat),(x<=List.length s/\bT cD s=List.all (List.drop x s) fun (c:UInt8) ↦dZ (bI c))/\(0:Int)=(↑x:Int)/\s=s/\false=false/\(↑(List.length s):Int)=(↑(List.length s):Int)/\True)/\∀(x:Nat),(x<=List.length s/\bT cD s=List.all (List.drop x s) fun (c:UInt8) ↦dZ (bI c))→if decide ((↑x:Int) < (↑(List.length s):Int))=true then ((0:Int)<=(↑x:Int)/\(↑x:Int) < (↑(List.length s):Int))/\if (!dZ (↑(UInt8.toNat (List.getD s (Int.toNat (↑x:Int)) (0:UInt8))):Int))=true then True/\false=bT cD s/\True else inR IntKind.i64 ((↑x:Int)+(1:Int))/\∃(y:Nat),(y<=List.length s/\bT cD s=List.all (List.drop y s) fun (c:UInt8) ↦dZ (bI c))/\List.length s - y < List.length s - x/\(↑x:Int)+(1:Int)=(↑y:Int)/\s=s/\false=false/\(↑(List.length s):Int)=(↑(List.length s):Int)/\True else True/\true=bT cD s/\True:=by
 have hlen:=hs.str
 have eb:∀b:UInt8,(b.toNat:Int)=bI b:=fun _=>rfl
 simp only [ji,Int.toNat_natCast,Int.toNat_zero,true_and,and_true,eb,bT]
 generalize cD (bI (s.getD 0 0))=f0
 by_cases h0:s=[]
 ·simp [h0]
 have hpos:0 < s.length:=List.length_pos_iff.2 h0
 by_cases h1:s.length<=24
 ·rw [if_neg h0,if_neg (by omega)]
  refine ⟨by omega,?_⟩
  cases f0 with
  | false=>simp
  | true=>
   simp only [Bool.not_true,Bool.false_eq_true,if_false,h0,h1,decide_false,decide_true,Bool.not_false,Bool.true_and]
   refine ⟨⟨0,⟨by omega,rfl⟩,rfl⟩,?_⟩
   rintro k ⟨h3,h4⟩
   split
   ·have hk:k < s.length:=by omega
    rw [bf s k 0 hk,List.all_cons] at h4
    generalize dZ (bI (s.getD k 0))=r at h4 ⊢
    refine ⟨by omega,?_⟩
    cases r with
    | false=>simpa using h4.symm
    | true=>
     simp only [Bool.not_true,Bool.false_eq_true,if_false]
     exact ⟨bV hk hlen,k+1,⟨by omega,by simpa using h4⟩,by omega,by omega⟩
   ·have hk:k=s.length:=by omega
    subst hk
    simpa using h4.symm
 ·rw [if_neg h0,if_pos (by omega)]
  simp [h1]
theorem C9 (s:Str)  :
  if decide (s=[(109:UInt8),(111:UInt8),(100:UInt8),(117:UInt8),(108:UInt8),(101:UInt8)])=true then True/\true=cX s/\True else if decide (s=[(105:UInt8),(109:UInt8),(112:UInt8),(111:UInt8),(114:UInt8),(116:UInt8)])=true then True/\true=cX s/\True else if decide (s=[(112:UInt8),(105:UInt8),(110:UInt8)])=true then True/\true=cX s/\True else if decide (s=[(114:UInt8),(97:UInt8),(110:UInt8),(103:UInt8),(101:UInt8)])=true then True/\true=cX s/\True else if decide (s=[(116:UInt8),(121:UInt8),(112:UInt8),(101:UInt8)])=true then True/\true=cX s/\True else if decide (s=[(111:UInt8),(112:UInt8),(97:UInt8),(113:UInt8),(117:UInt8),(101:UInt8)])=true then True/\true=cX s/\True else if decide (s=[(108:UInt8),(101:UInt8),(116:UInt8)])=true then True/\true=cX s/\True else if decide (s=[(105:UInt8),(110:UInt8)])=true then True/\true=cX s/\True else if decide (s=[(101:UInt8),(120:UInt8),(112:UInt8),(111:UInt8),(114:UInt8),(116:UInt8)])=true then True/\true=cX s/\True else if decide (s=[(102:UInt8),(117:UInt8),(110:UInt8)])=true then True/\true=cX s/\True else if decide (s=[(105:UInt8),(102:UInt8)])=true then True/\true=cX s/\True else if decide (s=[(116:UInt8),(104:UInt8),(101:UInt8),(110:UInt8)])=true then True/\true=cX s/\True else if decide (s=[(101:UInt8),(108:UInt8),(115:UInt8),(101:UInt8)])=true then True/\true=cX s/\True else if decide (s=[(99:UInt8),(97:UInt8),(115:UInt8),(101:UInt8)])=true then True/\true=cX s/\True else if decide (s=[(111:UInt8),(102:UInt8)])=true then True/\true=cX s/\True else if decide (s=[(97:UInt8),(115:UInt8)])=true then True/\true=cX s/\True else if decide (s=[(110:UInt8),(101:UInt8),(119:UInt8)])=true then True/\true=cX s/\True else if decide (s=[(114:UInt8),(97:UInt8),(119:UInt8)])=true then True/\true=cX s/\True else if decide (s=[(116:UInt8),(114:UInt8),(117:UInt8),(101:UInt8)])=true then True/\true=cX s/\True else if decide (s=[(102:UInt8),(97:UInt8),(108:UInt8),(115:UInt8),(101:UInt8)])=true then True/\true=cX s/\True else True/\false=cX s/\True:=by
 refine a8 (fun h=>?_) (fun h0=>?_)
 ·rw [Xo h];exact ⟨trivial,rfl,trivial⟩
 refine a8 (fun h=>?_) (fun h1=>?_)
 ·rw [Xo h];exact ⟨trivial,rfl,trivial⟩
 refine a8 (fun h=>?_) (fun h2=>?_)
 ·rw [Xo h];exact ⟨trivial,rfl,trivial⟩
 refine a8 (fun h=>?_) (fun h3=>?_)
 ·rw [Xo h];exact ⟨trivial,rfl,trivial⟩
 refine a8 (fun h=>?_) (fun h4=>?_)
 ·rw [Xo h];exact ⟨trivial,rfl,trivial⟩
 refine a8 (fun h=>?_) (fun h5=>?_)
 ·rw [Xo h];exact ⟨trivial,rfl,trivial⟩
 refine a8 (fun h=>?_) (fun h6=>?_)
 ·rw [Xo h];exact ⟨trivial,rfl,trivial⟩
 refine a8 (fun h=>?_) (fun h7=>?_)
 ·rw [Xo h];exact ⟨trivial,rfl,trivial⟩
 refine a8 (fun h=>?_) (fun h8=>?_)
 ·rw [Xo h];exact ⟨trivial,rfl,trivial⟩
 refine a8 (fun h=>?_) (fun h9=>?_)
 ·rw [Xo h];exact ⟨trivial,rfl,trivial⟩
 refine a8 (fun h=>?_) (fun h10=>?_)
 ·rw [Xo h];exact ⟨trivial,rfl,trivial⟩
 refine a8 (fun h=>?_) (fun h11=>?_)
 ·rw [Xo h];exact ⟨trivial,rfl,trivial⟩
 refine a8 (fun h=>?_) (fun h12=>?_)
 ·rw [Xo h];exact ⟨trivial,rfl,trivial⟩
 refine a8 (fun h=>?_) (fun h13=>?_)
 ·rw [Xo h];exact ⟨trivial,rfl,trivial⟩
 refine a8 (fun h=>?_) (fun h14=>?_)
 ·rw [Xo h];exact ⟨trivial,rfl,trivial⟩
 refine a8 (fun h=>?_) (fun h15=>?_)
 ·rw [Xo h];exact ⟨trivial,rfl,trivial⟩
 refine a8 (fun h=>?_) (fun h16=>?_)
 ·rw [Xo h];exact ⟨trivial,rfl,trivial⟩
 refine a8 (fun h=>?_) (fun h17=>?_)
 ·rw [Xo h];exact ⟨trivial,rfl,trivial⟩
 refine a8 (fun h=>?_) (fun h18=>?_)
 ·rw [Xo h];exact ⟨trivial,rfl,trivial⟩
 refine a8 (fun h=>?_) (fun h19=>?_)
 ·rw [Xo h];exact ⟨trivial,rfl,trivial⟩
 refine ⟨trivial,?_,trivial⟩
 symm
 refine Xf fun hm=>?_
 unfold CD at hm
 rcases List.mem_cons.1 hm with e | hm
 ·exact h0 (Xd e)
 rcases List.mem_cons.1 hm with e | hm
 ·exact h1 (Xd e)
 rcases List.mem_cons.1 hm with e | hm
 ·exact h2 (Xd e)
 rcases List.mem_cons.1 hm with e | hm
 ·exact h3 (Xd e)
 rcases List.mem_cons.1 hm with e | hm
 ·exact h4 (Xd e)
 rcases List.mem_cons.1 hm with e | hm
 ·exact h5 (Xd e)
 rcases List.mem_cons.1 hm with e | hm
 ·exact h6 (Xd e)
 rcases List.mem_cons.1 hm with e | hm
 ·exact h7 (Xd e)
 rcases List.mem_cons.1 hm with e | hm
 ·exact h8 (Xd e)
 rcases List.mem_cons.1 hm with e | hm
 ·exact h9 (Xd e)
 rcases List.mem_cons.1 hm with e | hm
 ·exact h10 (Xd e)
 rcases List.mem_cons.1 hm with e | hm
 ·exact h11 (Xd e)
 rcases List.mem_cons.1 hm with e | hm
 ·exact h12 (Xd e)
 rcases List.mem_cons.1 hm with e | hm
 ·exact h13 (Xd e)
 rcases List.mem_cons.1 hm with e | hm
 ·exact h14 (Xd e)
 rcases List.mem_cons.1 hm with e | hm
 ·exact h15 (Xd e)
 rcases List.mem_cons.1 hm with e | hm
 ·exact h16 (Xd e)
 rcases List.mem_cons.1 hm with e | hm
 ·exact h17 (Xd e)
 rcases List.mem_cons.1 hm with e | hm
 ·exact h18 (Xd e)
 rcases List.mem_cons.1 hm with e | hm
 ·exact h19 (Xd e)
 exact absurd hm List.not_mem_nil
theorem Ca (s:Str)  :
  if bT ct s=true then True/\(!cX s)=aw s/\True else True/\false=aw s/\True:=by
 unfold aw;cases bT ct s <;> simp
theorem Ay (s:Str)  :
  True/\bT cD s=cU s/\True:=by
 simp [cU]
theorem yz (a:List Str) (v:Str) (ha:Wf (.lst .str) a) :
  (∃(x:Nat),(x<=List.length a/\ba a v (0:Int)=ba (List.drop x a) v (↑x:Int))/\(0:Int)=(↑x:Int)/\a=a/\v=v/\(↑(List.length a):Int)=(↑(List.length a):Int)/\True)/\∀(x:Nat),x<=List.length a/\ba a v (0:Int)=ba (List.drop x a) v (↑x:Int)→if decide ((↑x:Int) < (↑(List.length a):Int))=true then ((0:Int)<=(↑x:Int)/\(↑x:Int) < (↑(List.length a):Int))/\if decide (v=List.getD a (Int.toNat (↑x:Int)) (dfl Ty.str))=true then True/\(↑x:Int)=ba a v (0:Int)/\True else inR IntKind.i64 ((↑x:Int)+(1:Int))/\∃(y:Nat),(y<=List.length a/\ba a v (0:Int)=ba (List.drop y a) v (↑y:Int))/\List.length a - y < List.length a - x/\(↑x:Int)+(1:Int)=(↑y:Int)/\a=a/\v=v/\(↑(List.length a):Int)=(↑(List.length a):Int)/\True else True/\(-1:Int)=ba a v (0:Int)/\True:=by
 have la:=ha.len
 simp only [Int.toNat_natCast,eq_self,true_and,and_true]
 refine ⟨⟨0,⟨by omega,by simp⟩,by simp⟩,?_⟩
 rintro k ⟨h1,h3⟩
 refine a8 (fun h=>?_) (fun h=>?_)
 ·replace h:=Xo h
  have hk:k < a.length:=by omega
  rw [bf a k (dfl .str) hk] at h3
  refine ⟨by omega,?_⟩
  by_cases e:a.getD k (dfl .str)=v
  ·rw [if_pos (by simpa using e.symm),h3,ba,if_pos e]
  ·rw [if_neg (by simpa using fun h=>e h.symm)]
   exact ⟨bV hk la,k+1,⟨by omega,by rw [h3,ba,if_neg e];rfl⟩,by omega,by omega⟩
 ·replace h:¬((k:Int) < (a.length:Int)):=fun e=>h (Xd e)
  have e:k=a.length:=by omega
  subst e;rw [h3];simp [ba]
theorem Az (s:Str)  :
  if decide (s=[(73:UInt8),(110:UInt8),(116:UInt8)])=true then True/\true=gx s/\True else if decide (s=[(66:UInt8),(111:UInt8),(111:UInt8),(108:UInt8)])=true then True/\true=gx s/\True else if decide (s=[(84:UInt8),(101:UInt8),(120:UInt8),(116:UInt8)])=true then True/\true=gx s/\True else True/\decide (s=[(65:UInt8),(110:UInt8),(121:UInt8)])=gx s/\True:=by
 simp only [eq_self,true_and,and_true,gx]
 by_cases a:s=[73,110,116] <;> by_cases b:s=[66,111,111,108] <;> by_cases c:s=[84,101,120,116] <;> by_cases d:s=[65,110,121] <;> simp [a,b,c,d]
theorem yA (a:List Str)  :
  True/\a=a/\True:=by
 trivial
theorem AA (s:Shape) (hs:Wf (.st .shape) s) (ho:s.parts.length *16<=140737488355328) :
  if (!decide ((↑(List.length s.names):Int)=(↑(List.length s.parts):Int)))=true then True/\false=cY s/\True else (∃(x:Nat),(x<=List.length s.names/\List.length s.names=List.length s.parts/\cY s=(List.all (List.drop x s.names) aw && decide (List.Nodup s.names)))/\(0:Int)=(↑x:Int)/\s=s/\false=false/\s.names=s.names/\(↑(List.length s.names):Int)=(↑(List.length s.names):Int)/\s=s/\True)/\∀(x:Nat),x<=List.length s.names/\List.length s.names=List.length s.parts/\cY s=(List.all (List.drop x s.names) aw && decide (List.Nodup s.names))→if decide ((↑x:Int) < (↑(List.length s.names):Int))=true then ((0:Int)<=(↑x:Int)/\(↑x:Int) < (↑(List.length s.names):Int))/\if (!aw (List.getD s.names (Int.toNat (↑x:Int)) (dfl Ty.str)))=true then True/\false=cY s/\True else inR IntKind.i64 ((↑x:Int)+(1:Int))/\∃(y:Nat),(y<=List.length s.names/\List.length s.names=List.length s.parts/\cY s=(List.all (List.drop y s.names) aw && decide (List.Nodup s.names)))/\List.length s.names - y < List.length s.names - x/\(↑x:Int)+(1:Int)=(↑y:Int)/\s=s/\false=false/\s.names=s.names/\(↑(List.length s.names):Int)=(↑(List.length s.names):Int)/\s=s/\True else List.length s.names *(16:Nat)<=(140737488355328:Nat)/\List.length (List.mergeSort s.names fun (x y:Str) ↦decide (x<=y))=List.length (List.mergeSort s.names fun (x y:Str) ↦decide (x<=y))/\True/\decide ((↑(List.length (Lib.compact (List.mergeSort s.names fun (x y:Str) ↦decide (x<=y)))):Int)=(↑(List.length s.names):Int))=cY s/\True:=by
 have ln:=hs.names.len
 simp only [Int.toNat_natCast,eq_self,true_and,and_true]
 refine a8 (fun h=>?_) (fun h=>?_)
 ·have:s.names.length≠s.parts.length:=by simp at h;omega
  simp [cY,this]
 have hl:s.names.length=s.parts.length:=by simp at h;omega
 refine ⟨⟨0,⟨by omega,hl,by simp [cY,hl]⟩,rfl⟩,?_⟩
 rintro k ⟨h1,_,h3⟩
 refine a8 (fun h=>?_) (fun h=>?_)
 ·replace h:=Xo h
  have hk:k < s.names.length:=by omega
  rw [bf s.names k (dfl .str) hk] at h3
  refine ⟨by omega,?_⟩
  simp only [List.all_cons] at h3
  cases e:aw (s.names.getD k (dfl .str))
  ·rw [e] at h3;rw [h3];simp
  ·simp only [e,Bool.true_and] at h3
   exact ⟨bV hk ln,k+1,⟨by omega,hl,h3⟩,by omega,by omega⟩
 ·replace h:¬((k:Int) < (s.names.length:Int)):=fun e=>h (Xd e)
  have e:k=s.names.length:=by omega
  subst e
  have hc:=fZ s.names
  unfold dO at hc
  refine ⟨by omega,?_⟩
  rw [h3,List.drop_length]
  simp only [List.all_nil,Bool.true_and]
  rw [decide_eq_decide,←hc]
  omega
theorem Cb (s:Shape) (hs:Wf (.st .shape) s) (ho:s.parts.length *16<=140737488355328) :
  if decide (s.pkg=[])=true then if decide (s.kind=(1:Int))=true then if decide (s.name=[])=true then if decide ((↑(List.length s.names):Int)=(0:Int))=true then True/\decide ((↑(List.length s.parts):Int)=(0:Int))=aG s/\True else True/\false=aG s/\True else True/\false=aG s/\True else if decide (s.kind=(2:Int))=true then if decide (s.name=[])=true then if decide ((↑(List.length s.names):Int)=(0:Int))=true then True/\decide ((↑(List.length s.parts):Int)=(0:Int))=aG s/\True else True/\false=aG s/\True else True/\false=aG s/\True else if decide (s.kind=(3:Int))=true then if decide (s.name=[])=true then if decide ((↑(List.length s.names):Int)=(0:Int))=true then True/\decide ((↑(List.length s.parts):Int)=(0:Int))=aG s/\True else True/\false=aG s/\True else True/\false=aG s/\True else if decide (s.kind=(4:Int))=true then if decide (s.name=[])=true then if decide ((↑(List.length s.names):Int)=(0:Int))=true then True/\decide ((↑(List.length s.parts):Int)=(0:Int))=aG s/\True else True/\false=aG s/\True else True/\false=aG s/\True else if decide (s.kind=(5:Int))=true then if decide (s.name=[])=true then if decide ((↑(List.length s.names):Int)=(0:Int))=true then True/\decide ((↑(List.length s.parts):Int)=(1:Int))=aG s/\True else True/\false=aG s/\True else True/\false=aG s/\True else if decide (s.kind=(6:Int))=true then if decide (s.name=[])=true then List.length s.parts *(16:Nat)<=(140737488355328:Nat)/\True/\cY s=aG s/\True else True/\false=aG s/\True else if decide (s.kind=(7:Int))=true then if decide (s.name=[])=true then List.length s.parts *(16:Nat)<=(140737488355328:Nat)/\True/\cY s=aG s/\True else True/\false=aG s/\True else if decide (s.kind=(8:Int))=true then if decide (s.name=[])=true then if decide ((↑(List.length s.names):Int)=(0:Int))=true then True/\decide ((0:Int) < (↑(List.length s.parts):Int))=aG s/\True else True/\false=aG s/\True else True/\false=aG s/\True else if decide (s.kind=(9:Int))=true then if cU s.name=true then if decide (s.pkg=[])=true then if (!gx s.name)=true then if decide ((↑(List.length s.names):Int)=(0:Int))=true then True/\decide ((↑(List.length s.parts):Int)=(0:Int))=aG s/\True else True/\false=aG s/\True else if aw s.pkg=true then if decide ((↑(List.length s.names):Int)=(0:Int))=true then True/\decide ((↑(List.length s.parts):Int)=(0:Int))=aG s/\True else True/\false=aG s/\True else True/\false=aG s/\True else if aw s.pkg=true then if decide ((↑(List.length s.names):Int)=(0:Int))=true then True/\decide ((↑(List.length s.parts):Int)=(0:Int))=aG s/\True else True/\false=aG s/\True else True/\false=aG s/\True else True/\false=aG s/\True else if decide (s.kind=(10:Int))=true then if cU s.name=true then if aw s.pkg=true then if decide ((↑(List.length s.names):Int)=(0:Int))=true then True/\decide ((↑(List.length s.parts):Int)=(0:Int))=aG s/\True else True/\false=aG s/\True else True/\false=aG s/\True else True/\false=aG s/\True else True/\false=aG s/\True else if decide (s.kind=(1:Int))=true then True/\false=aG s/\True else if decide (s.kind=(2:Int))=true then True/\false=aG s/\True else if decide (s.kind=(3:Int))=true then True/\false=aG s/\True else if decide (s.kind=(4:Int))=true then True/\false=aG s/\True else if decide (s.kind=(5:Int))=true then True/\false=aG s/\True else if decide (s.kind=(6:Int))=true then True/\false=aG s/\True else if decide (s.kind=(7:Int))=true then True
  /\false=aG s/\True else if decide (s.kind=(8:Int))=true then True/\false=aG s/\True else if decide (s.kind=(9:Int))=true then if cU s.name=true then if decide (s.pkg=[])=true then if (!gx s.name)=true then if decide ((↑(List.length s.names):Int)=(0:Int))=true then True/\decide ((↑(List.length s.parts):Int)=(0:Int))=aG s/\True else True/\false=aG s/\True else if aw s.pkg=true then if decide ((↑(List.length s.names):Int)=(0:Int))=true then True/\decide ((↑(List.length s.parts):Int)=(0:Int))=aG s/\True else True/\false=aG s/\True else True/\false=aG s/\True else if aw s.pkg=true then if decide ((↑(List.length s.names):Int)=(0:Int))=true then True/\decide ((↑(List.length s.parts):Int)=(0:Int))=aG s/\True else True/\false=aG s/\True else True/\false=aG s/\True else True/\false=aG s/\True else if decide (s.kind=(10:Int))=true then if cU s.name=true then if aw s.pkg=true then if decide ((↑(List.length s.names):Int)=(0:Int))=true then True/\decide ((↑(List.length s.parts):Int)=(0:Int))=aG s/\True else True/\false=aG s/\True else True/\false=aG s/\True else True/\false=aG s/\True else True/\false=aG s/\True:=by
 have n0:((s.names.length:Int)=0)↔s.names=[]:=by rw [←List.length_eq_zero_iff];omega
 have p0:((s.parts.length:Int)=0)↔s.parts=[]:=by rw [←List.length_eq_zero_iff];omega
 have p1:((s.parts.length:Int)=1)↔s.parts.length=1:=by omega
 have p2:(0 < (s.parts.length:Int))↔¬s.parts=[]:=by rw [←List.length_eq_zero_iff];omega
 simp only [n0,p0,p1,p2,decide_eq_true_eq,true_and,and_true,ho]
 have hf:aG s=aG s:=rfl
 conv at hf=>rhs;unfold aG
 revert hf
 generalize aG s=F
 generalize cY s=A
 generalize cU s.name=B
 generalize aw s.pkg=C
 generalize gx s.name=D
 generalize s.kind=K
 intro hf
 repeat' (refine a8 (fun _=>?_) (fun _=>?_))
 all_goals (subst hf;simp_all)
theorem vF (n:Nat) (s:Shape) (hs:Wf (.st .shape) s) (hn:sz s<=n+1) (hb:n<=1000000) :
  List.length s.parts *(16:Nat)<=(140737488355328:Nat)/\if (!aG s)=true then True/\false=allS aG s/\True else (∃(x:Nat),(x<=List.length s.parts/\allS aG s=allL aG (List.drop x s.parts))/\(0:Int)=(↑x:Int)/\s=s/\false=false/\s.parts=s.parts/\(↑(List.length s.parts):Int)=(↑(List.length s.parts):Int)/\s=s/\True)/\∀(x:Nat),x<=List.length s.parts/\allS aG s=allL aG (List.drop x s.parts)→if decide ((↑x:Int) < (↑(List.length s.parts):Int))=true then ((0:Int)<=(↑x:Int)/\(↑x:Int) < (↑(List.length s.parts):Int))/\sz (List.getD s.parts (Int.toNat (↑x:Int)) (dfl (Ty.st SN.shape)))<=n/\if (!allS aG (List.getD s.parts (Int.toNat (↑x:Int)) (dfl (Ty.st SN.shape))))=true then True/\false=allS aG s/\True else inR IntKind.i64 ((↑x:Int)+(1:Int))/\∃(y:Nat),(y<=List.length s.parts/\allS aG s=allL aG (List.drop y s.parts))/\List.length s.parts - y < List.length s.parts - x/\(↑x:Int)+(1:Int)=(↑y:Int)/\s=s/\false=false/\s.parts=s.parts/\(↑(List.length s.parts):Int)=(↑(List.length s.parts):Int)/\s=s/\True else True/\true=allS aG s/\True:=by
 have ln:=hs.parts.len
 have hz:=xa s
 have hl:=xb s.parts
 simp only [Int.toNat_natCast,eq_self,true_and,and_true]
 refine ⟨by omega,a8 (fun h=>?_) (fun h=>?_)⟩
 ·rw [rE];simp at h;simp [h]
 refine ⟨⟨0,⟨by omega,by rw [rE];simp at h;simp [h]⟩,rfl⟩,?_⟩
 rintro k ⟨h1,h3⟩
 refine a8 (fun h=>?_) (fun h=>?_)
 ·replace h:=Xo h
  have hk:k < s.parts.length:=by omega
  have hm:=rD (de s.parts k (dfl (.st .shape)) hk)
  rw [bf s.parts k (dfl (.st .shape)) hk] at h3
  simp only [allL] at h3
  refine ⟨by omega,by omega,?_⟩
  cases e:allS aG (s.parts.getD k (dfl (.st .shape)))
  ·rw [e] at h3;rw [h3];simp
  ·simp only [e,Bool.true_and] at h3
   exact ⟨bV hk ln,k+1,⟨by omega,h3⟩,by omega,by omega⟩
 ·replace h:¬((k:Int) < (s.parts.length:Int)):=fun e=>h (Xd e)
  have e:k=s.parts.length:=by omega
  subst e
  rw [h3,List.drop_length];rfl
theorem Cc (c:Int) (hc:0<=c/\c<=400) :
  inR IntKind.i64 (c+(1:Int))/\if decide ((400:Int) < c+(1:Int))=true then decide ((400:Int) < c+(1:Int))=true/\c+(1:Int)=c+(1:Int)/\True else decide ((400:Int) < c+(1:Int))=false/\c+(1:Int)=c+(1:Int)/\True:=by
 refine ⟨bM (by omega) (by omega),a8 (fun h=>?_) (fun h=>?_)⟩
 ·exact ⟨h,rfl,trivial⟩
 ·exact ⟨by simpa using h,rfl,trivial⟩
theorem Cd (n:Nat) (s:Shape) (l c:Int) (hs:Wf (.st .shape) s) (hn:sz s<=n+1) (hc:0<=c/\c<=400/\1<=l/\l<=c+1) :
  ((0:Int)<=c/\c<=(400:Int))/\if decide ((400:Int) < c+(1:Int))=true then decide ((400:Int) < c+(↑(sz s):Int))=true/\c+(1:Int)=(401:Int)/\True else (∃(x:Nat × Int),(x.1<=List.length s.parts/\c+(1:Int)+(↑(szL (List.take x.1 s.parts)):Int)<=(400:Int)/\deepL (List.drop x.1 s.parts) (l+(1:Int)) x.2=deepS s l)/\l=x.2/\(0:Int)=(↑x.1:Int)/\s=s/\l=l/\(0:Int)=(0:Int)/\s.parts=s.parts/\(↑(List.length s.parts):Int)=(↑(List.length s.parts):Int)/\c+(1:Int)=c+(1:Int)+(↑(szL (List.take x.1 s.parts)):Int)/\s=s/\True)/\∀(x:Nat × Int),x.1<=List.length s.parts/\c+(1:Int)+(↑(szL (List.take x.1 s.parts)):Int)<=(400:Int)/\deepL (List.drop x.1 s.parts) (l+(1:Int)) x.2=deepS s l→if decide ((↑x.1:Int) < (↑(List.length s.parts):Int))=true then ((0:Int)<=(↑x.1:Int)/\(↑x.1:Int) < (↑(List.length s.parts):Int))/\inR IntKind.i64 (l+(1:Int))/\(sz (List.getD s.parts (Int.toNat (↑x.1:Int)) (dfl (Ty.st SN.shape)))<=n/\(0:Int)<=c+(1:Int)+(↑(szL (List.take x.1 s.parts)):Int)/\c+(1:Int)+(↑(szL (List.take x.1 s.parts)):Int)<=(400:Int)/\(1:Int)<=l+(1:Int)/\l+(1:Int)<=c+(1:Int)+(↑(szL (List.take x.1 s.parts)):Int)+(1:Int))/\if decide ((400:Int) < c+(1:Int)+(↑(szL (List.take x.1 s.parts)):Int)+(↑(sz (List.getD s.parts (Int.toNat (↑x.1:Int)) (dfl (Ty.st SN.shape)))):Int))=true then decide ((400:Int) < c+(↑(sz s):Int))=true/\(401:Int)=(401:Int)/\True else inR IntKind.i64 ((↑x.1:Int)+(1:Int))/\∃(y:Nat × Int),(y.1<=List.length s.parts/\c+(1:Int)+(↑(szL (List.take y.1 s.parts)):Int)<=(400:Int)/\deepL (List.drop y.1 s.parts) (l+(1:Int)) y.2=deepS s l)/\List.length s.parts - y.1 < List.length s.parts - x.1/\max x.2 (deepS (List.getD s.parts (Int.toNat (↑x.1:Int)) (dfl (Ty.st SN.shape))) (l+(1:Int)))=y.2/\(↑x.1:Int)+(1:Int)=(↑y.1:Int)/\s=s/\l=l/\(0:Int)=(0:Int)/\s.parts=s.parts/\(↑(List.length s.parts):Int)=(↑(List.length s.parts):Int)/\c+(1:Int)+(↑(szL (List.take x.1 s.parts)):Int)+(↑(sz (List.getD s.parts (Int.toNat (↑x.1:Int)) (dfl (Ty.st SN.shape)))):Int)=c+(1:Int)+(↑(szL (List.take y.1 s.parts)):Int)/\s=s/\True else decide ((400:Int) < c+(↑(sz s):Int))=false/\x.2=deepS s l/\c+(1:Int)+(↑(szL (List.take x.1 s.parts)):Int)=c+(↑(sz s):Int)/\True:=by
 have ln:=hs.parts.len
 have hz:=xa s
 refine ⟨⟨hc.1,hc.2.1⟩,a8 (fun h=>?_) (fun h=>?_)⟩
 ·replace h:=Xo h
  have:=ot s
  exact ⟨Xd (by omega),by omega,trivial⟩
 replace h:¬(400:Int) < c+1:=fun e=>h (Xd e)
 have hd0:deepL s.parts (l+1) l=deepS s l:=by cases s;rfl
 refine ⟨⟨(0,l),⟨Nat.zero_le _,by simp [szL];omega,by simpa using hd0⟩,rfl,rfl,rfl,rfl,rfl,rfl,rfl,by simp [szL],rfl,trivial⟩,?_⟩
 rintro ⟨k,d⟩ ⟨h1,h2,h3⟩
 simp only [Int.toNat_natCast] at h1 h2 h3 ⊢
 have hc0:(0:Int)<=(szL (s.parts.take k):Int):=by omega
 refine a8 (fun hk=>?_) (fun hk=>?_)
 ·replace hk:=Xo hk
  have hk:k < s.parts.length:=by omega
  have hs1:=k6 s.parts k (dfl (.st .shape)) hk
  have hm:=rD (de s.parts k (dfl (.st .shape)) hk)
  rw [bf s.parts k (dfl (.st .shape)) hk] at h3
  simp only [deepL] at h3
  have ht:=te s.parts (k+1)
  refine ⟨by omega,bM (by omega) (by omega),⟨by omega,by omega,h2,by omega,by omega⟩,a8 (fun h=>?_) (fun h=>?_)⟩
  ·replace h:=Xo h
   exact ⟨Xd (by omega),by trivial,by trivial⟩
  ·replace h:=fun e=>h (Xd e)
   replace h:¬(400:Int) < c+1+(szL (s.parts.take k):Int)+(sz (s.parts.getD k (dfl (.st .shape))):Int):=h
   exact ⟨bV hk ln,(k+1,_),⟨by omega,by simp only;omega,h3⟩,by simp only;omega,rfl,by simp only;omega,by trivial,by trivial,by trivial,by trivial,by trivial,by simp only;omega,by trivial,by trivial⟩
 ·replace hk:¬((k:Int) < (s.parts.length:Int)):=fun e=>hk (Xd e)
  have e:k=s.parts.length:=by omega
  subst e
  rw [List.take_length] at h2 ⊢
  rw [List.drop_length] at h3
  exact ⟨Xf (by omega),h3,by omega,trivial⟩
theorem AB (s:Shape) (hs:Wf (.st .shape) s) :
  (sz s<=sz s/\(0:Int)<=(0:Int)/\(0:Int)<=(400:Int)/\(1:Int)<=(1:Int)/\(1:Int)<=(0:Int)+(1:Int))/\if decide ((400:Int) < (0:Int)+(↑(sz s):Int))=true then ((401:Int)=if sz s<=(400:Nat) then (↑(sz s):Int) else (401:Int))/\((0:Int)=if sz s<=(400:Nat) then deepS s (1:Int) else (0:Int))/\false=decide (sz s<=(400:Nat))/\True else ((0:Int)+(↑(sz s):Int)=if sz s<=(400:Nat) then (↑(sz s):Int) else (401:Int))/\(deepS s (1:Int)=if sz s<=(400:Nat) then deepS s (1:Int) else (0:Int))/\true=decide (sz s<=(400:Nat))/\True:=by
 refine ⟨by simp,a8 (fun h=>?_) (fun h=>?_)⟩
 ·replace h:=Xo h
  have h':¬sz s<=400:=by omega
  rw [if_neg h',if_neg h']
  exact ⟨rfl,rfl,by simp [h'],trivial⟩
 ·replace h:¬(400:Int) < 0+(sz s:Int):=fun e=>h (Xd e)
  have h':sz s<=400:=by omega
  rw [if_pos h',if_pos h']
  exact ⟨by omega,by trivial,by simp [h'],trivial⟩
theorem AD (s:Shape)  :
  if (!decide (sz s<=(400:Nat)))=true then True/\(3:Int)=dx s/\True else if decide ((40:Int) < if sz s<=(400:Nat) then deepS s (1:Int) else (0:Int))=true then True/\(91:Int)=dx s/\True else sz s<=(400:Nat)/\if (!allS aG s)=true then True/\(70:Int)=dx s/\True else True/\(0:Int)=dx s/\True:=by
 unfold dx
 by_cases h1:sz s<=400
 ·rw [if_neg (by simp [h1]),if_pos h1,if_neg (show ¬400 < sz s by omega)]
  by_cases h2:(40:Int) < deepS s 1
  ·rw [if_pos (by simp [h2]),if_pos h2];exact ⟨trivial,rfl,trivial⟩
  ·rw [if_neg (by simp [h2]),if_neg h2]
   refine ⟨h1,?_⟩
   cases allS aG s <;> simp
 ·rw [if_pos (by simp [h1]),if_pos (show 400 < sz s by omega)];exact ⟨trivial,rfl,trivial⟩
end Go.AL.Seat
end
section
namespace Go.Pd
open Go.AL
mutual
theorem eqS_eq:∀{a b:Shape},eqS a b=true→a=b
 | ⟨k,p,n,ns,ps⟩,⟨k',p',n',ns',ps'⟩,h=>by
  simp only [eqS,Bool.and_eq_true,decide_eq_true_eq] at h
  obtain ⟨⟨⟨⟨rfl,rfl⟩,rfl⟩,rfl⟩,h⟩:=h
  rw [eqL_eq h]
theorem eqL_eq:∀{a b:List Shape},eqL a b=true→a=b
 | [],[],_=>rfl
 | [],_ ::_,h=>by simp [eqL] at h
 | _ ::_,[],h=>by simp [eqL] at h
 | a ::r,b ::s,h=>by
  simp only [eqL,Bool.and_eq_true] at h
  rw [eqS_eq h.1,eqL_eq h.2]
end
end Go.Pd
end
section
open Go Go.AL Go.Pd
namespace Go.AL.Seat
theorem yB (n:Nat) (t:Trm) (m:Int) (hs:Wf (.st .term) t) (hz:szT t<=n+1) (h0:0<=m) (h1:m<=1000000) :
  (∃(x:Nat × Int × Int),(x.1<=List.length t.parts/\(1:Int)<=x.2.1/\x.2.1<=m+(1:Int)/\(0:Int)<=x.2.2/\x.2.2+(1:Int)<=x.2.1/\countL (List.drop x.1 t.parts) m x.2.1 x.2.2=countL t.parts m (1:Int) (0:Int))/\(1:Int)=x.2.1/\(0:Int)=x.2.2/\(0:Int)=(↑x.1:Int)/\t=t/\m=m/\(0:Int)=(0:Int)/\(0:Int)=(0:Int)/\t.parts=t.parts/\(↑(List.length t.parts):Int)=(↑(List.length t.parts):Int)/\t=t/\True)/\∀(x:Nat × Int × Int),x.1<=List.length t.parts/\(1:Int)<=x.2.1/\x.2.1<=m+(1:Int)/\(0:Int)<=x.2.2/\x.2.2+(1:Int)<=x.2.1/\countL (List.drop x.1 t.parts) m x.2.1 x.2.2=countL t.parts m (1:Int) (0:Int)→if decide ((↑x.1:Int) < (↑(List.length t.parts):Int))=true then ((0:Int)<=(↑x.1:Int)/\(↑x.1:Int) < (↑(List.length t.parts):Int))/\if decide (m < x.2.1)=true then inR IntKind.i64 (x.2.2+(1:Int))/\True/\x.2.1=(countT t m).1/\x.2.2+(1:Int)=(countT t m).2/\True else inR IntKind.i64 (m - x.2.1)/\(szT (List.getD t.parts (Int.toNat (↑x.1:Int)) (dfl (Ty.st SN.term)))<=n/\(0:Int)<=m - x.2.1/\m - x.2.1<=(1000000:Int))/\inR IntKind.i64 (x.2.1+(countT (List.getD t.parts (Int.toNat (↑x.1:Int)) (dfl (Ty.st SN.term))) (m - x.2.1)).1)/\inR IntKind.i64 ((↑x.1:Int)+(1:Int))/\∃(y:Nat × Int × Int),(y.1<=List.length t.parts/\(1:Int)<=y.2.1/\y.2.1<=m+(1:Int)/\(0:Int)<=y.2.2/\y.2.2+(1:Int)<=y.2.1/\countL (List.drop y.1 t.parts) m y.2.1 y.2.2=countL t.parts m (1:Int) (0:Int))/\List.length t.parts - y.1 < List.length t.parts - x.1/\x.2.1+(countT (List.getD t.parts (Int.toNat (↑x.1:Int)) (dfl (Ty.st SN.term))) (m - x.2.1)).1=y.2.1/\max x.2.2 (countT (List.getD t.parts (Int.toNat (↑x.1:Int)) (dfl (Ty.st SN.term))) (m - x.2.1)).2=y.2.2/\(↑x.1:Int)+(1:Int)=(↑y.1:Int)/\t=t/\m=m/\(0:Int)=(0:Int)/\(0:Int)=(0:Int)/\t.parts=t.parts/\(↑(List.length t.parts):Int)=(↑(List.length t.parts):Int)/\t=t/\True else inR IntKind.i64 (x.2.2+(1:Int))/\True/\x.2.1=(countT t m).1/\x.2.2+(1:Int)=(countT t m).2/\True:=by
 have ln:=hs.term_parts.len
 rw [yh]
 refine ⟨⟨(0,1,0),⟨Nat.zero_le _,by decide,by show (1:Int)<=m+1;omega,by decide,by decide,rfl⟩,rfl,rfl,rfl,?_⟩,?_⟩
 ·exact Xr
 rintro ⟨k,a,d⟩ ⟨h1,h2,h3,h4,h5,h6⟩
 simp only [Int.toNat_natCast] at h1 h2 h3 h4 h5 h6 ⊢
 refine a8 (fun h=>?_) (fun h=>?_)
 ·replace h:=Xo h
  have hk:k < t.parts.length:=by omega
  rw [bf t.parts k (dfl (.st .term)) hk,countL] at h6
  refine ⟨by omega,a8 (fun c=>?_) (fun c=>?_)⟩
  ·replace c:=Xo c
   rw [if_pos c] at h6
   rw [←h6]
   refine ⟨bM (by omega) (by omega),?_⟩
   exact Xr
  ·replace c:¬m < a:=fun e=>c (Xd e)
   rw [if_neg c] at h6
   have hm:=rG (de t.parts k (dfl (.st .term)) hk)
   have he:=vt t
   have hb:=countT_bound (t.parts.getD k (dfl (.st .term))) (m - a) (by omega)
   refine ⟨bM (by omega) (by omega),⟨by omega,by omega,by omega⟩,bM (by omega) (by omega),bV hk ln,(k+1,_,_),⟨by show k+1<=_;omega,?_,?_,?_,?_,h6⟩,by show _ - (k+1) < _;omega,rfl,rfl,by show _=((k+1:Nat):Int);omega,?_⟩
   ·show (1:Int)<=a+_;omega
   ·show a+_<=m+1;omega
   ·show (0:Int)<=max d _;omega
   ·show max d _+1<=a+_;omega
   exact Xr
 ·replace h:¬((k:Int) < (t.parts.length:Int)):=fun e=>h (Xd e)
  have e:k=t.parts.length:=by omega
  subst e
  rw [List.drop_length,countL] at h6
  rw [←h6]
  refine ⟨bM (by omega) (by omega),?_⟩
  exact Xr
theorem vG  (x:Str)  :
  True/\(!aw x)=!aw x/\True:=by
 exact ⟨trivial,by trivial,trivial⟩
theorem vH  (l:List Str)  (hl:Wf (.lst .str) l) :
  (∃(x:Nat),(x<=List.length l/\aT aw (List.drop x l) x=aT aw l (0:Nat))/\(0:Int)=(↑x:Int)/\l=l/\(↑(List.length l):Int)=(↑(List.length l):Int)/\True)/\∀(x:Nat),x<=List.length l/\aT aw (List.drop x l) x=aT aw l (0:Nat)→if decide ((↑x:Int) < (↑(List.length l):Int))=true then ((0:Int)<=(↑x:Int)/\(↑x:Int) < (↑(List.length l):Int))/\if (!aw (List.getD l (Int.toNat (↑x:Int)) (dfl Ty.str)))=true then True/\(↑x:Int)=aT aw l (0:Nat)/\True else inR IntKind.i64 ((↑x:Int)+(1:Int))/\∃(y:Nat),(y<=List.length l/\aT aw (List.drop y l) y=aT aw l (0:Nat))/\List.length l - y < List.length l - x/\(↑x:Int)+(1:Int)=(↑y:Int)/\l=l/\(↑(List.length l):Int)=(↑(List.length l):Int)/\True else True/\(-1:Int)=aT aw l (0:Nat)/\True:=by
 have ln:=hl.len
 simp only [Int.toNat_natCast]
 refine ⟨⟨0,⟨Nat.zero_le _,by simp⟩,rfl,by trivial,by trivial,trivial⟩,?_⟩
 rintro k ⟨h1,h2⟩
 refine a8 (fun h=>?_) (fun h=>?_)
 ·replace h:=Xo h
  have hk:k < l.length:=by omega
  rw [bf l k (dfl .str) hk,aT] at h2
  refine ⟨by omega,a8 (fun c=>?_) (fun c=>?_)⟩
  ·have c:aw (l.getD k (dfl .str))=false:=by simpa using c
   rw [c,if_neg Bool.false_ne_true] at h2
   rw [←h2]
   exact ⟨trivial,rfl,trivial⟩
  ·have c:aw (l.getD k (dfl .str))=true:=by simpa using c
   rw [if_pos c] at h2
   refine ⟨bV hk ln,k+1,⟨by omega,h2⟩,by omega,by omega,by trivial,by trivial,trivial⟩
 ·replace h:¬((k:Int) < (l.length:Int)):=fun e=>h (Xd e)
  have e:k=l.length:=by omega
  subst e
  rw [List.drop_length,aT] at h2
  rw [←h2]
  exact ⟨trivial,rfl,trivial⟩
theorem vI  (l:List Str)  :
  True/\decide ((0:Int)<=aT aw l (0:Nat))=!List.all l aw/\True:=by
 exact ⟨trivial,ga aw l 0,trivial⟩
theorem AE  (l:List Str)  :
  True/\(!!List.all l aw)=List.all l aw/\True:=by
 exact ⟨trivial,Bool.not_not _,trivial⟩
theorem AF (l:List Str) (ho:l.length *16<=140737488355328) :
  List.length l *(16:Nat)<=(140737488355328:Nat)/\if List.all l aw=true then List.length (List.mergeSort l fun (x y:Str) ↦decide (x<=y))=List.length (List.mergeSort l fun (x y:Str) ↦decide (x<=y))/\True/\decide ((↑(List.length (Lib.compact (List.mergeSort l fun (x y:Str) ↦decide (x<=y)))):Int)=(↑(List.length l):Int))=(List.all l aw && decide (List.Nodup l))/\True else True/\false=(List.all l aw && decide (List.Nodup l))/\True:=by
 have hc:=fZ l
 unfold dO at hc
 refine ⟨ho,a8 (fun h=>?_) (fun h=>?_)⟩
 ·refine ⟨by trivial,trivial,?_,trivial⟩
  rw [h,Bool.true_and,decide_eq_decide,←hc]
  omega
 ·have h:l.all aw=false:=by simpa using h
  exact ⟨trivial,by rw [h];rfl,trivial⟩
theorem vJ (n:Nat) (x:Shape)  (ho:sz x<=n) :
  sz x<=n/\True/\(!allS b8 x)=!allS b8 x/\True:=by
 exact ⟨ho,trivial,by trivial,trivial⟩
theorem vK (n:Nat) (l:List Shape)  (hl:Wf (.lst (.st .shape)) l) (ho:∀x∈l,sz x<=n) :
  (∃(x:Nat),(x<=List.length l/\aT (allS b8) (List.drop x l) x=aT (allS b8) l (0:Nat))/\(0:Int)=(↑x:Int)/\l=l/\(↑(List.length l):Int)=(↑(List.length l):Int)/\True)/\∀(x:Nat),x<=List.length l/\aT (allS b8) (List.drop x l) x=aT (allS b8) l (0:Nat)→if decide ((↑x:Int) < (↑(List.length l):Int))=true then ((0:Int)<=(↑x:Int)/\(↑x:Int) < (↑(List.length l):Int))/\sz (List.getD l (Int.toNat (↑x:Int)) (dfl (Ty.st SN.shape)))<=n/\if (!allS b8 (List.getD l (Int.toNat (↑x:Int)) (dfl (Ty.st SN.shape))))=true then True/\(↑x:Int)=aT (allS b8) l (0:Nat)/\True else inR IntKind.i64 ((↑x:Int)+(1:Int))/\∃(y:Nat),(y<=List.length l/\aT (allS b8) (List.drop y l) y=aT (allS b8) l (0:Nat))/\List.length l - y < List.length l - x/\(↑x:Int)+(1:Int)=(↑y:Int)/\l=l/\(↑(List.length l):Int)=(↑(List.length l):Int)/\True else True/\(-1:Int)=aT (allS b8) l (0:Nat)/\True:=by
 have ln:=hl.len
 simp only [Int.toNat_natCast]
 refine ⟨⟨0,⟨Nat.zero_le _,by simp⟩,rfl,by trivial,by trivial,trivial⟩,?_⟩
 rintro k ⟨h1,h2⟩
 refine a8 (fun h=>?_) (fun h=>?_)
 ·replace h:=Xo h
  have hk:k < l.length:=by omega
  rw [bf l k (dfl (.st .shape)) hk,aT] at h2
  refine ⟨by omega,ho _ (de l k _ hk),a8 (fun c=>?_) (fun c=>?_)⟩
  ·have c:(allS b8) (l.getD k (dfl (.st .shape)))=false:=by simpa using c
   rw [c,if_neg Bool.false_ne_true] at h2
   rw [←h2]
   exact ⟨trivial,rfl,trivial⟩
  ·have c:(allS b8) (l.getD k (dfl (.st .shape)))=true:=by simpa using c
   rw [if_pos c] at h2
   refine ⟨bV hk ln,k+1,⟨by omega,h2⟩,by omega,by omega,by trivial,by trivial,trivial⟩
 ·replace h:¬((k:Int) < (l.length:Int)):=fun e=>h (Xd e)
  have e:k=l.length:=by omega
  subst e
  rw [List.drop_length,aT] at h2
  rw [←h2]
  exact ⟨trivial,rfl,trivial⟩
theorem vL (n:Nat) (l:List Shape)  (ho:∀x∈l,sz x<=n) :
  (∀(x:Shape),x∈l→sz x<=n)/\True/\decide ((0:Int)<=aT (allS b8) l (0:Nat))=!List.all l (allS b8)/\True:=by
 exact ⟨ho,trivial,ga (allS b8) l 0,trivial⟩
theorem AG (n:Nat) (l:List Shape)  (ho:∀x∈l,sz x<=n) :
  (∀(x:Shape),x∈l→sz x<=n)/\True/\(!!List.all l (allS b8))=List.all l (allS b8)/\True:=by
 exact ⟨ho,trivial,Bool.not_not _,trivial⟩
theorem Ce (n:Nat) (s:Shape) (ho:sz s<=n+1) :
  if (!decide (s.kind=(10:Int)))=true then (∀(x:Shape),x∈s.parts→sz x<=n)/\True/\List.all s.parts (allS b8)=allS b8 s/\True else True/\false=allS b8 s/\True:=by
 have e0:allS b8 s=(b8 s && s.parts.all (allS b8)):=by rw [rE,tg]
 have h0:=xa s
 have hm:∀x∈s.parts,sz x<=n:=fun x hx=>by have:=rD hx;omega
 rw [e0]
 refine a8 (fun h=>?_) (fun h=>?_)
 ·have h:b8 s=true:=h
  rw [h,Bool.true_and]
  exact ⟨hm,trivial,rfl,trivial⟩
 ·have h:b8 s=false:=by simpa [b8] using h
  rw [h]
  exact ⟨trivial,rfl,trivial⟩
theorem yC (s:Shape)  :
  if decide (dx s=(0:Int))=true then sz s<=(400:Nat)/\True/\allS b8 s=(decide (dx s=(0:Int)) && allS b8 s)/\True else True/\false=(decide (dx s=(0:Int)) && allS b8 s)/\True:=by
 refine a8 (fun h=>?_) (fun h=>?_)
 ·have h:dx s=0:=by simpa using h
  refine ⟨?_,trivial,by simp [h],trivial⟩
  unfold dx at h
  by_cases c:400 < sz s
  ·rw [if_pos c] at h;exact absurd h (by decide)
  ·omega
 ·have h:¬dx s=0:=by simpa using h
  exact ⟨trivial,by simp [h],trivial⟩
theorem Dm (t:Trm)  :
  True/\(↑(List.length t.names):Int)=(↑(List.length t.names):Int)/\(↑(List.length t.vars):Int)=(↑(List.length t.vars):Int)/\(↑(List.length t.shapes):Int)=(↑(List.length t.shapes):Int)/\(↑(List.length t.parts):Int)=(↑(List.length t.parts):Int)/\True:=by
 exact Xr
theorem AH (s:Str) (hs:Wf .str s) :
  (∃(x:Nat),(x<=List.length s/\List.all s ec=List.all (List.drop x s) ec)/\(0:Int)=(↑x:Int)/\s=s/\b6 s=b6 s/\(↑(List.length (b6 s)):Int)=(↑(List.length (b6 s)):Int)/\True)/\∀(x:Nat),x<=List.length s/\List.all s ec=List.all (List.drop x s) ec→if decide ((↑x:Int) < (↑(List.length (b6 s)):Int))=true then ((0:Int)<=(↑x:Int)/\(↑x:Int) < (↑(List.length (b6 s)):Int))/\if decide (List.getD (b6 s) (Int.toNat (↑x:Int)) (dfl (Ty.int IntKind.u8)) < (32:Int))=true then if (!decide (List.getD (b6 s) (Int.toNat (↑x:Int)) (dfl (Ty.int IntKind.u8))=(10:Int)))=true then if (!decide (List.getD (b6 s) (Int.toNat (↑x:Int)) (dfl (Ty.int IntKind.u8))=(9:Int)))=true then True/\false=oG s/\True else inR IntKind.i64 ((↑x:Int)+(1:Int))/\∃(y:Nat),(y<=List.length s/\List.all s ec=List.all (List.drop y s) ec)/\List.length s - y < List.length s - x/\(↑x:Int)+(1:Int)=(↑y:Int)/\s=s/\b6 s=b6 s/\(↑(List.length (b6 s)):Int)=(↑(List.length (b6 s)):Int)/\True else inR IntKind.i64 ((↑x:Int)+(1:Int))/\∃(y:Nat),(y<=List.length s/\List.all s ec=List.all (List.drop y s) ec)/\List.length s - y < List.length s - x/\(↑x:Int)+(1:Int)=(↑y:Int)/\s=s/\b6 s=b6 s/\(↑(List.length (b6 s)):Int)=(↑(List.length (b6 s)):Int)/\True else inR IntKind.i64 ((↑x:Int)+(1:Int))/\∃(y:Nat),(y<=List.length s/\List.all s ec=List.all (List.drop y s) ec)/\List.length s - y < List.length s - x/\(↑x:Int)+(1:Int)=(↑y:Int)/\s=s/\b6 s=b6 s/\(↑(List.length (b6 s)):Int)=(↑(List.length (b6 s)):Int)/\True else True/\Option.isNone (ow s)=oG s/\True:=by
 have ln:=hs.str
 have hbl:(b6 s).length=s.length:=List.length_map _
 simp only [hbl,Int.toNat_natCast]
 refine ⟨⟨0,⟨Nat.zero_le _,rfl⟩,?_⟩,?_⟩
 ·exact Xr
 rintro k ⟨h1,h2⟩
 refine a8 (fun h=>?_) (fun h=>?_)
 ·have hk:k < s.length:=by have:=Xo h;omega
  rw [bf s k 0 hk,List.all_cons] at h2
  have hq:=yp (s.getD k 0)
  simp only [tu s k hk]
  have yes:¬(bI (s.getD k 0) < 32/\bI (s.getD k 0)≠10/\bI (s.getD k 0)≠9)→s.all ec=(s.drop (k+1)).all ec:=fun e=>by
   have:ec (s.getD k 0)=true:=by
    cases hh:ec (s.getD k 0) with
    | true=>rfl
    | false=>exact absurd (hq.1 hh) e
   rw [h2,this,Bool.true_and]
  refine ⟨⟨by omega,by omega⟩,?_⟩
  repeat' (refine a8 (fun _=>?_) (fun _=>?_))
  all_goals (simp only [decide_eq_true_eq,Bool.not_eq_true',decide_eq_false_iff_not] at *)
  all_goals first
   | (refine ⟨trivial,?_,trivial⟩;unfold oG;rw [h2,hq.2 (by omega),Bool.false_and,Bool.false_and])
   | (refine ⟨bV hk ln,k+1,⟨by omega,yes (by omega)⟩,by omega,by omega,?_⟩;exact Xr)
 ·have hk:k=s.length:=by
   have:¬((k:Int) < (s.length:Int)):=fun e=>h (Xd e)
   omega
  refine ⟨trivial,?_,trivial⟩
  unfold oG
  rw [h2,hk,List.drop_length]
  rfl
theorem tD  (x:Shape)  :
  True/\(!(decide (dx x=(0:Int)) && allS b8 x))=!bP x/\True:=by
 exact ⟨trivial,by trivial,trivial⟩
theorem tE  (l:List Shape)  (hl:Wf (.lst (.st .shape)) l) :
  (∃(x:Nat),(x<=List.length l/\aT bP (List.drop x l) x=aT bP l (0:Nat))/\(0:Int)=(↑x:Int)/\l=l/\(↑(List.length l):Int)=(↑(List.length l):Int)/\True)/\∀(x:Nat),x<=List.length l/\aT bP (List.drop x l) x=aT bP l (0:Nat)→if decide ((↑x:Int) < (↑(List.length l):Int))=true then ((0:Int)<=(↑x:Int)/\(↑x:Int) < (↑(List.length l):Int))/\if (!bP (List.getD l (Int.toNat (↑x:Int)) (dfl (Ty.st SN.shape))))=true then True/\(↑x:Int)=aT bP l (0:Nat)/\True else inR IntKind.i64 ((↑x:Int)+(1:Int))/\∃(y:Nat),(y<=List.length l/\aT bP (List.drop y l) y=aT bP l (0:Nat))/\List.length l - y < List.length l - x/\(↑x:Int)+(1:Int)=(↑y:Int)/\l=l/\(↑(List.length l):Int)=(↑(List.length l):Int)/\True else True/\(-1:Int)=aT bP l (0:Nat)/\True:=by
 have ln:=hl.len
 simp only [Int.toNat_natCast]
 refine ⟨⟨0,⟨Nat.zero_le _,by simp⟩,rfl,by trivial,by trivial,trivial⟩,?_⟩
 rintro k ⟨h1,h2⟩
 refine a8 (fun h=>?_) (fun h=>?_)
 ·replace h:=Xo h
  have hk:k < l.length:=by omega
  rw [bf l k (dfl (.st .shape)) hk,aT] at h2
  refine ⟨by omega,a8 (fun c=>?_) (fun c=>?_)⟩
  ·have c:bP (l.getD k (dfl (.st .shape)))=false:=by simpa using c
   rw [c,if_neg Bool.false_ne_true] at h2
   rw [←h2]
   exact ⟨trivial,rfl,trivial⟩
  ·have c:bP (l.getD k (dfl (.st .shape)))=true:=by simpa using c
   rw [if_pos c] at h2
   refine ⟨bV hk ln,k+1,⟨by omega,h2⟩,by omega,by omega,by trivial,by trivial,trivial⟩
 ·replace h:¬((k:Int) < (l.length:Int)):=fun e=>h (Xd e)
  have e:k=l.length:=by omega
  subst e
  rw [List.drop_length,aT] at h2
  rw [←h2]
  exact ⟨trivial,rfl,trivial⟩
theorem tF  (l:List Shape)  :
  True/\decide ((0:Int)<=aT bP l (0:Nat))=!List.all l bP/\True:=by
 exact ⟨trivial,ga bP l 0,trivial⟩
theorem yD  (l:List Shape)  :
  True/\(!!List.all l bP)=List.all l bP/\True:=by
 exact ⟨trivial,Bool.not_not _,trivial⟩
theorem AI (t:Trm) (ht:Wf (.st .term) t) (ho:t.names.length<=8796093022208) :
  (if decide (t.pos < (0:Int))=true then true=!gp t/\t=t/\false=false/\t=t/\(↑(List.length t.names):Int)=(↑(List.length t.names):Int)/\(↑(List.length t.vars):Int)=(↑(List.length t.vars):Int)/\(↑(List.length t.shapes):Int)=(↑(List.length t.shapes):Int)/\(↑(List.length t.parts):Int)=(↑(List.length t.parts):Int)/\True else if (!decide (t.n=(0:Int)))=true then if (!decide (t.kind=(1:Int)))=true then true=!gp t/\t=t/\false=false/\t=t/\(↑(List.length t.names):Int)=(↑(List.length t.names):Int)/\(↑(List.length t.vars):Int)=(↑(List.length t.vars):Int)/\(↑(List.length t.shapes):Int)=(↑(List.length t.shapes):Int)/\(↑(List.length t.parts):Int)=(↑(List.length t.parts):Int)/\True else if (!decide (t.pkg=[]))=true then if (!decide (t.kind=(5:Int)))=true then true=!gp t/\t=t/\false=false/\t=t/\(↑(List.length t.names):Int)=(↑(List.length t.names):Int)/\(↑(List.length t.vars):Int)=(↑(List.length t.vars):Int)/\(↑(List.length t.shapes):Int)=(↑(List.length t.shapes):Int)/\(↑(List.length t.parts):Int)=(↑(List.length t.parts):Int)/\True else (!List.all t.shapes bP)=!gp t/\t=t/\false=false/\t=t/\(↑(List.length t.names):Int)=(↑(List.length t.names):Int)/\(↑(List.length t.vars):Int)=(↑(List.length t.vars):Int)/\(↑(List.length t.shapes):Int)=(↑(List.length t.shapes):Int)/\(↑(List.length t.parts):Int)=(↑(List.length t.parts):Int)/\True else (!List.all t.shapes bP)=!gp t/\t=t/\false=false/\t=t/\(↑(List.length t.names):Int)=(↑(List.length t.names):Int)/\(↑(List.length t.vars):Int)=(↑(List.length t.vars):Int)/\(↑(List.length t.shapes):Int)=(↑(List.length t.shapes):Int)/\(↑(List.length t.parts):Int)=(↑(List.length t.parts):Int)/\True else if (!decide (t.pkg=[]))=true then if (!decide (t.kind=(5:Int)))=true then true=!gp t/\t=t/\false=false/\t=t/\(↑(List.length t.names):Int)=(↑(List.length t.names):Int)/\(↑(List.length t.vars):Int)=(↑(List.length t.vars):Int)/\(↑(List.length t.shapes):Int)=(↑(List.length t.shapes):Int)/\(↑(List.length t.parts):Int)=(↑(List.length t.parts):Int)/\True else (!List.all t.shapes bP)=!gp t/\t=t/\false=false/\t=t/\(↑(List.length t.names):Int)=(↑(List.length t.names):Int)/\(↑(List.length t.vars):Int)=(↑(List.length t.vars):Int)/\(↑(List.length t.shapes):Int)=(↑(List.length t.shapes):Int)/\(↑(List.length t.parts):Int)=(↑(List.length t.parts):Int)/\True else (!List.all t.shapes bP)=!gp t/\t=t/\false=false/\t=t/\(↑(List.length t.names):Int)=(↑(List.length t.names):Int)/\(↑(List.length t.vars):Int)=(↑(List.length t.vars):Int)/\(↑(List.length t.shapes):Int)=(↑(List.length t.shapes):Int)/\(↑(List.length t.parts):Int)=(↑(List.length t.parts):Int)/\True)/\if (!gp t)=true then True/\false=au t/\True else if decide (t.kind=(1:Int))=true then if decide (t.name=[])=true then if decide ((0:Int)<=t.n)=true then if decide (t.n<=(999999999999999:Int))=true then True/\(decide ((↑(List.length t.names):Int)=(0:Int)) && (decide ((↑(List.length t.vars):Int)=(0:Int)) && (decide ((↑(List.length t.shapes):Int)=(0:Int)) && (decide ((↑(List.length t.parts):Int)=(0:Int)) && true))))=au t/\True else True/\false=au t/\True else True/\false=au t/\True else True/\false=au t/\True else if decide (t.kind=(2:Int))=true then if oG t.name=true then True/\(decide ((↑(List.length t.names):Int)=(0:Int)) && (decide ((↑(List.length t.vars):Int)=(0:Int)) && (decide ((↑(List.length t.shapes):Int)=(0:Int)) && (decide ((↑(List.length t.parts):Int)=(0:Int)) && true))))=au t/\True else True/\false=au t/\True else if decide (t.kind=(3:Int))=true
  then if decide (t.name=[])=true then True/\(decide ((↑(List.length t.names):Int)=(0:Int)) && (decide ((↑(List.length t.vars):Int)=(0:Int)) && (decide ((↑(List.length t.shapes):Int)=(0:Int)) && (decide ((↑(List.length t.parts):Int)=(0:Int)) && true))))=au t/\True else True/\false=au t/\True else if decide (t.kind=(4:Int))=true then if decide (t.name=[])=true then True/\(decide ((↑(List.length t.names):Int)=(0:Int)) && (decide ((↑(List.length t.vars):Int)=(0:Int)) && (decide ((↑(List.length t.shapes):Int)=(0:Int)) && (decide ((↑(List.length t.parts):Int)=(0:Int)) && true))))=au t/\True else True/\false=au t/\True else if decide (t.kind=(5:Int))=true then if aw t.name=true then if decide (t.pkg=[])=true then True/\(decide ((↑(List.length t.names):Int)=(0:Int)) && (decide ((↑(List.length t.vars):Int)=(0:Int)) && (decide ((↑(List.length t.shapes):Int)=(0:Int)) && (decide ((↑(List.length t.parts):Int)=(0:Int)) && true))))=au t/\True else if aw t.pkg=true then True/\(decide ((↑(List.length t.names):Int)=(0:Int)) && (decide ((↑(List.length t.vars):Int)=(0:Int)) && (decide ((↑(List.length t.shapes):Int)=(0:Int)) && (decide ((↑(List.length t.parts):Int)=(0:Int)) && true))))=au t/\True else True/\false=au t/\True else True/\false=au t/\True else if decide (t.kind=(6:Int))=true then if decide (t.name=[])=true then if decide ((↑(List.length t.names):Int)<=(4096:Int))=true then List.length t.names *(16:Nat)<=(140737488355328:Nat)/\if (List.all t.names aw && decide (List.Nodup t.names))=true then True/\(decide ((↑(List.length t.names):Int)=(↑(List.length t.names):Int)) && (decide ((↑(List.length t.vars):Int)=(0:Int)) && (decide ((↑(List.length t.shapes):Int)=(↑(List.length t.names):Int)) && (decide ((↑(List.length t.parts):Int)=(1:Int)) && true))))=au t/\True else True/\false=au t/\True else True/\false=au t/\True else True/\false=au t/\True else if decide (t.kind=(7:Int))=true then if decide (t.name=[])=true then if decide ((0:Int) < (↑(List.length t.parts):Int))=true then True/\(decide ((↑(List.length t.names):Int)=(0:Int)) && (decide ((↑(List.length t.vars):Int)=(0:Int)) && (decide ((↑(List.length t.shapes):Int)=(0:Int)) && (decide ((↑(List.length t.parts):Int)=(↑(List.length t.parts):Int)) && true))))=au t/\True else True/\false=au t/\True else True/\false=au t/\True else if decide (t.kind=(8:Int))=true then if decide (t.name=[])=true then List.length t.names *(16:Nat)<=(140737488355328:Nat)/\if (List.all t.names aw && decide (List.Nodup t.names))=true then True/\(decide ((↑(List.length t.names):Int)=(↑(List.length t.names):Int)) && (decide ((↑(List.length t.vars):Int)=(0:Int)) && (decide ((↑(List.length t.shapes):Int)=(0:Int)) && (decide ((↑(List.length t.parts):Int)=(↑(List.length t.names):Int)) && true))))=au t/\True else True/\false=au t/\True else True/\false=au t/\True else if decide (t.kind=(9:Int))=true then if aw t.name=true then True/\(decide ((↑(List.length t.names):Int)=(0:Int)) && (decide ((↑(List.length t.vars):Int)=(0:Int)) && (decide ((↑(List.length t.shapes):Int)=(0:Int)) && (decide ((↑(List.length t.parts):Int)=(1:Int)) && true))))=au t/\True else True/\false=au t/\True else if decide (t.kind=(10:Int))=true then if aw t.name=true then True/\(decide ((↑(List.length t.names):Int)=(0:Int)) && (decide ((↑(List.length t.vars):Int)=(0:Int)) && (decide ((↑(List.length t.shapes):Int)=(0:Int)) && (decide ((↑(List.length t.parts):Int)=(1:Int)) && true))))=au t/\True else True/\false=au t/\True else if decide (t.kind=(11:Int))=true
  then if decide (t.name=[])=true then True/\(decide ((↑(List.length t.names):Int)=(0:Int)) && (decide ((↑(List.length t.vars):Int)=(0:Int)) && (decide ((↑(List.length t.shapes):Int)=(1:Int)) && (decide ((↑(List.length t.parts):Int)=(↑(List.length t.parts):Int)) && true))))=au t/\True else True/\false=au t/\True else if decide (t.kind=(12:Int))=true then if decide (t.name=[])=true then True/\(decide ((↑(List.length t.names):Int)=(0:Int)) && (decide ((↑(List.length t.vars):Int)=(0:Int)) && (decide ((↑(List.length t.shapes):Int)=(1:Int)) && (decide ((↑(List.length t.parts):Int)=(3:Int)) && true))))=au t/\True else True/\false=au t/\True else if decide (t.kind=(13:Int))=true then if decide (t.name=[])=true then List.length t.names *(16:Nat)<=(140737488355328:Nat)/\if (List.all t.names aw && decide (List.Nodup t.names))=true then if List.all t.vars aw=true then inR IntKind.i64 ((↑(List.length t.names):Int)+(1:Int))/\inR IntKind.i64 ((↑(List.length t.names):Int)+(1:Int))/\True/\(decide ((↑(List.length t.names):Int)=(↑(List.length t.names):Int)) && (decide ((↑(List.length t.vars):Int)=(↑(List.length t.names):Int)) && (decide ((↑(List.length t.shapes):Int)=(↑(List.length t.names):Int)+(1:Int)) && (decide ((↑(List.length t.parts):Int)=(↑(List.length t.names):Int)+(1:Int)) && true))))=au t/\True else True/\false=au t/\True else True/\false=au t/\True else True/\false=au t/\True else if decide (t.kind=(14:Int))=true then if aw t.name=true then True/\(decide ((↑(List.length t.names):Int)=(0:Int)) && (decide ((↑(List.length t.vars):Int)=(0:Int)) && (decide ((↑(List.length t.shapes):Int)=(0:Int)) && (decide ((↑(List.length t.parts):Int)=(2:Int)) && true))))=au t/\True else True/\false=au t/\True else if decide (t.kind=(15:Int))=true then if decide (t.name=[])=true then True/\(decide ((↑(List.length t.names):Int)=(0:Int)) && (decide ((↑(List.length t.vars):Int)=(0:Int)) && (decide ((↑(List.length t.shapes):Int)=(1:Int)) && (decide ((↑(List.length t.parts):Int)=(1:Int)) && true))))=au t/\True else True/\false=au t/\True else if decide (t.kind=(16:Int))=true then if cU t.name=true then True/\(decide ((↑(List.length t.names):Int)=(0:Int)) && (decide ((↑(List.length t.vars):Int)=(0:Int)) && (decide ((↑(List.length t.shapes):Int)=(0:Int)) && (decide ((↑(List.length t.parts):Int)=(1:Int)) && true))))=au t/\True else True/\false=au t/\True else if decide (t.kind=(17:Int))=true then if cU t.name=true then True/\(decide ((↑(List.length t.names):Int)=(0:Int)) && (decide ((↑(List.length t.vars):Int)=(0:Int)) && (decide ((↑(List.length t.shapes):Int)=(0:Int)) && (decide ((↑(List.length t.parts):Int)=(1:Int)) && true))))=au t/\True else True/\false=au t/\True else True/\false=au t/\True:=by
 refine ⟨?_,a8 (fun h=>?_) (fun h=>?_)⟩
 ·unfold gp
  repeat' (refine a8 (fun _=>?_) (fun _=>?_))
  all_goals simp_all
 ·have h:gp t=false:=by simpa using h
  unfold au
  rw [h]
  exact ⟨trivial,rfl,trivial⟩
 have h:gp t=true:=by simpa using h
 have e0:au t=Af t:=by unfold au;rw [h,Bool.true_and]
 rw [e0]
 clear h e0
 unfold Af gd fj
 simp only [dnZ,dn1,dn2,dn3,dnN,dnS,dnL,dnP]
 generalize t.names.all aw=na
 generalize t.vars.all aw=va
 repeat' (first | refine a8 (fun _=>?_) (fun _=>?_) | refine ⟨by omega,?_⟩ | refine ⟨bM (by omega) (by omega),?_⟩ | fail)
 all_goals (refine ⟨trivial,?_,trivial⟩;try simp_all)
 all_goals first | (simp only [Bool.and_assoc];done) | (intros;omega)
theorem tG (n:Nat) (x:Trm)  (ho:szT x<=n/\bj x=true) :
  (szT x<=n/\bj x=true)/\True/\(!allT au x)=!allT au x/\True:=by
 exact ⟨ho,trivial,by trivial,trivial⟩
theorem tH (n:Nat) (l:List Trm)  (hl:Wf (.lst (.st .term)) l) (ho:∀x∈l,szT x<=n/\bj x=true) :
  (∃(x:Nat),(x<=List.length l/\aT (allT au) (List.drop x l) x=aT (allT au) l (0:Nat))/\(0:Int)=(↑x:Int)/\l=l/\(↑(List.length l):Int)=(↑(List.length l):Int)/\True)/\∀(x:Nat),x<=List.length l/\aT (allT au) (List.drop x l) x=aT (allT au) l (0:Nat)→if decide ((↑x:Int) < (↑(List.length l):Int))=true then ((0:Int)<=(↑x:Int)/\(↑x:Int) < (↑(List.length l):Int))/\(szT (List.getD l (Int.toNat (↑x:Int)) (dfl (Ty.st SN.term)))<=n/\bj (List.getD l (Int.toNat (↑x:Int)) (dfl (Ty.st SN.term)))=true)/\if (!allT au (List.getD l (Int.toNat (↑x:Int)) (dfl (Ty.st SN.term))))=true then True/\(↑x:Int)=aT (allT au) l (0:Nat)/\True else inR IntKind.i64 ((↑x:Int)+(1:Int))/\∃(y:Nat),(y<=List.length l/\aT (allT au) (List.drop y l) y=aT (allT au) l (0:Nat))/\List.length l - y < List.length l - x/\(↑x:Int)+(1:Int)=(↑y:Int)/\l=l/\(↑(List.length l):Int)=(↑(List.length l):Int)/\True else True/\(-1:Int)=aT (allT au) l (0:Nat)/\True:=by
 have ln:=hl.len
 simp only [Int.toNat_natCast]
 refine ⟨⟨0,⟨Nat.zero_le _,by simp⟩,rfl,by trivial,by trivial,trivial⟩,?_⟩
 rintro k ⟨h1,h2⟩
 refine a8 (fun h=>?_) (fun h=>?_)
 ·replace h:=Xo h
  have hk:k < l.length:=by omega
  rw [bf l k (dfl (.st .term)) hk,aT] at h2
  refine ⟨by omega,ho _ (de l k _ hk),a8 (fun c=>?_) (fun c=>?_)⟩
  ·have c:(allT au) (l.getD k (dfl (.st .term)))=false:=by simpa using c
   rw [c,if_neg Bool.false_ne_true] at h2
   rw [←h2]
   exact ⟨trivial,rfl,trivial⟩
  ·have c:(allT au) (l.getD k (dfl (.st .term)))=true:=by simpa using c
   rw [if_pos c] at h2
   refine ⟨bV hk ln,k+1,⟨by omega,h2⟩,by omega,by omega,by trivial,by trivial,trivial⟩
 ·replace h:¬((k:Int) < (l.length:Int)):=fun e=>h (Xd e)
  have e:k=l.length:=by omega
  subst e
  rw [List.drop_length,aT] at h2
  rw [←h2]
  exact ⟨trivial,rfl,trivial⟩
theorem tI (n:Nat) (l:List Trm)  (ho:∀x∈l,szT x<=n/\bj x=true) :
  (∀(x:Trm),x∈l→szT x<=n/\bj x=true)/\True/\decide ((0:Int)<=aT (allT au) l (0:Nat))=!List.all l (allT au)/\True:=by
 exact ⟨ho,trivial,ga (allT au) l 0,trivial⟩
theorem yE (n:Nat) (l:List Trm)  (ho:∀x∈l,szT x<=n/\bj x=true) :
  (∀(x:Trm),x∈l→szT x<=n/\bj x=true)/\True/\(!!List.all l (allT au))=List.all l (allT au)/\True:=by
 exact ⟨ho,trivial,Bool.not_not _,trivial⟩
theorem yF (n:Nat) (t:Trm) (ho:szT t<=n+1/\bj t=true) :
  List.length t.names<=(8796093022208:Nat)/\if au t=true then (∀(x:Trm),x∈t.parts→szT x<=n/\bj x=true)/\True/\List.all t.parts (allT au)=allT au t/\True else True/\false=allT au t/\True:=by
 obtain ⟨h1,h2⟩:=ho
 have e0:allT au t=(au t && t.parts.all (allT au)):=by rw [n5,jK]
 have h0:=vt t
 rw [e0]
 refine ⟨vw h2,a8 (fun h=>?_) (fun h=>?_)⟩
 ·rw [h,Bool.true_and]
  exact ⟨fun x hx=>⟨by have:=rG hx;omega,yo h2 hx⟩,trivial,rfl,trivial⟩
 ·have h:au t=false:=by simpa using h
  rw [h]
  exact ⟨trivial,rfl,trivial⟩
theorem yG (x:Trm) (ho:bj x=true) :
  (szT x<=szT x/\(0:Int)<=(4096:Int)/\(4096:Int)<=(1000000:Int))/\if decide ((4096:Int) < (countT x (4096:Int)).1)=true then True/\(3:Int)=bG x/\True else if decide ((40:Int) < (countT x (4096:Int)).2)=true then True/\(91:Int)=bG x/\True else (szT x<=szT x/\bj x=true)/\if (!allT au x)=true then True/\(80:Int)=bG x/\True else True/\(0:Int)=bG x/\True:=by
 refine ⟨⟨Nat.le_refl _,by omega,by omega⟩,a8 (fun h=>?_) (fun h=>?_)⟩
 ·replace h:=Xo h
  unfold bG
  rw [if_pos h]
  exact ⟨trivial,rfl,trivial⟩
 have h:¬_:=fun e=>h (Xd e)
 have e1:bG x=if 40 < (countT x 4096).2 then 91 else if allT au x=true then 0 else 80:=by unfold bG;rw [if_neg h]
 refine a8 (fun k=>?_) (fun k=>?_)
 ·rw [if_pos (Xo k)] at e1
  rw [e1]
  exact ⟨trivial,rfl,trivial⟩
 rw [if_neg (fun e=>k (Xd e))] at e1
 refine ⟨⟨Nat.le_refl _,ho⟩,a8 (fun j=>?_) (fun j=>?_)⟩
 ·have j:allT au x=false:=by simpa using j
  rw [j,if_neg Bool.false_ne_true] at e1
  rw [e1]
  exact ⟨trivial,rfl,trivial⟩
 ·have j:allT au x=true:=by simpa using j
  rw [if_pos j] at e1
  rw [e1]
  exact ⟨trivial,rfl,trivial⟩
theorem AJ (n:Nat) (v:Vlu) (l c:Int) (hs:Wf (.st .val) v) (hn:szV v<=n+1) (hc:0<=c/\c<=2000/\1<=l/\l<=c+1) :
  inR IntKind.i64 (c+(1:Int))/\if decide ((2000:Int) < c+(1:Int))=true then decide ((2000:Int) < c+(↑(szV v):Int))=true/\c+(1:Int)=(2001:Int)/\True else (∃(x:Nat × Int),(x.1<=List.length v.parts/\c+(1:Int)+(↑(szVL (List.take x.1 v.parts)):Int)<=(2000:Int)/\deepVL (List.drop x.1 v.parts) (l+(1:Int)) x.2=deepV v l)/\l=x.2/\(0:Int)=(↑x.1:Int)/\v=v/\l=l/\(0:Int)=(0:Int)/\false=false/\v.parts=v.parts/\(↑(List.length v.parts):Int)=(↑(List.length v.parts):Int)/\c+(1:Int)=c+(1:Int)+(↑(szVL (List.take x.1 v.parts)):Int)/\v=v/\True)/\∀(x:Nat × Int),x.1<=List.length v.parts/\c+(1:Int)+(↑(szVL (List.take x.1 v.parts)):Int)<=(2000:Int)/\deepVL (List.drop x.1 v.parts) (l+(1:Int)) x.2=deepV v l→if decide ((↑x.1:Int) < (↑(List.length v.parts):Int))=true then ((0:Int)<=(↑x.1:Int)/\(↑x.1:Int) < (↑(List.length v.parts):Int))/\inR IntKind.i64 (l+(1:Int))/\(szV (List.getD v.parts (Int.toNat (↑x.1:Int)) (dfl (Ty.st SN.val)))<=n/\(0:Int)<=c+(1:Int)+(↑(szVL (List.take x.1 v.parts)):Int)/\c+(1:Int)+(↑(szVL (List.take x.1 v.parts)):Int)<=(2000:Int)/\(1:Int)<=l+(1:Int)/\l+(1:Int)<=c+(1:Int)+(↑(szVL (List.take x.1 v.parts)):Int)+(1:Int))/\if decide ((2000:Int) < c+(1:Int)+(↑(szVL (List.take x.1 v.parts)):Int)+(↑(szV (List.getD v.parts (Int.toNat (↑x.1:Int)) (dfl (Ty.st SN.val)))):Int))=true then decide ((2000:Int) < c+(↑(szV v):Int))=true/\(2001:Int)=(2001:Int)/\True else inR IntKind.i64 ((↑x.1:Int)+(1:Int))/\∃(y:Nat × Int),(y.1<=List.length v.parts/\c+(1:Int)+(↑(szVL (List.take y.1 v.parts)):Int)<=(2000:Int)/\deepVL (List.drop y.1 v.parts) (l+(1:Int)) y.2=deepV v l)/\List.length v.parts - y.1 < List.length v.parts - x.1/\max x.2 (deepV (List.getD v.parts (Int.toNat (↑x.1:Int)) (dfl (Ty.st SN.val))) (l+(1:Int)))=y.2/\(↑x.1:Int)+(1:Int)=(↑y.1:Int)/\v=v/\l=l/\(0:Int)=(0:Int)/\false=false/\v.parts=v.parts/\(↑(List.length v.parts):Int)=(↑(List.length v.parts):Int)/\c+(1:Int)+(↑(szVL (List.take x.1 v.parts)):Int)+(↑(szV (List.getD v.parts (Int.toNat (↑x.1:Int)) (dfl (Ty.st SN.val)))):Int)=c+(1:Int)+(↑(szVL (List.take y.1 v.parts)):Int)/\v=v/\True else decide ((2000:Int) < c+(↑(szV v):Int))=false/\x.2=deepV v l/\c+(1:Int)+(↑(szVL (List.take x.1 v.parts)):Int)=c+(↑(szV v):Int)/\True:=by
 have ln:=hs.val_parts.len
 have hz:=jo v
 refine ⟨bM (by omega) (by omega),a8 (fun h=>?_) (fun h=>?_)⟩
 ·replace h:=Xo h
  have:=fx v
  exact ⟨Xd (by omega),by omega,by trivial⟩
 replace h:¬(2000:Int) < c+1:=fun e=>h (Xd e)
 have hd0:deepVL v.parts (l+1) l=deepV v l:=by cases v;rfl
 refine ⟨⟨(0,l),⟨Nat.zero_le _,by simp [szVL];omega,by simpa using hd0⟩,rfl,rfl,rfl,by simp [szVL],by repeat' (first | exact trivial | rfl | (show _=c+1+((szVL (List.take 0 v.parts):Nat):Int);simp only [List.take_zero,szVL];omega) | apply And.intro)⟩,?_⟩
 rintro ⟨k,d⟩ ⟨h1,h2,h3⟩
 simp only [Int.toNat_natCast] at h1 h2 h3 ⊢
 have hc0:(0:Int)<=(szVL (v.parts.take k):Int):=by omega
 refine a8 (fun hk=>?_) (fun hk=>?_)
 ·replace hk:=Xo hk
  have hk:k < v.parts.length:=by omega
  have hs1:=jq v.parts k (dfl (.st .val)) hk
  have hm:=gq (de v.parts k (dfl (.st .val)) hk)
  rw [bf v.parts k (dfl (.st .val)) hk] at h3
  simp only [deepVL] at h3
  have ht:=rN v.parts (k+1)
  refine ⟨by omega,bM (by omega) (by omega),⟨by omega,by omega,h2,by omega,by omega⟩,a8 (fun h=>?_) (fun h=>?_)⟩
  ·replace h:=Xo h
   exact ⟨Xd (by omega),by repeat' (first | exact trivial | rfl | apply And.intro)⟩
  ·replace h:=fun e=>h (Xd e)
   replace h:¬(2000:Int) < c+1+(szVL (v.parts.take k):Int)+(szV (v.parts.getD k (dfl (.st .val))):Int):=h
   exact ⟨bV hk ln,(k+1,_),⟨by omega,by simp only;omega,h3⟩,by simp only;omega,by repeat' (first | exact trivial | rfl | (simp only;omega) | omega | apply And.intro)⟩
 ·replace hk:¬((k:Int) < (v.parts.length:Int)):=fun e=>hk (Xd e)
  have e:k=v.parts.length:=by omega
  subst e
  rw [List.take_length] at h2 ⊢
  rw [List.drop_length] at h3
  exact ⟨Xf (by omega),h3,by omega,trivial⟩
theorem yH (v:Vlu) (hs:Wf (.st .val) v) :
  (szV v<=szV v/\(0:Int)<=(0:Int)/\(0:Int)<=(2000:Int)/\(1:Int)<=(1:Int)/\(1:Int)<=(0:Int)+(1:Int))/\if decide ((2000:Int) < (0:Int)+(↑(szV v):Int))=true then ((2001:Int)=if szV v<=(2000:Nat) then (↑(szV v):Int) else (2001:Int))/\((0:Int)=if szV v<=(2000:Nat) then deepV v (1:Int) else (0:Int))/\false=decide (szV v<=(2000:Nat))/\True else ((0:Int)+(↑(szV v):Int)=if szV v<=(2000:Nat) then (↑(szV v):Int) else (2001:Int))/\(deepV v (1:Int)=if szV v<=(2000:Nat) then deepV v (1:Int) else (0:Int))/\true=decide (szV v<=(2000:Nat))/\True:=by
 refine ⟨by simp,a8 (fun h=>?_) (fun h=>?_)⟩
 ·replace h:=Xo h
  have h':¬szV v<=2000:=by omega
  rw [if_neg h',if_neg h']
  exact ⟨rfl,rfl,by simp [h'],trivial⟩
 ·replace h:¬(2000:Int) < 0+(szV v:Int):=fun e=>h (Xd e)
  have h':szV v<=2000:=by omega
  rw [if_pos h',if_pos h']
  exact ⟨by omega,by trivial,by simp [h'],trivial⟩
theorem vM  (x:Str)  :
  True/\(!aw x)=!aw x/\True:=by
 exact ⟨trivial,by trivial,trivial⟩
theorem vN  (l:List Str)  (hl:Wf (.lst .str) l) :
  (∃(x:Nat),(x<=List.length l/\aT aw (List.drop x l) x=aT aw l (0:Nat))/\(0:Int)=(↑x:Int)/\l=l/\(↑(List.length l):Int)=(↑(List.length l):Int)/\True)/\∀(x:Nat),x<=List.length l/\aT aw (List.drop x l) x=aT aw l (0:Nat)→if decide ((↑x:Int) < (↑(List.length l):Int))=true then ((0:Int)<=(↑x:Int)/\(↑x:Int) < (↑(List.length l):Int))/\if (!aw (List.getD l (Int.toNat (↑x:Int)) (dfl Ty.str)))=true then True/\(↑x:Int)=aT aw l (0:Nat)/\True else inR IntKind.i64 ((↑x:Int)+(1:Int))/\∃(y:Nat),(y<=List.length l/\aT aw (List.drop y l) y=aT aw l (0:Nat))/\List.length l - y < List.length l - x/\(↑x:Int)+(1:Int)=(↑y:Int)/\l=l/\(↑(List.length l):Int)=(↑(List.length l):Int)/\True else True/\(-1:Int)=aT aw l (0:Nat)/\True:=by
 have ln:=hl.len
 simp only [Int.toNat_natCast]
 refine ⟨⟨0,⟨Nat.zero_le _,by simp⟩,rfl,by trivial,by trivial,trivial⟩,?_⟩
 rintro k ⟨h1,h2⟩
 refine a8 (fun h=>?_) (fun h=>?_)
 ·replace h:=Xo h
  have hk:k < l.length:=by omega
  rw [bf l k (dfl .str) hk,aT] at h2
  refine ⟨by omega,a8 (fun c=>?_) (fun c=>?_)⟩
  ·have c:aw (l.getD k (dfl .str))=false:=by simpa using c
   rw [c,if_neg Bool.false_ne_true] at h2
   rw [←h2]
   exact ⟨trivial,rfl,trivial⟩
  ·have c:aw (l.getD k (dfl .str))=true:=by simpa using c
   rw [if_pos c] at h2
   refine ⟨bV hk ln,k+1,⟨by omega,h2⟩,by omega,by omega,by trivial,by trivial,trivial⟩
 ·replace h:¬((k:Int) < (l.length:Int)):=fun e=>h (Xd e)
  have e:k=l.length:=by omega
  subst e
  rw [List.drop_length,aT] at h2
  rw [←h2]
  exact ⟨trivial,rfl,trivial⟩
theorem vO  (l:List Str)  :
  True/\decide ((0:Int)<=aT aw l (0:Nat))=!List.all l aw/\True:=by
 exact ⟨trivial,ga aw l 0,trivial⟩
theorem AK  (l:List Str)  :
  True/\(!!List.all l aw)=List.all l aw/\True:=by
 exact ⟨trivial,Bool.not_not _,trivial⟩
theorem yI (l:List Str) (ho:l.length *16<=140737488355328) :
  List.length l *(16:Nat)<=(140737488355328:Nat)/\if List.all l aw=true then List.length (List.mergeSort l fun (x y:Str) ↦decide (x<=y))=List.length (List.mergeSort l fun (x y:Str) ↦decide (x<=y))/\True/\decide ((↑(List.length (Lib.compact (List.mergeSort l fun (x y:Str) ↦decide (x<=y)))):Int)=(↑(List.length l):Int))=fj l/\True else True/\false=fj l/\True:=by
 have hc:=fZ l
 unfold dO at hc
 unfold fj
 refine ⟨ho,a8 (fun h=>?_) (fun h=>?_)⟩
 ·refine ⟨by trivial,trivial,?_,trivial⟩
  rw [h,Bool.true_and,decide_eq_decide,←hc]
  omega
 ·have h:l.all aw=false:=by simpa using h
  exact ⟨trivial,by rw [h];rfl,trivial⟩
end Go.AL.Seat
end
