/- Plain facts. The layer: Go code as conditions, and that they are sound. No condition. -/
import Derived.Test.YtkecedofomlppaaGreatDoorT03
import Derived.Deep.DeepWitnessRowRef
import Derived.KernelRfl
import Derived.Lib.AppendIntMem
import Derived.Lib.AtoiErrMem
import Derived.Lib.Bytealg
import Derived.Lib.DecodeN
import Derived.Lib.LaidIn
import Derived.Lib.LaidU8T
import Derived.LoopIn
import Derived.LoopNIn
import Derived.OwnWalkIn
import Derived.PinnedBridge
import Derived.ProofKit
import Derived.RangeFuncBox
import Derived.RangeFuncLeaves
import Derived.Shelf.SlIter.Sorted
import Derived.Shelf.Slices.CompactS
import Derived.Shelf.Small.Strs
import Derived.Shelf.Sort.Plain
import Derived.Shelf.Strconv.Atoi
import Derived.Shelf.Strconv.Itoa3
import Derived.Shelf.Strings.BuilderF
import Derived.Shelf.Strings.Cut
import Derived.Shelf.Strings.OnBuilder
import Derived.Shelf.Strings.Search3
import Derived.Shelf.Strings.SlTrimAscii
import Derived.Shelf.Strings.Split
import Derived.Shelf.Unicode.DecodeAny
import Derived.Shelf.Unicode.ValidAny
import Derived.Shelf.Vars
import Derived.Sort.Walk0
import Derived.TacticsInMore
import Derived.Test.YtkecedofomlppaaGreatDoorCards
import Derived.Test.YtkecedofomlppaaGreatDoorProg
import Derived.Test.YtkecedofomlppaaGreatDoorTie
import Derived.WalkKit
set_option linter.all false
set_option maxRecDepth 100000
section
namespace Go.Pd
open Go.AL
def lU (t:Str):Prop:=t≠[]/\t.length<=15/\∀c∈t,48<=c.toNat/\c.toNat<=57
def Nums (l:List Tokn):Prop:=∀t∈l,t.kind=3→lU t.text
def GY (s:Par):Prop:=0<=s.pos/\s.pos<=(s.toks.length:Int)/\s.toks.length<=4097/\Nums s.toks
def rem (s:Par):Nat:=if s.err=0 then ((s.toks.length:Int) - s.pos).toNat+1 else 0
structure Goes (s s':Par):Prop where
 good:GY s'
 toks:s'.toks=s.toks
 le:rem s'<=rem s
 cap:∀q:Int,(Hy s.toks q).kind=0→s.pos<=q→s'.pos<=q
def Eats (s s':Par):Prop:=rem s' < rem s∨rem s'=0
end Go.Pd
end
section
namespace Go.AL
open Go.Proofs Go.Shelf Go.RowKit Go.Pd
theorem nA:∀(l:Str) (acc:Nat),(∀c∈l,48<=c.toNat/\c.toNat<=57)→∃m:Nat,Lib.decFrom acc l=some m/\(m:Int)=l.foldl (fun n c=>10 *n+((c.toNat:Int) - 48)) (acc:Int)/\m < (acc+1) *10 ^ l.length
 | [],acc,_=>⟨acc,rfl,rfl,by simp⟩
 | c ::r,acc,h=>by
  obtain ⟨h1,h2⟩:=h c (List.mem_cons_self ..)
  obtain ⟨m,e1,e2,e3⟩:=nA r (acc *10+(c.toNat - 48)) (fun d hd=>h d (List.mem_cons_of_mem _ hd))
  refine ⟨m,?_,?_,?_⟩
  ·simp only [Lib.decFrom,Lib.digitVal,h1,h2,and_self,if_true];exact e1
  ·rw [e2,List.foldl_cons]
   congr 1
   omega
  ·refine Nat.lt_of_lt_of_le e3 ?_
   rw [List.length_cons,Nat.pow_succ,←Nat.mul_assoc,Nat.mul_right_comm]
   exact Nat.mul_le_mul_right _ (by omega)
theorem DB {t:Str} (h:lU t):Lib.atoi t=some (kE t)/\0<=kE t/\kE t < 1000000000000000:=by
 obtain ⟨h1,h2,h3⟩:=h
 obtain ⟨m,e1,e2,e3⟩:=nA t 0 h3
 have e4:(m:Int)=kE t:=e2
 refine ⟨?_,by omega,?_⟩
 ·cases t with
  | nil=>exact absurd rfl h1
  | cons c r=>
   have hc:=h3 c (List.mem_cons_self ..)
   have n1:(c ==45)=false:=by rw [beq_eq_false_iff_ne];rintro rfl;simp at hc
   have n2:(c ==43)=false:=by rw [beq_eq_false_iff_ne];rintro rfl;simp at hc
   simp only [Lib.atoi,n1,n2,Bool.false_eq_true,if_false,Lib.decNat,List.isEmpty_cons,e1,Option.map_some,e4]
 ·have:m < 10 ^ t.length:=by simpa using e3
  have h10:10 ^ t.length<=10 ^ 15:=Nat.pow_le_pow_right (by decide) h2
  have:m < 1000000000000000:=Nat.lt_of_lt_of_le this h10
  omega
variable [Tabs] {P:Program} {ρ:Ren}
theorem After.below {w w':World} {pub:Nat→Nat→Prop} {e:Nat→Option CObj} (hp:ic w pub) (hd:∀id,e id=none) (hb:Below w.heap.size w w'):After w pub e (ak (bU [] [])) w' pub e where
 os:=hb.os
 tape:=hb.tape
 output:=hb.output
 size:=hb.size
 block b h _:=hb.block b h
 cell b o h _:=ah (hb.block b h) o
 kind b h _:=⟨aR (hb.block b h),fun o=>aK (hb.block b h) o⟩
 ext:=⟨fun _ c h=>⟨c,h,CLe.refl c⟩,fun _ _ h=>h,fun b o h=>by obtain ⟨v,hv⟩:=hp b o h;exact ah (hb.block b (aE hv)) o⟩
 fresh b o h:=.inl h
 ok b o h:=by obtain ⟨v,hv⟩:=hp b o h;exact ⟨v,(ah (hb.block b (aE hv)) o).trans hv⟩
 slots id o h:=by simp [bU,aM,aF] at h
 dom id _:=hd id
 inj i j c d b o h:=by rw [hd i] at h;cases h
theorem xO (L:Lays.n172 P ρ) (t:Str) (h:lU t):aw P (ρ.f 172) [.str t] [] ⟨some (lU t),none,.tup [.int .i64 (kE t),.nilif],[]⟩:=by
 intro w pub e vs hp ht hv hs hd hi
 obtain ⟨v,rfl,h1⟩:=VL.one_inv hv
 obtain ⟨rfl,hl⟩:=h1.str_inv
 obtain ⟨a1,a2,a3⟩:=DB h
 refine (Any.strconv_Atoi L ⟨t.toArray⟩ (kE t) (by have:=h.2.1;show t.toArray.size<=18;simp;omega) (by simpa using a1) w).mono ?_
 rintro en w' ⟨rfl,ty,rfl⟩
 refine ⟨pub,e,?_⟩
 refine And.intro (fun b pv u h=>by cases h) (And.intro ?_ (After.below hp (fun id=>hd id rfl) (Lib.bytesWorld_below w _ _)))
 have b1:inR .i64 (kE t):=aJ (by omega) (by omega)
 exact V.of_tup (VL.cons (.int _ _ b1.1 b1.2) (VL.cons .nilif .nil))
def FM:Pat:=p1 .str fun t=>⟨some (lU t),none,.tup [.int .i64 (kE t),.nilif],[]⟩
theorem xP {f:Nat} (L:Lays.n172 P ρ) (hf:ρ.f 172=f) (he:an P f):ag P f FM:=by
 subst hf
 exact ax he fun t _ ho=>xO L t (ho _ rfl)
end Go.AL
end
section
namespace Go.Pd
open Go.AL
structure Moves (s s':Par):Prop where
 goes:Goes s s'
 eats:Eats s s'
end Go.Pd
end
section
namespace Go.Pd
open Go.AL
mutual
def szT:Trm→Nat
 | ⟨_,_,_,_,_,_,_,ps,_⟩=>szTL ps+1
def szTL:List Trm→Nat
 | []=>0
 | p ::r=>szT p+szTL r
end
mutual
def countT:Trm→Int→Int × Int
 | ⟨_,_,_,_,_,_,_,ps,_⟩,m=>((countL ps m 1 0).1,(countL ps m 1 0).2+1)
def countL:List Trm→Int→Int→Int→Int × Int
 | [],_,n,d=>(n,d)
 | p ::r,m,n,d=>if m < n then (n,d) else countL r m (n+(countT p (m - n)).1) (max d (countT p (m - n)).2)
end
theorem Bp (t:Trm) (m:Int):countT t m=((countL t.parts m 1 0).1,(countL t.parts m 1 0).2+1):=by cases t;rw [countT]
theorem eD (t:Trm):szT t=szTL t.parts+1:=by cases t;rw [szT]
theorem dh (t:Trm):1<=szT t:=by rw [eD];omega
mutual
theorem countT_bound:∀(t:Trm) (m:Int),0<=m→1<=(countT t m).1/\(countT t m).1<=m+1/\1<=(countT t m).2/\(countT t m).2<=(countT t m).1
 | ⟨k,g,q,z,ns,vs,ss,ps,pp⟩,m,hm=>by
  have h:=countL_bound ps m 1 0 (by omega) (by omega) (by omega) (by omega)
  rw [countT]
  exact ⟨h.1,h.2.1,by show 1<=(countL ps m 1 0).2+1;omega,by show (countL ps m 1 0).2+1<=_;omega⟩
theorem countL_bound:∀(l:List Trm) (m n d:Int),1<=n→n<=m+1→0<=d→d+1<=n→1<=(countL l m n d).1/\(countL l m n d).1<=m+1/\0<=(countL l m n d).2/\(countL l m n d).2+1<=(countL l m n d).1
 | [],m,n,d,h1,h2,h3,h4=>by rw [countL];exact ⟨h1,h2,h3,h4⟩
 | p ::r,m,n,d,h1,h2,h3,h4=>by
  rw [countL]
  split
  ·exact ⟨h1,h2,h3,h4⟩
  ·have h:=countT_bound p (m - n) (by omega)
   exact countL_bound r m _ _ (by omega) (by omega) (by omega) (by omega)
end
theorem dI:∀{l:List Trm} {t:Trm},t∈l→szT t<=szTL l
 | p ::r,t,h=>by
  rw [szTL]
  rcases List.mem_cons.1 h with e | e
  ·subst e;omega
  ·have:=dI e;omega
def bd {α:Type} (F:α→Bool):List α→Nat→Int
 | [],_=>-1
 | x ::r,k=>if F x=true then bd F r (k+1) else (k:Int)
theorem im {α:Type} (F:α→Bool):∀(l:List α) (k:Nat),decide (0<=bd F l k)=!l.all F
 | [],_=>rfl
 | x ::r,k=>by
  rw [bd,List.all_cons]
  by_cases h:F x=true
  ·rw [if_pos h,im F r (k+1),h];rfl
  ·rw [if_neg h]
   have:F x=false:=by simpa using h
   rw [this]
   simp
def aj (s:Shape):Bool:=!decide (s.kind=10)
theorem gA (f:Shape→Bool):∀l:List Shape,allL f l=l.all (allS f)
 | []=>rfl
 | p ::r=>by rw [List.all_cons,←gA f r];rfl
end Go.Pd
end
section
namespace Go.AL
variable [Tabs]
section
variable {P:Program} {f:Nat}
def pfc (τ:Ty) (n g:Nat) (F:den τ→Ans):Pat
 | [a,.fn f [.ptr 900 0]],[(900,.box (.fn h []))]=>(match Nat.beq f n,Nat.beq h g,arg τ a with | true,true,some a=>some (F a) | _,_,_=>none)
 | _,_=>none
theorem jJ {τ:Ty} {n g:Nat} {F:den τ→Ans} (he:an P f) (h:∀x,Wf τ x→(∀q,(F x).ob=some q→q)→aw P f [inj τ x,.fn n [.ptr 900 0]] [(900,.box (.fn g []))] (F x)):ag P f (pfc τ n g F):=by
 intro args S A hA ho _
 unfold pfc at hA
 split at hA
 ·split at hA
  ·rename_i hb hc hx
   simp only [Xs] at hA
   subst hA
   have e:=Nat.eq_of_beq_eq_true hb
   subst e
   have e:=Nat.eq_of_beq_eq_true hc
   subst e
   exact ⟨he,aw.args (.cons (Rd.arg hx) (.cons (Rd.refl _) .nil)) (aw.wf fun hw=>h _ hw.one ho)⟩
  ·cases hA
 ·cases hA
def pcl (τ:Ty) (g:Nat) (F:den τ→Ans):Pat
 | [a,.ptr 900 0],[(900,.box (.fn h []))]=>(match Nat.beq h g,arg τ a with | true,some a=>some (F a) | _,_=>none)
 | _,_=>none
theorem sZ {τ:Ty} {g:Nat} {F:den τ→Ans} (he:an P f) (h:∀x,Wf τ x→(∀q,(F x).ob=some q→q)→aw P f [inj τ x,.ptr 900 0] [(900,.box (.fn g []))] (F x)):ag P f (pcl τ g F):=by
 intro args S A hA ho _
 unfold pcl at hA
 split at hA
 ·split at hA
  ·rename_i hc hx
   simp only [Xs] at hA
   subst hA
   have e:=Nat.eq_of_beq_eq_true hc
   subst e
   exact ⟨he,aw.args (.cons (Rd.arg hx) (.cons (Rd.refl _) .nil)) (aw.wf fun hw=>h _ hw.one ho)⟩
  ·cases hA
 ·cases hA
end
end Go.AL
end
section
namespace Go.Pd
open Go.AL
def cut (s:Str) (a b:Int):Str:=(s.take b.toNat).drop a.toNat
def nB (r:Str) (k:Nat):Bool:=decide (k < r.length) && decide ((r.getD k 0).toNat / 64=2)
def nX (r:Str) (k:Nat):Nat:=(r.getD k 0).toNat % 64
def oy (c:Nat):Bool:=decide (c < 1114112) && !(decide (55296<=c) && decide (c < 57344))
def gB:Str→Nat
 | []=>0
 | b ::r=>
  if b.toNat < 128 then 1
  else if b.toNat / 32=6/\nB r 0=true then (if 128<=b.toNat % 32 *64+nX r 0 then 2 else 0)
  else if b.toNat / 16=14/\nB r 0=true/\nB r 1=true then
   (if 2048<=b.toNat % 16 *4096+nX r 0 *64+nX r 1/\oy (b.toNat % 16 *4096+nX r 0 *64+nX r 1)=true then 3 else 0)
  else if b.toNat / 8=30/\nB r 0=true/\nB r 1=true/\nB r 2=true then
   (if 65536<=b.toNat % 8 *262144+nX r 0 *4096+nX r 1 *64+nX r 2/\oy (b.toNat % 8 *262144+nX r 0 *4096+nX r 1 *64+nX r 2)=true then 4 else 0)
  else 0
def iq:Nat→Str→Nat→Option Nat
 | 0,_,_=>none
 | f+1,x,k=>if x=[] then none else if gB x=0 then some k else iq f (x.drop (gB x)) (k+gB x)
def jK (x:Str):Option Nat:=iq x.length x 0
structure SC where
 pos:Int
 out:List Tokn
 err:Int
 fat:Int
def splitB (c:UInt8):Str→List Str
 | []=>[[]]
 | b ::r=>if b=c then [] ::splitB c r else match splitB c r with | []=>[[b]] | p ::ps=>(b ::p) ::ps
def aI (s:Str):Bool:=!decide (s=[]) && s.all fun c=>bJ (bI c)
def dF (c:Int):Bool:=bJ c || bO c || bS c || decide (c=45)
def bP (s:Str):Bool:=!decide (s=[]) && !(aI s && decide (bI (s.getD 0 0)=48) && !decide (s=[48])) && s.all fun c=>dF (bI c)
def bf (v:Vers):Int:=
 if v.major < 0∨999999 < v.major∨v.minor < 0∨999999 < v.minor∨v.patch < 0∨999999 < v.patch then 40
 else if 24 < v.pre.length then 40 else if v.pre=[] then 0 else if (splitB 46 v.pre).all bP=true then 0 else 40
def gO (s:Str):Str:=s.takeWhile fun b=>!decide (b=45)
def kW (s:Str):Str:=s.drop ((gO s).length+1)
def mL (s:Str):Bool:=decide ((gO s).length < s.length)
end Go.Pd
end
section
namespace Go.Pd
open Go.AL
theorem GD (b:UInt8):0<=bI b/\bI b<=255:=by
 have:=b.toNat_lt
 unfold bI
 omega
end Go.Pd
namespace Go.Pd
open Go.AL
def nY:Str:=[48,49,50,51,52,53,54,55,56,57]
def kF (b:UInt8):Bool:=bJ (bI b)
def kG (s:Str):Str:=(s.reverse.dropWhile kF).reverse.dropWhile kF
def DC (s:Str) (c:Int):Int:=bd (fun b=>!decide (bI b=c)) s 0
def iX (s:Str):Nat × Nat:=if s=[] then (65533,0) else Lib.decodeN s.length (s.getD 0 0).toNat (s.getD 1 0).toNat (s.getD 2 0).toNat (s.getD 3 0).toNat
theorem kH {p:UInt8→Bool}:∀{l:Str},l.dropWhile p=[]↔l.all p=true
 | []=>by simp
 | b ::r=>by
  rw [List.dropWhile_cons]
  split
  ·rename_i h
   rw [kH,List.all_cons,h,Bool.true_and]
  ·rename_i h
   simp [h]
theorem kJ {p:UInt8→Bool}:∀(l:Str),(l.dropWhile p).all p=l.all p
 | []=>rfl
 | b ::r=>by
  rw [List.dropWhile_cons]
  split
  ·rename_i h
   rw [kJ r,List.all_cons,h,Bool.true_and]
  ·rfl
theorem Bq (s:Str):kG s=[]↔s.all kF=true:=by
 unfold kG
 rw [kH,List.all_reverse,kJ,List.all_reverse]
theorem DD (s:Str):(kG s).length<=s.length:=by
 unfold kG
 have h1:=(List.dropWhile_sublist (p:=kF) (l:=(s.reverse.dropWhile kF).reverse)).length_le
 have h2:=(List.dropWhile_sublist (p:=kF) (l:=s.reverse)).length_le
 rw [List.length_reverse] at h1 h2
 omega
def jL (n b0 b1 b2 b3:Nat):Nat:=
 if b0 < 128 then 1
 else if b0 / 32=6/\(1 < n/\b1 / 64=2) then (if b0 % 32 *64+b1 % 64≥128 then 2 else 0)
 else if b0 / 16=14/\(1 < n/\b1 / 64=2)/\(2 < n/\b2 / 64=2) then
  (if b0 % 16 *4096+b1 % 64 *64+b2 % 64≥2048/\(b0 % 16 *4096+b1 % 64 *64+b2 % 64 < 55296∨(57344<=b0 % 16 *4096+b1 % 64 *64+b2 % 64/\b0 % 16 *4096+b1 % 64 *64+b2 % 64<=1114111)) then 3 else 0)
 else if b0 / 8=30/\(1 < n/\b1 / 64=2)/\(2 < n/\b2 / 64=2)/\(3 < n/\b3 / 64=2) then
  (if b0 % 8 *262144+b1 % 64 *4096+b2 % 64 *64+b3 % 64≥65536/\(b0 % 8 *262144+b1 % 64 *4096+b2 % 64 *64+b3 % 64 < 55296∨(57344<=b0 % 8 *262144+b1 % 64 *4096+b2 % 64 *64+b3 % 64/\b0 % 8 *262144+b1 % 64 *4096+b2 % 64 *64+b3 % 64<=1114111)) then 4 else 0)
 else 0
theorem uM (n b0 b1 b2 b3:Nat) (h1:b1 < 256) (h2:b2 < 256) (h3:b3 < 256) (h0:b0 < 256) (hn:1<=n) :
  ((Lib.decodeN n b0 b1 b2 b3).1=65533/\(Lib.decodeN n b0 b1 b2 b3).2=1↔jL n b0 b1 b2 b3=0)/\(jL n b0 b1 b2 b3≠0→(Lib.decodeN n b0 b1 b2 b3).2=jL n b0 b1 b2 b3)/\
  (Lib.decodeN n b0 b1 b2 b3).1<=1114111/\1<=(Lib.decodeN n b0 b1 b2 b3).2/\(Lib.decodeN n b0 b1 b2 b3).2<=n:=by
 unfold Lib.decodeN jL
 by_cases c1:b0 < 128
 ·simp only [if_pos c1];refine ⟨⟨fun e=>?_,fun e=>?_⟩,fun e=>?_,?_,?_,?_⟩ <;> first | omega | exact ⟨rfl,rfl⟩ | exact ⟨trivial,trivial⟩ | exact (e rfl).elim | exact e.elim | exact (e trivial).elim | simp only at *
 simp only [if_neg c1]
 by_cases c2:b0 / 32=6/\(1 < n/\b1 / 64=2)
 ·simp only [if_pos c2]
  by_cases d:b0 % 32 *64+b1 % 64≥128
  ·simp only [if_pos d];refine ⟨⟨fun e=>?_,fun e=>?_⟩,fun e=>?_,?_,?_,?_⟩ <;> first | omega | exact ⟨rfl,rfl⟩ | exact ⟨trivial,trivial⟩ | exact (e rfl).elim | exact e.elim | exact (e trivial).elim | simp only at *
  ·simp only [if_neg d];refine ⟨⟨fun e=>?_,fun e=>?_⟩,fun e=>?_,?_,?_,?_⟩ <;> first | omega | exact ⟨rfl,rfl⟩ | exact ⟨trivial,trivial⟩ | exact (e rfl).elim | exact e.elim | exact (e trivial).elim | simp only at *
 simp only [if_neg c2]
 by_cases c3:b0 / 16=14/\(1 < n/\b1 / 64=2)/\(2 < n/\b2 / 64=2)
 ·simp only [if_pos c3]
  by_cases d:b0 % 16 *4096+b1 % 64 *64+b2 % 64≥2048/\(b0 % 16 *4096+b1 % 64 *64+b2 % 64 < 55296∨(57344<=b0 % 16 *4096+b1 % 64 *64+b2 % 64/\b0 % 16 *4096+b1 % 64 *64+b2 % 64<=1114111))
  ·simp only [if_pos d];refine ⟨⟨fun e=>?_,fun e=>?_⟩,fun e=>?_,?_,?_,?_⟩ <;> first | omega | exact ⟨rfl,rfl⟩ | exact ⟨trivial,trivial⟩ | exact (e rfl).elim | exact e.elim | exact (e trivial).elim | simp only at *
  ·simp only [if_neg d];refine ⟨⟨fun e=>?_,fun e=>?_⟩,fun e=>?_,?_,?_,?_⟩ <;> first | omega | exact ⟨rfl,rfl⟩ | exact ⟨trivial,trivial⟩ | exact (e rfl).elim | exact e.elim | exact (e trivial).elim | simp only at *
 simp only [if_neg c3]
 by_cases c4:b0 / 8=30/\(1 < n/\b1 / 64=2)/\(2 < n/\b2 / 64=2)/\(3 < n/\b3 / 64=2)
 ·simp only [if_pos c4]
  by_cases d:b0 % 8 *262144+b1 % 64 *4096+b2 % 64 *64+b3 % 64≥65536/\(b0 % 8 *262144+b1 % 64 *4096+b2 % 64 *64+b3 % 64 < 55296∨(57344<=b0 % 8 *262144+b1 % 64 *4096+b2 % 64 *64+b3 % 64/\b0 % 8 *262144+b1 % 64 *4096+b2 % 64 *64+b3 % 64<=1114111))
  ·simp only [if_pos d];refine ⟨⟨fun e=>?_,fun e=>?_⟩,fun e=>?_,?_,?_,?_⟩ <;> first | omega | exact ⟨rfl,rfl⟩ | exact ⟨trivial,trivial⟩ | exact (e rfl).elim | exact e.elim | exact (e trivial).elim | simp only at *
  ·simp only [if_neg d];refine ⟨⟨fun e=>?_,fun e=>?_⟩,fun e=>?_,?_,?_,?_⟩ <;> first | omega | exact ⟨rfl,rfl⟩ | exact ⟨trivial,trivial⟩ | exact (e rfl).elim | exact e.elim | exact (e trivial).elim | simp only at *
 simp only [if_neg c4]
 refine ⟨⟨fun e=>?_,fun e=>?_⟩,fun e=>?_,?_,?_,?_⟩ <;> first | omega | exact ⟨rfl,rfl⟩ | exact ⟨trivial,trivial⟩ | exact (e rfl).elim | exact e.elim | exact (e trivial).elim | simp only at *
theorem uN (c:Nat):oy c=true↔(c < 55296∨(57344<=c/\c<=1114111)):=by
 unfold oy
 simp only [Bool.and_eq_true,decide_eq_true_eq,Bool.not_eq_true',Bool.and_eq_false_iff,decide_eq_false_iff_not]
 omega
theorem Br (r:Str) (k:Nat):nB r k=true↔(k+1 < r.length+1/\(r.getD k 0).toNat / 64=2):=by
 unfold nB
 simp only [Bool.and_eq_true,decide_eq_true_eq]
 omega
theorem DE (b:UInt8) (r:Str):gB (b ::r)=jL (r.length+1) b.toNat (r.getD 0 0).toNat (r.getD 1 0).toNat (r.getD 2 0).toNat:=by
 unfold gB jL nX
 simp only [Br,uN]
theorem pG {s:Str} (h:s≠[]):((iX s).1=65533/\(iX s).2=1↔gB s=0)/\(gB s≠0→(iX s).2=gB s)/\(iX s).1<=1114111/\1<=(iX s).2/\(iX s).2<=s.length:=by
 cases s with
 | nil=>exact absurd rfl h
 | cons b r=>
  have e:iX (b ::r)=Lib.decodeN (r.length+1) b.toNat (r.getD 0 0).toNat (r.getD 1 0).toNat (r.getD 2 0).toNat:=by
   unfold iX
   rw [if_neg h]
   rfl
  rw [e,DE,List.length_cons]
  exact uM _ _ _ _ _ (r.getD 0 0).toNat_lt (r.getD 1 0).toNat_lt (r.getD 2 0).toNat_lt b.toNat_lt (by omega)
theorem pH:∀(f g:Nat) (x:Str) (k:Nat),x.length<=f→x.length<=g→iq f x k=iq g x k
 | 0,0,_,_,_,_=>rfl
 | 0,g+1,x,k,h,_=>by
  have e:x=[]:=List.eq_nil_of_length_eq_zero (by omega)
  subst e
  simp [iq]
 | f+1,0,x,k,_,h=>by
  have e:x=[]:=List.eq_nil_of_length_eq_zero (by omega)
  subst e
  simp [iq]
 | f+1,g+1,x,k,h1,h2=>by
  simp only [iq]
  split
  ·rfl
  ·rename_i hx
   split
   ·rfl
   ·rename_i hn
    have hl:(x.drop (gB x)).length < x.length:=by
     rw [List.length_drop]
     have:=List.length_pos_iff.2 hx
     omega
    exact pH f g _ _ (by omega) (by omega)
def jM (s:Str) (a:Nat):Option Nat:=iq s.length (s.drop a) a
theorem xQ (s:Str):jM s 0=jK s:=rfl
theorem Bt {s:Str} {a:Nat} (h:s.length<=a):jM s a=none:=by
 unfold jM
 rw [List.drop_eq_nil_of_le h]
 cases s.length <;> simp [iq]
theorem Bu {s:Str} {a:Nat} (h:a < s.length) (hb:gB (s.drop a)=0):jM s a=some a:=by
 unfold jM
 obtain ⟨n,hn⟩:∃n,s.length=n+1:=⟨s.length - 1,by omega⟩
 have hx:s.drop a≠[]:=by
  intro e
  have:=congrArg List.length e
  simp at this
  omega
 rw [hn,iq,if_neg hx,if_pos hb]
theorem xR {s:Str} {a:Nat} (h:a < s.length) (hb:gB (s.drop a)≠0):jM s a=jM s (a+gB (s.drop a)):=by
 unfold jM
 obtain ⟨n,hn⟩:∃n,s.length=n+1:=⟨s.length - 1,by omega⟩
 have hx:s.drop a≠[]:=by
  intro e
  have:=congrArg List.length e
  simp at this
  omega
 rw [hn,iq,if_neg hx,if_neg hb,List.drop_drop]
 refine pH _ _ _ _ ?_ ?_ <;> (rw [List.length_drop];omega)
end Go.Pd
namespace Go.Pd
open Go.AL
end Go.Pd
namespace Go.Pd
open Go.AL
theorem jN (c:Int):dF c=true↔(48<=c/\c<=57)∨(97<=c/\c<=122)∨(65<=c/\c<=90)∨c=45:=by
 unfold dF bJ bO bS
 simp only [Bool.or_eq_true,Bool.and_eq_true,decide_eq_true_eq]
 omega
theorem ir {s:Str} (h:s≠[]) (hz:(aI s && decide (bI (s.getD 0 0)=48) && !decide (s=[48]))=false):bP s=s.all fun c=>dF (bI c):=by
 unfold bP
 rw [hz,Xf h]
 simp
end Go.Pd
namespace Go.Pd
open Go.AL
theorem cr (c:UInt8):∀s:Str,(splitB c s).length<=s.length+1
 | []=>by simp [splitB]
 | b ::r=>by
  have ih:=cr c r
  unfold splitB
  split
  ·simp only [List.length_cons];omega
  ·split
   ·simp
   ·rename_i e
    rw [e] at ih
    simp only [List.length_cons] at ih ⊢
    omega
theorem kK {α:Type} {p:α→Bool} {l:List α} {k:Nat} (d:α) (hk:k < l.length) (h:(l.take k).all p=true) (hp:p (l.getD k d)=true):(l.take (k+1)).all p=true:=by
 rw [bw l k d hk,List.all_append,h,List.all_cons,hp]
 rfl
theorem DF {α:Type} {p:α→Bool} {l:List α} {k:Nat} (h:l.length<=k):(l.take k).all p=l.all p:=by rw [List.take_of_length_le h]
theorem uO {α:Type} {p:α→Bool} {l:List α} {k:Nat} (d:α) (hk:k < l.length) (hp:p (l.getD k d)=false):l.all p=false:=by
 rw [Bool.eq_false_iff]
 intro e
 have:=List.all_eq_true.1 e _ (aL l k d hk)
 rw [this] at hp
 cases hp
def nZ (n:Int):Bool:=decide (0<=n) && decide (n<=999999)
theorem xS {v:Vers} (h:[v.major,v.minor,v.patch].all nZ=false):bf v=40:=by
 unfold bf
 rw [if_pos]
 simp only [List.all_cons,List.all_nil,Bool.and_true,Bool.and_eq_false_iff,nZ,decide_eq_false_iff_not] at h
 omega
theorem uP {v:Vers} (h:[v.major,v.minor,v.patch].all nZ=true):bf v=if 24 < v.pre.length then 40 else if v.pre=[] then 0 else if (splitB 46 v.pre).all bP=true then 0 else 40:=by
 unfold bf
 rw [if_neg]
 simp only [List.all_cons,List.all_nil,Bool.and_true,Bool.and_eq_true,nZ,decide_eq_true_eq] at h
 omega
end Go.Pd
namespace Go.Pd
open Go.AL
theorem Bv (s:Str):(gO s).length<=s.length:=(List.takeWhile_sublist _).length_le
end Go.Pd
namespace Go.Pd
open Go.AL
end Go.Pd
namespace Go.Pd
open Go.AL
end Go.Pd
end
section
namespace Go.AL
open Go.Proofs Go.Shelf Go.RowKit Go.Pd
theorem fN {c:UInt8}:∀{s:Str},Lib.indexByte s c=-1→c∉s
 | [],_=>List.not_mem_nil
 | b ::r,h=>by
  unfold Lib.indexByte at h
  by_cases e:b=c
  ·subst e;simp at h
  ·have e':(b ==c)=false:=beq_eq_false_iff_ne.2 e
   rw [e'] at h
   simp only [Bool.false_eq_true,if_false] at h
   have hg:=Lib.indexByte_ge r c
   split at h
   ·rename_i k
    have:=fN (s:=r) (by simpa using k)
    rw [List.mem_cons,not_or]
    exact ⟨fun q=>e q.symm,this⟩
   ·omega
theorem eE {c:UInt8}:∀{s:Str},Lib.indexByte s c≠-1→∃k:Nat,Lib.indexByte s c=k/\k < s.length/\s=s.take k++c ::s.drop (k+1)/\c∉s.take k
 | [],h=>absurd rfl h
 | b ::r,h=>by
  unfold Lib.indexByte at h ⊢
  by_cases e:b=c
  ·subst e
   refine ⟨0,by simp,by simp,by simp,by simp⟩
  ·have e':(b ==c)=false:=beq_eq_false_iff_ne.2 e
   rw [e'] at h ⊢
   simp only [Bool.false_eq_true,if_false] at h ⊢
   split at h
   ·exact absurd rfl h
   ·rename_i k
    obtain ⟨j,j1,j2,j3,j4⟩:=eE (s:=r) (by simpa using k)
    rw [if_neg k]
    refine ⟨j+1,by rw [j1];rfl,by simp;omega,?_,?_⟩
    ·rw [List.take_succ_cons,List.drop_succ_cons,List.cons_append,←j3]
    ·rw [List.take_succ_cons,List.mem_cons,not_or]
     exact ⟨fun q=>e q.symm,j4⟩
theorem pI {c:UInt8}:∀{s:Str},c∉s→splitB c s=[s]
 | [],_=>rfl
 | b ::r,h=>by
  rw [List.mem_cons,not_or] at h
  unfold splitB
  rw [if_neg (fun e=>h.1 e.symm),pI h.2]
theorem ke {c:UInt8}:∀{a:Str} (r:Str),c∉a→splitB c (a++c ::r)=a ::splitB c r
 | [],r,_=>by rw [List.nil_append,splitB,if_pos rfl]
 | b ::a,r,h=>by
  rw [List.mem_cons,not_or] at h
  rw [List.cons_append,splitB,if_neg (fun e=>h.1 e.symm),ke r h.2]
theorem pJ (c:UInt8):∀(n:Nat) (s:Str),s.length<=n→Lib.splitK [c] 0 (s.count c) s=splitB c s
 | n,s,hn=>by
  by_cases h:Lib.indexByte s c=-1
  ·have hm:=fN h
   rw [List.count_eq_zero.2 hm,pI hm]
   rfl
  ·obtain ⟨k,k1,k2,k3,k4⟩:=eE h
   have hc:s.count c=(s.drop (k+1)).count c+1:=by
    have e:=congrArg (List.count c) k3
    rw [List.count_append,List.count_cons_self,List.count_eq_zero.2 k4] at e
    omega
   rw [hc]
   unfold Lib.splitK
   rw [Lib.index_one,if_neg (by simpa using h),k1]
   have hd:(k:Int).toNat+[c].length=k+1:=rfl
   have ht:(k:Int).toNat+0=k:=rfl
   rw [hd,ht]
   cases n with
   | zero=>omega
   | succ n=>
    rw [pJ c n (s.drop (k+1)) (by rw [List.length_drop];omega)]
    conv=>rhs;rw [k3]
    rw [ke _ k4]
theorem lV {c:UInt8}:∀{a:Str} (r:Str),c∉a→(a++c ::r).takeWhile (fun b=>!decide (b=c))=a
 | [],r,_=>by simp
 | b ::a,r,h=>by
  rw [List.mem_cons,not_or] at h
  have hb:¬b=c:=fun e=>h.1 e.symm
  rw [List.cons_append,List.takeWhile_cons]
  simp only [hb,decide_false,Bool.not_false,if_true]
  rw [lV r h.2]
theorem qP {c:UInt8} {s:Str} (h:c∉s):s.takeWhile (fun b=>!decide (b=c))=s:=by
 induction s with
 | nil=>rfl
 | cons b r ih=>
  rw [List.mem_cons,not_or] at h
  have hb:¬b=c:=fun e=>h.1 e.symm
  rw [List.takeWhile_cons]
  simp only [hb,decide_false,Bool.not_false,if_true]
  rw [ih h.2]
theorem DG (s:Str):Lib.cut s [45]=(gO s,kW s,mL s):=by
 unfold Lib.cut
 rw [Lib.index_one]
 by_cases h:Lib.indexByte s 45=-1
 ·have hm:=fN h
  rw [h,if_neg (by decide)]
  have e:gO s=s:=qP hm
  unfold kW mL
  rw [e,List.drop_eq_nil_of_le (by omega)]
  simp
 ·obtain ⟨k,k1,k2,k3,k4⟩:=eE h
  rw [k1,if_pos (by omega)]
  have e:gO s=s.take k:=by
   unfold gO
   conv=>lhs;rw [k3]
   exact lV _ k4
  have hl:(s.take k).length=k:=by rw [List.length_take];omega
  unfold kW mL
  rw [e,hl]
  simp [k2]
theorem FN (s:Str) (c:Int) (h0:0<=c) (h1:c<=255):∀k:Nat,bd (fun b=>!decide (bI b=c)) s k=if Lib.indexByte s c.toNat.toUInt8=-1 then -1 else Lib.indexByte s c.toNat.toUInt8+k:=by
 have hb:∀b:UInt8,(bI b=c)↔b=c.toNat.toUInt8:=by
  intro b
  unfold bI
  constructor
  ·intro e
   have:c.toNat=b.toNat:=by omega
   rw [this]
   simp
  ·intro e
   rw [e]
   simp [Nat.toUInt8]
   omega
 induction s with
 | nil=>intro k;rfl
 | cons b r ih=>
  intro k
  rw [bd]
  by_cases e:bI b=c
  ·have e2:=(hb b).1 e
   rw [if_neg (by simp [e])]
   unfold Lib.indexByte
   rw [e2]
   simp
  ·have e2:(b ==c.toNat.toUInt8)=false:=beq_eq_false_iff_ne.2 (fun q=>e ((hb b).2 q))
   rw [if_pos (by simp [e]),ih (k+1)]
   have hg:=Lib.indexByte_ge r c.toNat.toUInt8
   have e3:Lib.indexByte (b ::r) c.toNat.toUInt8=(if b ==c.toNat.toUInt8 then 0 else if Lib.indexByte r c.toNat.toUInt8 ==-1 then -1 else Lib.indexByte r c.toNat.toUInt8+1):=rfl
   rw [e3,e2]
   simp only [Bool.false_eq_true,if_false,beq_iff_eq]
   by_cases q:Lib.indexByte r c.toNat.toUInt8=-1
   ·rw [if_pos q,if_pos q];rfl
   ·rw [if_neg q,if_neg q,if_neg (by omega)]
    omega
theorem uQ (s:Str) (c:UInt8):decide (0<=Lib.indexByte s c)=decide (c∈s):=by
 have hg:=Lib.indexByte_ge s c
 rw [decide_eq_decide]
 by_cases h:Lib.indexByte s c=-1
 ·exact ⟨fun e=>by omega,fun e=>absurd e (fN h)⟩
 ·obtain ⟨k,k1,k2,k3,k4⟩:=eE h
  exact ⟨fun _=>by rw [k3];simp,fun _=>by omega⟩
variable [Tabs] {P:Program} {ρ:Ren}
theorem Below.drawn (w:World) (n:Nat):Below w.heap.size w (w.drewN n):=⟨rfl,rfl,rfl,Nat.le_refl _,fun _ _=>rfl⟩
theorem After.news {w w':World} {pub:Nat→Nat→Prop} {e:Nat→Option CObj} (hp:ic w pub) (hd:∀id,e id=none) (hb:Below w.heap.size w w') {p:Nat→Prop} (hc:∀o,p o→∃v,w'.cell? ⟨w.heap.size,o,none⟩=some v) :
  After w pub e (ak (bU [] [])) w' (fun b o=>pub b o∨(b=w.heap.size/\p o)) e where
 os:=hb.os
 tape:=hb.tape
 output:=hb.output
 size:=hb.size
 block b h _:=hb.block b h
 cell b o h _:=ah (hb.block b h) o
 kind b h _:=⟨aR (hb.block b h),fun o=>aK (hb.block b h) o⟩
 ext:=⟨fun _ c h=>⟨c,h,CLe.refl c⟩,fun _ _ h=>.inl h,fun b o h=>by obtain ⟨v,hv⟩:=hp b o h;exact ah (hb.block b (aE hv)) o⟩
 fresh b o h:=by
  rcases h with h | ⟨rfl,_⟩
  ·exact .inl h
  ·exact .inr (.inl (Nat.le_refl _))
 ok b o h:=by
  rcases h with h | ⟨rfl,h⟩
  ·obtain ⟨v,hv⟩:=hp b o h;exact ⟨v,(ah (hb.block b (aE hv)) o).trans hv⟩
  ·exact hc o h
 slots id o h:=by simp [bU,aM,aF] at h
 dom id _:=hd id
 inj i j c d b o h:=by rw [hd i] at h;cases h
theorem cI {f:Nat} {args:List AV} {A:AV} {ob:Option Prop} (h:∀(w:World) (pub:Nat→Nat→Prop) (vs:List Value),gl w pub (fun _=>none)→VL ⟨fun _=>none,w,pub⟩ args vs→Calls P f vs.toArray w fun e w'=>(∃v,e=.returned v/\∀Ω,V Ω A v)/\Below w.heap.size w w') :
  aw P f args [] ⟨ob,none,A,[]⟩:=by
 intro w pub e vs hp ht hv hs hd hi
 have he:e=fun _=>none:=funext fun id=>hd id rfl
 subst he
 refine (h w pub vs ht hv).mono ?_
 rintro en w' ⟨⟨v,rfl,hV⟩,hb⟩
 exact ⟨pub,_,And.intro (fun b pv u h=>by cases h) (And.intro (hV _) (After.below hp (fun _=>rfl) hb))⟩
theorem VL.two_str {Ω:Om} {a b:Str} {vs:List Value} (h:VL Ω [.str a,.str b] vs):vs=[.string ⟨a.toArray⟩,.string ⟨b.toArray⟩]/\a.length<=b8/\b.length<=b8:=by
 obtain ⟨v1,v2,rfl,h1,h2⟩:=VL.two_inv h
 obtain ⟨rfl,l1⟩:=h1.str_inv
 obtain ⟨rfl,l2⟩:=h2.str_inv
 exact ⟨rfl,l1,l2⟩
def FO:Pat:=p2 .str .str fun a b=>⟨some (b=nY),none,.str (kG a),[]⟩
set_option maxRecDepth 100000 in
theorem DH (b:UInt8):nY.contains b=kF b:=by
 have h:∀b:Fin 256,nY.contains (UInt8.ofNat b.val)=kF (UInt8.ofNat b.val):=by decide
 have:=h ⟨b.toNat,b.toNat_lt⟩
 simpa using this
theorem xT {f:Nat} (L:Lays.n160 P ρ) (h116:(P.info? (ρ.t 116)).map (fun i=>(i.zero,i.size))=some (some (.agg (Array.replicate 256 (.bool false))),256)) (hf:ρ.f 160=f) (he:an P f):ag P f FO:=by
 subst hf
 refine bX he fun a b _ _ ho=>?_
 have hb:=ho _ rfl
 subst hb
 refine cI fun w pub vs _ hv=>?_
 obtain ⟨rfl,l1,l2⟩:=VL.two_str hv
 have l1':a.length<=9223372036854775807:=l1
 refine (Any.strings_Trim_laid L h116 ⟨a.toArray⟩ ⟨nY.toArray⟩ w (by simpa [ByteArray.size] using l1') (by decide) (fun j b hj=>?_)).mono ?_
 ·have hd:∀b∈nY,b.toNat < 128:=by decide
  exact hd b (List.mem_of_getElem? hj)
 ·rintro en w' ⟨rfl,hb⟩
  refine ⟨⟨_,rfl,fun Ω=>?_⟩,hb⟩
  have e:Lib.trimS a nY=kG a:=by
   have ef:(fun b=>nY.contains b)=kF:=funext DH
   unfold Lib.trimS Lib.trimLeftS Lib.trimRightS kG
   rw [ef]
  have e2:(⟨a.toArray⟩:ByteArray).data.toList=a:=rfl
  have e3:(⟨nY.toArray⟩:ByteArray).data.toList=nY:=rfl
  rw [e2,e3,e]
  exact .str _ (Nat.le_trans (DD a) l1)
def GZ:Pat:=p2 .str .str fun a b=>⟨some (b=[45]/\a.length < 4294967281),none,.tup [.str (gO a),.str (kW a),.bool (mL a)],[]⟩
theorem Bw {f:Nat} {m:Int} (L:Lays.n145 P ρ) (hm:Tabs.tab (ρ.g 1) 0 (.int .i64 m)) (hf:ρ.f 145=f) (he:an P f):ag P f GZ:=by
 subst hf
 refine bX he fun a b _ _ ho=>?_
 obtain ⟨hb,hl⟩:=ho _ rfl
 subst hb
 refine cI fun w pub vs ht hv=>?_
 obtain ⟨rfl,l1,l2⟩:=VL.two_str hv
 refine (Any.strings_Cut L ⟨a.toArray⟩ ⟨([45]:Str).toArray⟩ m w (by simpa [ByteArray.size] using hl) (ht.1 _ _ _ hm).2).mono ?_
 rintro en w' ⟨rfl,n,rfl⟩
 refine ⟨⟨_,rfl,fun Ω=>?_⟩,Below.drawn w n⟩
 have e2:(⟨a.toArray⟩:ByteArray).data.toList=a:=rfl
 have e3:(⟨([45]:Str).toArray⟩:ByteArray).data.toList=[45]:=rfl
 rw [e2,e3,DG]
 refine V.of_tup (VL.cons (.str _ ?_) (VL.cons (.str _ ?_) (VL.cons (.bool _) .nil)))
 ·exact Nat.le_trans (Bv a) l1
 ·unfold kW
  rw [List.length_drop]
  exact Nat.le_trans (Nat.sub_le _ _) l1
def uR:Pat:=p2 .str .str fun a b=>⟨some (b.length=1),none,.bool (decide (b.getD 0 0∈a)),[]⟩
theorem pK {f:Nat} (L:Lays.n144 P ρ) (hf:ρ.f 144=f) (he:an P f):ag P f uR:=by
 subst hf
 refine bX he fun a b _ _ ho=>?_
 have hb:b.length=1:=ho _ rfl
 obtain ⟨c,rfl⟩:∃c,b=[c]:=by
  match b,hb with
  | [c],_=>exact ⟨c,rfl⟩
 refine cI fun w pub vs ht hv=>?_
 obtain ⟨rfl,l1,l2⟩:=VL.two_str hv
 refine (Any.strings_Contains_one L ⟨a.toArray⟩ c w).mono ?_
 rintro en w' ⟨rfl,rfl⟩
 refine ⟨⟨_,rfl,fun Ω=>?_⟩,Below.refl _ _⟩
 have e2:(⟨a.toArray⟩:ByteArray).data.toList=a:=rfl
 rw [e2,uQ]
 exact .bool _
def ta:Pat:=p2 .str (.int .u8) fun a c=>.ret (.int .i64 (DC a c))
theorem o9 {f:Nat} (L:Lays.n137 P ρ) (hf:ρ.f 137=f) (he:an P f):ag P f ta:=by
 subst hf
 refine bX he fun a c _ _ ho=>?_
 refine cI fun w pub vs ht hv=>?_
 obtain ⟨v1,v2,rfl,h1,h2⟩:=VL.two_inv hv
 obtain ⟨rfl,l1⟩:=h1.str_inv
 obtain ⟨rfl,c1,c2⟩:=(show V _ (.int .u8 c) v2 from h2).int_inv
 have c1:(0:Int)<=c:=c1
 have c2:c<=(255:Int):=c2
 refine (Any.strings_IndexByte L ⟨a.toArray⟩ c w).mono ?_
 rintro en w' ⟨rfl,rfl⟩
 refine ⟨⟨_,rfl,fun Ω=>?_⟩,Below.refl _ _⟩
 have e2:(⟨a.toArray⟩:ByteArray).data.toList=a:=rfl
 have e:DC a c=Lib.indexByte a c.toNat.toUInt8:=by
  unfold DC
  rw [FN a c c1 c2 0]
  split
  ·rename_i h;exact h.symm
  ·simp
 rw [e2,e]
 have hg:=Lib.indexByte_ge a c.toNat.toUInt8
 have hu:Lib.indexByte a c.toNat.toUInt8<=(a.length:Int):=by
  by_cases q:Lib.indexByte a c.toNat.toUInt8=-1
  ·omega
  ·obtain ⟨k,k1,k2,_⟩:=eE q
   omega
 have l1':a.length<=9223372036854775807:=l1
 have b1:inR .i64 (Lib.indexByte a c.toNat.toUInt8):=aJ (by omega) (by omega)
 exact .int _ _ b1.1 b1.2
def DI:Pat:=p2 .str .str fun a b=>⟨some (b=[46]/\a.length < 4294967281),none,.lst .str (splitB 46 a) none,[]⟩
theorem pL (c:UInt8):∀(s:Str),∀x∈splitB c s,x.length<=s.length
 | [],x,h=>by rw [List.mem_singleton.1 h];exact Nat.le_refl _
 | b ::r,x,h=>by
  have ih:=pL c r
  unfold splitB at h
  split at h
  ·rcases List.mem_cons.1 h with e | e
   ·rw [e];exact Nat.zero_le _
   ·have:=ih x e;rw [List.length_cons];omega
  ·split at h
   ·rw [List.mem_singleton.1 h,List.length_cons];simp
   ·rename_i p ps e0
    rcases List.mem_cons.1 h with e | e
    ·have:=ih p (by rw [e0];exact List.mem_cons_self ..)
     rw [e,List.length_cons,List.length_cons]
     omega
    ·have:=ih x (by rw [e0];exact List.mem_cons_of_mem _ e)
     rw [List.length_cons]
     omega
theorem uS {f:Nat} {m:Int} (L:Lays.n146 P ρ) (hi9:(P.info? (ρ.t 9)).map (fun i=>(i.zero,i.size,i.bytes))=some (some (.string ByteArray.empty),1,16)) (hm:Tabs.tab (ρ.g 1) 0 (.int .i64 m)) (hf:ρ.f 146=f) (he:an P f):ag P f DI:=by
 subst hf
 refine bX he fun a b _ _ ho=>?_
 obtain ⟨hb,hl⟩:=ho _ rfl
 subst hb
 intro w pub e vs hp ht hv hs hd hi
 obtain ⟨rfl,l1,l2⟩:=VL.two_str hv
 have l1':a.length<=9223372036854775807:=l1
 refine (Any.strings_Split L hi9 ⟨a.toArray⟩ ⟨([46]:Str).toArray⟩ m w (by simpa [ByteArray.size] using hl) (ht.1 _ _ _ hm).2 (by decide)).mono ?_
 rintro en w' ⟨rfl,rfl⟩
 have e2:(⟨a.toArray⟩:ByteArray).data.toList=a:=rfl
 have e3:(⟨([46]:Str).toArray⟩:ByteArray).data.toList=[46]:=rfl
 have hcount:Lib.countB ⟨a.toArray⟩ ⟨([46]:Str).toArray⟩=a.count 46:=by
  show Lib.count a [46]=_
  rw [Lib.count_one]
 have hsp:(Lib.splitB ⟨([46]:Str).toArray⟩ 0 (Lib.countB ⟨a.toArray⟩ ⟨([46]:Str).toArray⟩) ⟨a.toArray⟩).map (·.data.toList)=splitB 46 a:=by
  rw [Lib.splitB_data,hcount]
  exact pJ 46 a.length a (Nat.le_refl _)
 generalize Lib.splitB ⟨([46]:Str).toArray⟩ 0 (Lib.countB ⟨a.toArray⟩ ⟨([46]:Str).toArray⟩) ⟨a.toArray⟩=bs at hsp
 have hcl:(splitB 46 a).length=Lib.countB ⟨a.toArray⟩ ⟨([46]:Str).toArray⟩+1:=by
  rw [hcount]
  have:∀s:Str,(splitB 46 s).length=s.count 46+1:=by
   intro s
   induction s with
   | nil=>rfl
   | cons b r ih=>
    unfold splitB
    split
    ·rename_i h
     subst h
     rw [List.length_cons,ih,List.count_cons_self]
    ·rename_i h
     rw [List.count_cons_of_ne h]
     split
     ·rename_i e0;rw [e0] at ih;simp at ih
     ·rename_i p ps e0
      rw [e0] at ih
      simpa using ih
  exact this a
 have hbl:bs.length=(splitB 46 a).length:=by rw [←hsp,List.length_map]
 have hsz:=cr 46 a
 rw [←hcl]
 have hnew:(w.alloc (.cells (bs.map Value.string).toArray (ρ.t 9))).heap[w.heap.size]?=some (.cells (bs.map Value.string).toArray (ρ.t 9) (0,0)):=bW _ _
 have hbw:Below w.heap.size w (w.alloc (.cells (bs.map Value.string).toArray (ρ.t 9))):=⟨rfl,rfl,rfl,by simp,fun b hb=>fq _ _ _ hb⟩
 refine ⟨fun b o=>pub b o∨(b=w.heap.size/\o < bs.length),e,And.intro (fun b pv u h=>by cases h) (And.intro ?_ (After.news hp (fun id=>hd id rfl) hbw (p:=fun o=>o < bs.length) (fun o ho=>?_)))⟩
 ·refine ni (Ω:=⟨e,w.alloc (.cells (bs.map Value.string).toArray (ρ.t 9)),fun b o=>pub b o∨(b=w.heap.size/\o < bs.length)⟩) (τ:=.str) (xs:=splitB 46 a) (vs:=bs.map Value.string) hnew ?_ ?_ (Nat.le_refl _) (by unfold b8;omega) (fun i hi=>.inr ⟨rfl,by rw [hbl];simpa [ae] using hi⟩) (fun id hid=>by cases hid)
  ·have e1:(splitB 46 a).length *ae .str=bs.length:=by rw [hbl];exact Nat.mul_one _
   rw [e1]
   exact List.take_of_length_le (by simp)
  ·have ef:aY .str (splitB 46 a)=(splitB 46 a).map AV.str:=by
    unfold aY
    rw [List.map_eq_flatMap]
    rfl
   rw [ef,←hsp]
   refine ⟨by simp,fun j c v hc hv=>?_⟩
   rw [List.map_map,List.getElem?_map,Option.map_eq_some_iff] at hc
   rw [List.getElem?_map,Option.map_eq_some_iff] at hv
   obtain ⟨x,hx,rfl⟩:=hc
   obtain ⟨y,hy,rfl⟩:=hv
   rw [hx] at hy
   cases hy
   have hmem:x.data.toList∈splitB 46 a:=by rw [←hsp];exact List.mem_map_of_mem (List.mem_of_getElem? hx)
   have hle:=pL 46 a _ hmem
   have:=V.str (Ω:=⟨e,w.alloc (.cells (bs.map Value.string).toArray (ρ.t 9)),fun b o=>pub b o∨(b=w.heap.size/\o < bs.length)⟩) x.data.toList (Nat.le_trans hle l1)
   exact this
 ·rw [aD hnew]
  exact ⟨_,Array.getElem?_eq_getElem (by simpa using ho)⟩
def lW [Tabs] (g3 g4:Nat):Prop:=
 (∀c,c < 256→Tabs.tab g3 c (.int .u8 (Lib.firstT c)))/\(∀i,i < 16→Tabs.tab g4 (2 *i) (.int .u8 (Lib.accLo i))/\Tabs.tab g4 (2 *i+1) (.int .u8 (Lib.accHi i)))
theorem lW.tabs {g3 g4:Nat} (h:lW g3 g4) {w:World} {pub:Nat→Nat→Prop} {e:Nat→Option CObj} (ht:gl w pub e):Lib.Utf8Tabs g3 g4 w:=
 ⟨fun c hc=>(ht.1 _ _ _ (h.1 c hc)).2,fun i hi=>⟨(ht.1 _ _ _ (h.2 i hi).1).2,(ht.1 _ _ _ (h.2 i hi).2).2⟩⟩
theorem FP (s:Str) (k:Nat) (h:k < s.length):((⟨s.toArray⟩:ByteArray).get! k)=s.getD k 0:=by
 rw [Utf8W.get!_of_lt _ k (by simpa [ByteArray.size] using h)]
 have:(⟨s.toArray⟩:ByteArray)[k]'(by simpa [ByteArray.size] using h)=s[k]:=rfl
 rw [this]
 simp [List.getD_eq_getElem?_getD,h]
theorem uT (n b0 b1 b2 b3 c1 c2 c3:Nat) (h1:1 < n→b1=c1) (h2:2 < n→b2=c2) (h3:3 < n→b3=c3):Lib.decodeN n b0 b1 b2 b3=Lib.decodeN n b0 c1 c2 c3:=by
 rcases Nat.lt_or_ge 3 n with k | k
 ·rw [h1 (by omega),h2 (by omega),h3 k]
 rcases Nat.lt_or_ge 2 n with k2 | k2
 ·rw [h1 (by omega),h2 k2]
  unfold Lib.decodeN
  have e:¬3 < n:=by omega
  simp only [e,false_and,and_false,if_false]
 rcases Nat.lt_or_ge 1 n with k1 | k1
 ·rw [h1 k1]
  unfold Lib.decodeN
  have e:¬3 < n:=by omega
  have e':¬2 < n:=by omega
  simp only [e,e',false_and,and_false,if_false]
 ·unfold Lib.decodeN
  have e:¬3 < n:=by omega
  have e':¬2 < n:=by omega
  have e'':¬1 < n:=by omega
  simp only [e,e',e'',false_and,and_false,if_false]
theorem nC (s:Str):Lib.decodeGo ⟨s.toArray⟩=iX s:=by
 unfold Lib.decodeGo iX
 have hs:(⟨s.toArray⟩:ByteArray).size=s.length:=by simp [ByteArray.size]
 rw [hs]
 by_cases h:s=[]
 ·subst h;rfl
 have hl:=List.length_pos_iff.2 h
 rw [if_neg (by omega),if_neg h,Lib.decode_at,hs,Nat.sub_zero,FP s 0 hl]
 exact uT _ _ _ _ _ _ _ _ (fun k=>by rw [FP s 1 k]) (fun k=>by rw [FP s 2 k]) (fun k=>by rw [FP s 3 k])
def qQ:Pat:=p1 .str fun s=>.ret (.tup [.int .i32 ((iX s).1:Int),.int .i64 ((iX s).2:Int)])
theorem xU (s:Str):(iX s).1<=1114111/\(iX s).2<=s.length:=by
 by_cases h:s=[]
 ·subst h;decide
 ·have:=pG h
  exact ⟨this.2.2.1,this.2.2.2.2⟩
theorem mM {f:Nat} (L:Lays.n197 P ρ) (hu:lW (ρ.g 3) (ρ.g 4)) (hf:ρ.f 197=f) (he:an P f):ag P f qQ:=by
 subst hf
 refine ax he fun s _ ho=>?_
 refine cI fun w pub vs ht hv=>?_
 obtain ⟨v,rfl,h1⟩:=VL.one_inv hv
 obtain ⟨rfl,hl⟩:=h1.str_inv
 have hl':s.length<=9223372036854775807:=hl
 refine (Any.utf8_DecodeRuneInString L ⟨s.toArray⟩ w (hu.tabs ht)).mono ?_
 rintro en w' ⟨rfl,hb⟩
 refine ⟨⟨_,rfl,fun Ω=>?_⟩,hb⟩
 rw [nC]
 obtain ⟨d1,d2⟩:=xU s
 exact V.of_tup (VL.cons (.int .i32 _ (by show (-2147483648:Int)<=_;omega) (by show _<=(2147483647:Int);omega)) (VL.cons (.int .i64 _ (by show (-9223372036854775808:Int)<=_;omega) (by show _<=(9223372036854775807:Int);omega)) .nil))
theorem pM:∀(n:Nat) (l:Str) (k:Nat),Lib.validGoD n l=(iq n l k).isNone
 | 0,_,_=>rfl
 | n+1,l,k=>by
  unfold Lib.validGoD
  rw [iq]
  by_cases h:l=[]
  ·rw [if_pos h,if_pos h];rfl
  rw [if_neg h,if_neg h]
  have hd:Lib.decodeL l=iX l:=by
   rw [←nC]
   unfold Lib.decodeL Lib.decodeGo
   rw [if_neg (by
    have:=List.length_pos_iff.2 h
    simp [ByteArray.size]
    exact h)]
  obtain ⟨b1,b2,_⟩:=pG h
  rw [hd]
  by_cases u:gB l=0
  ·rw [if_pos (b1.2 u),if_pos u];rfl
  ·rw [if_neg (fun e=>u (b1.1 e)),if_neg u,b2 u]
   exact pM n _ _
def DJ:Pat:=p1 .str fun s=>.ret (.bool (jK s).isNone)
theorem uU {f:Nat} (L:Lays.n196 P ρ) (hu:lW (ρ.g 3) (ρ.g 4)) (hf:ρ.f 196=f) (he:an P f):ag P f DJ:=by
 subst hf
 refine ax he fun s _ ho=>?_
 refine cI fun w pub vs ht hv=>?_
 obtain ⟨v,rfl,h1⟩:=VL.one_inv hv
 obtain ⟨rfl,hl⟩:=h1.str_inv
 have hl':s.length<=9223372036854775807:=hl
 refine (Any.utf8_ValidString L ⟨s.toArray⟩ w (by simpa [ByteArray.size] using hl') (hu.tabs ht)).mono ?_
 rintro en w' ⟨rfl,hb⟩
 refine ⟨⟨_,rfl,fun Ω=>?_⟩,hb⟩
 have e:Lib.validD s=(jK s).isNone:=pM s.length s 0
 have e2:(⟨s.toArray⟩:ByteArray).data.toList=s:=rfl
 rw [e2,e]
 exact .bool _
end Go.AL
end
section
namespace Go.AL
variable [Tabs]
open Go.Proofs Go.Shelf Go.RowKit
variable {P:Program} {ρ:Ren}
theorem xV (xs:List Str):ab (.row .str xs)=xs.map AV.str:=by
 show xs.flatMap (cells .str)=_
 induction xs with
 | nil=>rfl
 | cons x r ih=>rw [List.flatMap_cons,ih];rfl
end Go.AL
end
section
namespace Go.Pd
def joinG {α:Type} (sep:List α):List (List α)→List α
 | []=>[]
 | x ::r=>match r with | []=>x | _ ::_=>x++sep++joinG sep r
theorem joinG_two {α:Type} (sep x y:List α) (r:List (List α)):joinG sep (x ::y ::r)=x++sep++joinG sep (y ::r):=rfl
end Go.Pd
end
section
namespace Go.AL
variable [Tabs]
open Go.Proofs Go.Shelf Go.RowKit
variable {P:Program} {ρ:Ren}
def tc (g:Nat):Prop:=∃t fz,Tabs.obj g (.cells (Lib.pow10Tab.map fun z=>Value.int .u64 z).toArray t fz)
theorem VL.one_int {Ω:Om} {n:Int} {vs:List Value} (h:VL Ω [.int .i64 n] vs):vs=[.int .i64 n]/\-9223372036854775808<=n/\n<=9223372036854775807:=by
 obtain ⟨v,rfl,k⟩:=VL.one_inv h
 cases k with
 | int _ _ h1 h2=>exact ⟨rfl,h1,h2⟩
theorem xW {f g:Nat} (L:LaysM.n171 P ρ) (hg:P.globalNamed "internal/strconv.uint64pow10"=some g) (hp:tc g) (hf:ρ.f 171=f) (he:an P f) :
  ag P f (p1 (.int .i64) fun n=>⟨some ((Lib.itoa n).length<=1000),none,.str (Lib.itoa n),[]⟩):=by
 subst hf
 refine ax he fun n _ ho=>?_
 have hl:=ho _ rfl
 obtain ⟨t,fz,hb⟩:=hp
 refine cI fun w pub vs ht hv=>?_
 obtain ⟨rfl,h0,h1⟩:=VL.one_int hv
 have htab:Lib.TabIs P w "internal/strconv.uint64pow10" .u64 Lib.pow10Tab:=by
  unfold Lib.TabIs World.var?
  rw [hg]
  show (match w.heap[g]? with | some (.cells cs _ _)=>some cs | _=>none)=_
  rw [(ht.2 g _ hb).1]
 refine (Any.strconv_Itoa L n h0 h1 w htab).mono ?_
 rintro en w' ⟨rfl,k,os,rfl⟩
 exact ⟨⟨_,rfl,fun Ω=>.str _ (Nat.le_trans hl (by unfold b8;decide))⟩,Lib.below_grow _ w (Nat.le_refl _) k os⟩
theorem After.read {w w':World} {pub:Nat→Nat→Prop} {e:Nat→Option CObj} {S:List (Nat × SObj)}
  (hp:ic w pub) (hs:∀id o,ak S id=some o→b9 ⟨e,w,pub⟩ (fun _ _=>True) id o) (hd:∀id,ak S id=none→e id=none) (hi:Inj e) (hb:Below w.heap.size w w'):After w pub e (ak (bU S [])) w' pub e:=by
 have blk:∀{id c b o},e id=some c→occ c b o→b < w.heap.size:=by
  intro id c b o hc ho
  cases hg:ak S id with
  | none=>rw [hd id hg] at hc;cases hc
  | some ob=>exact (hs id ob hg).blk (Ω:=⟨e,w,pub⟩) hc ho
 have hcell:∀b o,pub b o→w'.cell? ⟨b,o,none⟩=w.cell? ⟨b,o,none⟩:=fun b o h=>by
  obtain ⟨v,hv⟩:=hp b o h;exact ah (hb.block b (aE hv)) o
 have hx:Ext ⟨e,w,pub⟩ ⟨e,w',pub⟩:=⟨fun id c h=>⟨c,h,CLe.refl c⟩,fun _ _ h=>h,hcell⟩
 exact ⟨hb.os,hb.tape,hb.output,hb.size,fun b h _=>hb.block b h,fun b o h _=>ah (hb.block b h) o,fun b h _=>⟨aR (hb.block b h),fun o=>aK (hb.block b h) o⟩,hx,fun _ _ h=>.inl h,
  fun b o h=>by obtain ⟨v,hv⟩:=hp b o h;exact ⟨v,(hcell b o h).trans hv⟩,
  fun id o ho=>((hs id o ho).keep hx rfl (fun c hc=>kN.of_blocks fun b o ho=>⟨hb.block b (blk hc ho),fun _ p=>p⟩)).own_of (fun c b o hc ho=>.inr ⟨id,c,hc,ho⟩),hd,hi⟩
theorem kX (sep:Str):∀l:List Str,Lib.join l sep=Go.Pd.joinG sep l
 | []=>rfl
 | [x]=>Lib.join_one x sep
 | x ::y ::r=>by
  rw [Go.Pd.joinG_two,←kX sep (y ::r),Lib.join_cons,Lib.join_cons,Lib.joinTail]
  simp [List.append_assoc]
  rfl
theorem pN (L:Lays.n156 P ρ) (X:Builder.Extra P ρ) (l:List Str) (sep:Str) (a:Option Addr) (c:Nat) (w:World) (hc:l.length<=c) (h1:l.length<=140737488355328) (h2:(Go.Pd.joinG sep l).length<=140737488355328)
  (h:l=[]∨∃b o,a=some ⟨b,o,none⟩/\b < w.heap.size/\∀(i:Nat) x,l[i]?=some x→w.cell? ⟨b,o+i,none⟩=some (.string ⟨x.toArray⟩)) :
  Calls P (ρ.f 156) #[.slice a l.length c,.string ⟨sep.toArray⟩] w fun e w'=>e=.returned (.string ⟨(Go.Pd.joinG sep l).toArray⟩)/\Below w.heap.size w w':=by
 rcases h with rfl | ⟨b,o,rfl,hb,hcell⟩
 ·refine (Any.strings_Join_none L X a c ⟨sep.toArray⟩ w).mono ?_
  rintro e w' ⟨rfl,rfl⟩
  exact ⟨rfl,Below.refl _ _⟩
 ·have e1:((l.map fun s:Str=>(⟨s.toArray⟩:ByteArray)).map fun x:ByteArray=>x.data.toList)=l:=by rw [List.map_map];exact List.map_id _
  have e2:(⟨sep.toArray⟩:ByteArray).data.toList=sep:=rfl
  have:=Any.strings_Join L X b o c (l.map fun s:Str=>(⟨s.toArray⟩:ByteArray)) ⟨sep.toArray⟩ w (fun j x hx=>by
   rw [List.getElem?_map] at hx
   cases hy:l[j]? with
   | none=>rw [hy] at hx;cases hx
   | some y=>rw [hy] at hx;cases hx;exact hcell j y hy) hb (by simpa using h1) (by simpa using hc) (by rw [e1,e2,kX];exact h2)
  rw [e1,e2,kX,List.length_map] at this
  exact this
theorem xX (L:Lays.n156 P ρ) (X:Builder.Extra P ρ) (l:List Str) (sep:Str) {ob:Option Prop} (h1:l.length<=140737488355328) (h2:(Go.Pd.joinG sep l).length<=140737488355328):aw P (ρ.f 156) [.lst .str l none,.str sep] [] ⟨ob,none,.str (Go.Pd.joinG sep l),[]⟩:=by
 refine cI fun w pub vs ht hv=>?_
 obtain ⟨v1,v2,rfl,hv1,hv2⟩:=VL.two_inv hv
 obtain ⟨rfl,_⟩:=hv2.str_inv
 have fin:∀{a:Option Addr} {c:Nat},v1=.slice a l.length c→l.length<=c→(l=[]∨∃b o,a=some ⟨b,o,none⟩/\b < w.heap.size/\∀(i:Nat) x,l[i]?=some x→w.cell? ⟨b,o+i,none⟩=some (.string ⟨x.toArray⟩))→
   Calls P (ρ.f 156) [v1,.string ⟨sep.toArray⟩].toArray w fun e w'=>(∃v,e=.returned v/\∀Ω,V Ω (.str (Go.Pd.joinG sep l)) v)/\Below w.heap.size w w':=fun {a c} hv hc hw=>by
  subst hv
  refine (pN L X l sep a c w hc h1 h2 hw).mono ?_
  rintro e w' ⟨rfl,hb⟩
  exact ⟨⟨_,rfl,fun Ω=>.str _ (Nat.le_trans h2 (by unfold b8;decide))⟩,hb⟩
 cases hv1 with
 | lstNil _ _ tok=>exact fin rfl (Nat.le_refl _) (.inl rfl)
 | lstVoid _ a=>exact fin rfl (Nat.le_refl _) (.inl rfl)
 | lst _ _ _ b off cap vals c1 c2 tok hcell hval=>
  refine fin rfl c1 ?_
  have at_:∀(i:Nat) x,l[i]?=some x→w.cell? ⟨b,off+i,none⟩=some (.string ⟨x.toArray⟩):=fun i x hx=>by
   obtain ⟨_,k1⟩:=hcell i x hx 0 (.str x) rfl
   obtain ⟨k2,_⟩:=(hval i x hx 0 (.str x) rfl).str_inv
   rw [k2,show off+(i *ae .str+0)=off+i by rw [show ae .str=1 from rfl];omega] at k1
   exact k1
  cases l with
  | nil=>exact .inl rfl
  | cons x r=>exact .inr ⟨b,off,rfl,aE (at_ 0 x rfl),at_⟩
theorem uV (L:Lays.n156 P ρ) (X:Builder.Extra P ρ) (l:List Str) (sep:Str) {ob:Option Prop} (h1:l.length<=140737488355328) (h2:(Go.Pd.joinG sep l).length<=140737488355328):aw P (ρ.f 156) [.arr 900 l.length 1,.str sep] [(900,.box (.row .str l))] ⟨ob,none,.str (Go.Pd.joinG sep l),[]⟩:=by
 intro w pub e vs hp ht hv hs hd hi
 obtain ⟨v1,v2,rfl,hv1,hv2⟩:=VL.two_inv hv
 obtain ⟨rfl,_⟩:=hv2.str_inv
 obtain ⟨b,off,he,hpart⟩:=hs 900 _ rfl
 cases hv1 with
 | arr _ _ _ b' len cap a he' hn hcap hmax ha=>
 have he2:e 900=some (.box b off (ab (.row .str l)).length):=he
 have he3:e 900=some (.box b' 0 len):=he'
 rw [he2] at he3
 obtain ⟨rfl,rfl,rfl⟩:b=b'/\off=0/\(ab (.row .str l)).length=len:=by
  have:=Option.some.inj he3
  injection this with q1 q2 q3
  exact ⟨q1,q2,q3⟩
 have at_:∀(i:Nat) x,l[i]?=some x→w.cell? ⟨b,0+i,none⟩=some (.string ⟨x.toArray⟩):=fun i x hx=>by
  obtain ⟨_,_,_,v,k1,k2⟩:=hpart i (.str x) (by rw [xV,List.getElem?_map,hx];rfl)
  rw [k2.str_inv.1] at k1
  exact k1
 have hw:l=[]∨∃b o,a=some ⟨b,o,none⟩/\b < w.heap.size/\∀(i:Nat) x,l[i]?=some x→w.cell? ⟨b,o+i,none⟩=some (.string ⟨x.toArray⟩):=by
  cases l with
  | nil=>exact .inl rfl
  | cons x r=>
   rcases ha with rfl | ⟨_,q,_⟩
   ·exact .inr ⟨b,0,rfl,aE (at_ 0 x rfl),at_⟩
   ·simp at q
 refine (pN L X l sep a cap w hcap h1 h2 hw).mono ?_
 rintro en w' ⟨rfl,hb⟩
 exact ⟨pub,e,fun _ _ _ h=>(by cases h),.str _ (Nat.le_trans h2 (by unfold b8;decide)),After.read hp hs hd hi hb⟩
def iY:Pat:=fun args S=>
 match args,S with
 | [a,.str sep],[]=>(match arg (.lst .str) a with | some l=>some ⟨some (l.length<=140737488355328/\(Go.Pd.joinG sep l).length<=140737488355328),none,.str (Go.Pd.joinG sep l),[]⟩ | none=>none)
 | [.arr 900 n 1,.str sep],[(900,.box (.row .str l))]=>some ⟨some (n=l.length/\l.length<=140737488355328/\(Go.Pd.joinG sep l).length<=140737488355328),none,.str (Go.Pd.joinG sep l),[]⟩
 | _,_=>none
theorem xY {f:Nat} (L:Lays.n156 P ρ) (X:Builder.Extra P ρ) (hf:ρ.f 156=f) (he:an P f):ag P f iY:=by
 subst hf
 intro args S A hA hob _
 unfold iY at hA
 split at hA
 ·split at hA
  ·rename_i hx
   cases hA
   obtain ⟨o1,o2⟩:=hob _ rfl
   exact ⟨he,aw.args (.cons (Rd.arg hx) (.cons (Rd.refl _) .nil)) (xX L X _ _ o1 o2)⟩
  ·cases hA
 ·cases hA
  obtain ⟨rfl,o1,o2⟩:=hob _ rfl
  exact ⟨he,uV L X _ _ o1 o2⟩
 ·cases hA
end Go.AL
end
section
namespace Go.Proofs
open Go.Shelf
def Tryz.lays156_ren:Go.Shelf.Ren:=⟨fun | 156=>75 | 167=>279 | 165=>144 | 166=>74 | 169=>81 | 240=>143 | 241=>209 | 276=>208 | 277=>277 | n=>n,fun | 31=>24 | 9=>9 | 3=>3 | 4=>4 | 0=>0 | 20=>20 | 72=>117 | 76=>120 | 70=>114 | 37=>115 | 75=>119 | 127=>203 | 164=>248 | 5=>5 | 80=>129 | n=>n,fun | n=>n⟩
theorem Tryz.lays156:Go.Proofs.Lays.n156 Tryz.prog Tryz.lays156_ren:={
 mixed:=by kernel_rfl
 f156:=Xt Tryz.func75
 f165:=Xt Tryz.func144
 f166:=Xt Tryz.func74
 f169:=Xt Tryz.func81
 f240:=Xt Tryz.func143
 f241:=Xt Tryz.func209
 f276:=Xt Tryz.func208
 f277:=Xt Tryz.func277
 t0:=Tryz.underlying0
 a0:=Tryz.isAgg0
 z0:=Tryz.sizeOf0
 v0:=Tryz.zeroValue0
 t3:=Tryz.underlying3
 a3:=Tryz.isAgg3
 z3:=Tryz.sizeOf3
 v3:=Tryz.zeroValue3
 t4:=Tryz.underlying4
 a4:=Tryz.isAgg4
 z4:=Tryz.sizeOf4
 v4:=Tryz.zeroValue4
 t9:=Tryz.underlying9
 a9:=Tryz.isAgg9
 z9:=Tryz.sizeOf9
 v9:=Tryz.zeroValue9
 t20:=Tryz.underlying20
 a20:=Tryz.isAgg20
 z20:=Tryz.sizeOf20
 v20:=Tryz.zeroValue20
 t31:=Tryz.underlying24
 a31:=Tryz.isAgg24
 z31:=Tryz.sizeOf24
 v31:=Tryz.zeroValue24
 t37:=Tryz.underlying115
 a37:=Tryz.isAgg115
 z37:=Tryz.sizeOf115
 v37:=Tryz.zeroValue115
 t70:=Tryz.underlying114
 a70:=Tryz.isAgg114
 z70:=Tryz.sizeOf114
 v70:=Tryz.zeroValue114
 t72:=Tryz.underlying117
 a72:=Tryz.isAgg117
 z72:=Tryz.sizeOf117
 v72:=Tryz.zeroValue117
 t75:=Tryz.underlying119
 a75:=Tryz.isAgg119
 z75:=Tryz.sizeOf119
 v75:=Tryz.zeroValue119
 t76:=Tryz.underlying120
 a76:=Tryz.isAgg120
 z76:=Tryz.sizeOf120
 v76:=Tryz.zeroValue120
 t127:=Tryz.underlying203
 a127:=Tryz.isAgg203
 z127:=Tryz.sizeOf203
 v127:=Tryz.zeroValue203
 t164:=Tryz.underlying248
 a164:=Tryz.isAgg248
 z164:=Tryz.sizeOf248
 v164:=Tryz.zeroValue248}
def Tryz.lays169_ren:Go.Shelf.Ren:=⟨fun | 169=>81 | n=>n,fun | 70=>114 | 9=>9 | 0=>0 | 72=>117 | 37=>115 | 127=>203 | 3=>3 | 5=>5 | n=>n,fun | n=>n⟩
theorem Tryz.lays169:Go.Proofs.Lays.n169 Tryz.prog Tryz.lays169_ren:={
 mixed:=by kernel_rfl
 f169:=Xt Tryz.func81
 t0:=Tryz.underlying0
 a0:=Tryz.isAgg0
 z0:=Tryz.sizeOf0
 v0:=Tryz.zeroValue0
 t3:=Tryz.underlying3
 a3:=Tryz.isAgg3
 z3:=Tryz.sizeOf3
 v3:=Tryz.zeroValue3
 t9:=Tryz.underlying9
 a9:=Tryz.isAgg9
 z9:=Tryz.sizeOf9
 v9:=Tryz.zeroValue9
 t37:=Tryz.underlying115
 a37:=Tryz.isAgg115
 z37:=Tryz.sizeOf115
 v37:=Tryz.zeroValue115
 t70:=Tryz.underlying114
 a70:=Tryz.isAgg114
 z70:=Tryz.sizeOf114
 v70:=Tryz.zeroValue114
 t72:=Tryz.underlying117
 a72:=Tryz.isAgg117
 z72:=Tryz.sizeOf117
 v72:=Tryz.zeroValue117
 t127:=Tryz.underlying203
 a127:=Tryz.isAgg203
 z127:=Tryz.sizeOf203
 v127:=Tryz.zeroValue203}
end Go.Proofs
end
section
namespace Go.Proofs
open Go.Proofs.Tryz
open Go.Shelf
def Tryz.lays190_ren:Go.Shelf.Ren:=⟨fun | 190=>198 | 125=>217 | 258=>271 | 128=>289 | 129=>290 | 302=>325 | 303=>326 | 304=>327 | 305=>328 | 306=>329 | 307=>330 | 308=>331 | 309=>332 | 310=>333 | 333=>372 | 329=>345 | 330=>346 | 334=>373 | 335=>374 | 336=>151 | 344=>389 | n=>n,fun | 31=>24 | 9=>9 | 3=>3 | 46=>255 | 0=>0 | 51=>303 | 53=>305 | 4=>4 | 183=>296 | 182=>295 | 131=>300 | 5=>5 | 218=>328 | 222=>332 | 228=>354 | 229=>231 | n=>n,fun | n=>n⟩
theorem Tryz.lays190:Go.Proofs.Lays.n190 prog Tryz.lays190_ren:={
 mixed:=by kernel_rfl
 f125:=Xt func217
 f128:=Xt func289
 f129:=Xt func290
 f190:=Xt func198
 f258:=Xt func271
 f302:=Xt func325
 f303:=Xt func326
 f304:=Xt func327
 f305:=Xt func328
 f306:=Xt func329
 f307:=Xt func330
 f308:=Xt func331
 f309:=Xt func332
 f310:=Xt func333
 f329:=Xt func345
 f330:=Xt func346
 f333:=Xt func372
 f334:=Xt func373
 f335:=Xt func374
 f336:=Xt func151
 f344:=Xt func389
 t0:=underlying0
 a0:=isAgg0
 z0:=sizeOf0
 v0:=zeroValue0
 t3:=underlying3
 a3:=isAgg3
 z3:=sizeOf3
 v3:=zeroValue3
 t4:=underlying4
 a4:=isAgg4
 z4:=sizeOf4
 v4:=zeroValue4
 t5:=underlying5
 a5:=isAgg5
 z5:=sizeOf5
 v5:=zeroValue5
 t9:=underlying9
 a9:=isAgg9
 z9:=sizeOf9
 v9:=zeroValue9
 t31:=underlying24
 a31:=isAgg24
 z31:=sizeOf24
 v31:=zeroValue24
 t46:=underlying255
 a46:=isAgg255
 z46:=sizeOf255
 v46:=zeroValue255
 t51:=underlying303
 a51:=isAgg303
 z51:=sizeOf303
 v51:=zeroValue303
 t53:=underlying305
 a53:=isAgg305
 z53:=sizeOf305
 v53:=zeroValue305
 t131:=underlying300
 a131:=isAgg300
 z131:=sizeOf300
 v131:=zeroValue300
 t182:=underlying295
 a182:=isAgg295
 z182:=sizeOf295
 v182:=zeroValue295
 t183:=underlying296
 a183:=isAgg296
 z183:=sizeOf296
 v183:=zeroValue296
 t218:=underlying328
 a218:=isAgg328
 z218:=sizeOf328
 v218:=zeroValue328
 t222:=underlying332
 a222:=isAgg332
 z222:=sizeOf332
 v222:=zeroValue332
 t228:=underlying354
 a228:=isAgg354
 z228:=sizeOf354
 v228:=zeroValue354
 t229:=underlying231
 a229:=isAgg231
 z229:=sizeOf231
 v229:=zeroValue231}
def Tryz.lays194_ren:Go.Shelf.Ren:=⟨fun | 194=>131 | n=>n,fun | 31=>24 | 9=>9 | 3=>3 | 4=>4 | 0=>0 | n=>n,fun | n=>n⟩
theorem Tryz.lays194:Go.Proofs.Lays.n194 prog Tryz.lays194_ren:={
 mixed:=by kernel_rfl
 f194:=Xt func131
 t0:=underlying0
 a0:=isAgg0
 z0:=sizeOf0
 v0:=zeroValue0
 t3:=underlying3
 a3:=isAgg3
 z3:=sizeOf3
 v3:=zeroValue3
 t4:=underlying4
 a4:=isAgg4
 z4:=sizeOf4
 v4:=zeroValue4
 t9:=underlying9
 a9:=isAgg9
 z9:=sizeOf9
 v9:=zeroValue9
 t31:=underlying24
 a31:=isAgg24
 z31:=sizeOf24
 v31:=zeroValue24}
def Tryz.lays172_ren:Go.Shelf.Ren:=⟨fun | 172=>227 | 244=>296 | 245=>297 | 247=>351 | 279=>352 | 280=>353 | 281=>354 | 282=>355 | 287=>383 | 316=>384 | 171=>145 | 205=>385 | 321=>392 | 322=>393 | 243=>210 | 246=>278 | 283=>340 | 284=>341 | 285=>342 | 286=>343 | 129=>290 | 317=>377 | 318=>378 | 319=>379 | 320=>380 | 337=>390 | 338=>391 | n=>n,fun | 9=>9 | 3=>3 | 75=>119 | 76=>120 | 4=>4 | 5=>5 | 167=>339 | 37=>115 | 0=>0 | 85=>340 | 2=>2 | 168=>342 | 53=>305 | 175=>357 | 46=>255 | 210=>360 | 127=>203 | 145=>370 | 143=>368 | 21=>21 | 171=>324 | 173=>326 | 212=>352 | 51=>303 | 20=>20 | 213=>353 | 232=>371 | 233=>372 | 80=>129 | n=>n,fun | 15=>4 | 16=>5 | 17=>3 | 18=>6 | 19=>7 | n=>n⟩
theorem Tryz.lays172:Go.Proofs.Lays.n172 prog Tryz.lays172_ren:={
 mixed:=by kernel_rfl
 f129:=Xt func290
 f171:=Xt func145
 f172:=Xt func227
 f205:=Xt func385
 f243:=Xt func210
 f244:=Xt func296
 f245:=Xt func297
 f246:=Xt func278
 f247:=Xt func351
 f279:=Xt func352
 f280:=Xt func353
 f281:=Xt func354
 f282:=Xt func355
 f283:=Xt func340
 f284:=Xt func341
 f285:=Xt func342
 f286:=Xt func343
 f287:=Xt func383
 f316:=Xt func384
 f317:=Xt func377
 f318:=Xt func378
 f319:=Xt func379
 f320:=Xt func380
 f321:=Xt func392
 f322:=Xt func393
 f337:=Xt func390
 f338:=Xt func391
 t0:=underlying0
 a0:=isAgg0
 z0:=sizeOf0
 v0:=zeroValue0
 t2:=underlying2
 a2:=isAgg2
 z2:=sizeOf2
 v2:=zeroValue2
 t3:=underlying3
 a3:=isAgg3
 z3:=sizeOf3
 v3:=zeroValue3
 t4:=underlying4
 a4:=isAgg4
 z4:=sizeOf4
 v4:=zeroValue4
 t5:=underlying5
 a5:=isAgg5
 z5:=sizeOf5
 v5:=zeroValue5
 t9:=underlying9
 a9:=isAgg9
 z9:=sizeOf9
 v9:=zeroValue9
 t20:=underlying20
 a20:=isAgg20
 z20:=sizeOf20
 v20:=zeroValue20
 t21:=underlying21
 a21:=isAgg21
 z21:=sizeOf21
 v21:=zeroValue21
 t37:=underlying115
 a37:=isAgg115
 z37:=sizeOf115
 v37:=zeroValue115
 t46:=underlying255
 a46:=isAgg255
 z46:=sizeOf255
 v46:=zeroValue255
 t51:=underlying303
 a51:=isAgg303
 z51:=sizeOf303
 v51:=zeroValue303
 t53:=underlying305
 a53:=isAgg305
 z53:=sizeOf305
 v53:=zeroValue305
 t75:=underlying119
 a75:=isAgg119
 z75:=sizeOf119
 v75:=zeroValue119
 t76:=underlying120
 a76:=isAgg120
 z76:=sizeOf120
 v76:=zeroValue120
 t85:=underlying340
 a85:=isAgg340
 z85:=sizeOf340
 v85:=zeroValue340
 t127:=underlying203
 a127:=isAgg203
 z127:=sizeOf203
 v127:=zeroValue203
 t143:=underlying368
 a143:=isAgg368
 z143:=sizeOf368
 v143:=zeroValue368
 t145:=underlying370
 a145:=isAgg370
 z145:=sizeOf370
 v145:=zeroValue370
 t167:=underlying339
 a167:=isAgg339
 z167:=sizeOf339
 v167:=zeroValue339
 t168:=underlying342
 a168:=isAgg342
 z168:=sizeOf342
 v168:=zeroValue342
 t171:=underlying324
 a171:=isAgg324
 z171:=sizeOf324
 v171:=zeroValue324
 t173:=underlying326
 a173:=isAgg326
 z173:=sizeOf326
 v173:=zeroValue326
 t175:=underlying357
 a175:=isAgg357
 z175:=sizeOf357
 v175:=zeroValue357
 t210:=underlying360
 a210:=isAgg360
 z210:=sizeOf360
 v210:=zeroValue360
 t212:=underlying352
 a212:=isAgg352
 z212:=sizeOf352
 v212:=zeroValue352
 t213:=underlying353
 a213:=isAgg353
 z213:=sizeOf353
 t232:=underlying371
 a232:=isAgg371
 z232:=sizeOf371
 v232:=zeroValue371
 t233:=underlying372
 a233:=isAgg372
 z233:=sizeOf372
 v233:=zeroValue372
 g15:=by kernel_rfl
 g16:=by kernel_rfl
 g17:=by kernel_rfl
 g18:=by kernel_rfl
 g19:=by kernel_rfl}
def Tryz.sorted200_ren:Go.Shelf.Ren:=⟨fun | 6=>129 | 8=>197 | 9=>198 | 11=>270 | 13=>217 | 12=>271 | 23=>289 | 24=>290 | 14=>325 | 15=>326 | 16=>327 | 17=>328 | 18=>329 | 19=>330 | 20=>331 | 21=>332 | 22=>333 | 25=>372 | 26=>345 | 27=>346 | 28=>373 | 29=>374 | 30=>151 | 31=>389 | n=>n,fun | 26=>9 | 28=>193 | 24=>24 | 0=>0 | 3=>3 | 37=>255 | 48=>303 | 50=>305 | 4=>4 | 40=>296 | 39=>295 | 45=>300 | 5=>5 | 9=>9 | 51=>328 | 55=>332 | 57=>354 | 58=>231 | 33=>34 | n=>n,fun | n=>n⟩
theorem Tryz.sorted200:Go.Proofs.SlLaysZ.n6 prog Tryz.sorted200_ren:={
 mixed:=by kernel_rfl
 f6:=⟨Tryz.f129.name,by decide,Xt func129⟩
 f8:=⟨Tryz.f197.name,by decide,Xt func197⟩
 f11:=⟨Tryz.f270.name,by decide,Xt func270⟩
 t0:=underlying0
 a0:=isAgg0
 z0:=sizeOf0
 v0:=zeroValue0
 t24:=underlying24
 a24:=isAgg24
 z24:=sizeOf24
 v24:=zeroValue24
 t26:=underlying9
 a26:=isAgg9
 z26:=sizeOf9
 v26:=zeroValue9
 t28:=underlying193
 a28:=isAgg193
 z28:=sizeOf193
 v28:=zeroValue193
 i26:=by kernel_rfl}
def Tryz.lays106_ren:Go.Shelf.Ren:=⟨fun | 106=>261 | 213=>316 | 265=>365 | n=>n,fun | 9=>9 | 3=>3 | n=>n,fun | n=>n⟩
theorem Tryz.lays106:Go.Proofs.Lays.n106 prog Tryz.lays106_ren:={
 mixed:=by kernel_rfl
 f106:=Xt func261
 f213:=Xt func316
 f265:=Xt func365
 t3:=underlying3
 a3:=isAgg3
 z3:=sizeOf3
 v3:=zeroValue3
 t9:=underlying9
 a9:=isAgg9
 z9:=sizeOf9
 v9:=zeroValue9}
end Go.Proofs
end
section
namespace Go.Proofs
open Go.RowKit Go.Shelf Go.AL
variable [Tabs]
attribute [local go_sem] Oper.semAt_some
set_option maxRecDepth 100000 in
set_option maxHeartbeats 2000000 in
theorem Tryz.values1 (F:Fence) (n:Nat) (h7:F.fn 199) (hro:F.round=none) (hn:1<=n) (l Bs Bo b off len cap:Nat) (zs:List Str) (hreach:len<=maxLen) (J:List Str→World→Prop) (hBl:∀pre W,J pre W→W.cell? ⟨Bs,Bo,none⟩=some (.slice (some ⟨b,off,none⟩) len cap)/\∀j,j < len→W.cell? ⟨b,off+j,none⟩=some (encStr (zs[j]?.getD [])))
  (hY:∀pre x W,J pre W→pre.length < len→YieldAt F (n - 1) Tryz.prog l #[encStr x] W fun e W'=>e=.returned (.bool true)/\J (pre++[x]) W')
  (W:World) (h0:J [] W) :
  CallsIn F n Tryz.prog 199 #[.func (.yield l) #[] #[],.pointer (some ⟨Bs,Bo,none⟩)] W fun e W'=>(∃v,e=.returned v)/\∃ys,ys=upto (fun j=>zs[j]?.getD []) len/\J ys W':=by
 obtain ⟨hBs,hc⟩:=hBl _ _ h0
 refine callsIn_of_wp Tryz.func199 rfl h7 ?_ hro
 simp only [Tryz.ntmps199,List.size_toArray,List.length_cons,List.length_nil,Nat.reduceAdd,Nat.reduceSub,Array.replicate_succ,Array.replicate_zero,List.push_toArray,List.append_toArray,List.nil_append,List.cons_append]
 gi_wp2
 gi_loopw [7] (fun i wr=>∃k:Nat,k<=len/\i=.int .i64 k/\J (upto (fun j=>zs[j]?.getD []) k) wr)
  (fun i _=>len - (intOf i).toNat)
 case atStart=>exact ⟨0,Nat.zero_le _,rfl,h0⟩
 case round=>
  obtain ⟨k,hk,rfl,hJs⟩:=hrel
  have hcx:k < len→wr.cell? ⟨b,off+k,none⟩=some (encStr (zs[k]?.getD [])):=fun h=>(hBl _ _ hJs).2 k h
  by_cases hlt:k < len
  ·obtain ⟨fn,tmps,assign,body,hy,hR⟩:=hY _ (zs[k]?.getD []) wr hJs (by rw [uG];exact hlt)
   have hcx':=hcx hlt
   have hsmall:(k:Int)+1<=9223372036854775807:=by unfold maxLen at hreach;omega
   gi_wp2
   refine hR.mono ?_
   rintro e W3 ⟨rfl,hJ3⟩
   gi_wp2
   go_roundw
   case rel=>exact ⟨k+1,by omega,by simp,by rw [Bn];exact hJ3⟩
   case measure=>simp [intOf];omega
  ·obtain rfl:k=len:=by omega
   gi_wp2
   go_end0
   exact ⟨⟨_,rfl⟩,_,rfl,hJs⟩
set_option maxRecDepth 100000 in
set_option maxHeartbeats 1000000 in
theorem Tryz.values1_nil (F:Fence) (n:Nat) (h7:F.fn 199) (hro:F.round=none) (l Bs Bo cap:Nat) (a:Option Addr) (J:List Str→World→Prop) (W:World) (hBs:W.cell? ⟨Bs,Bo,none⟩=some (.slice a 0 cap)) (h0:J [] W) :
  CallsIn F n Tryz.prog 199 #[.func (.yield l) #[] #[],.pointer (some ⟨Bs,Bo,none⟩)] W fun e W'=>(∃v,e=.returned v)/\J [] W':=by
 refine callsIn_of_wp Tryz.func199 rfl h7 ?_ hro
 simp only [Tryz.ntmps199,List.size_toArray,List.length_cons,List.length_nil,Nat.reduceAdd,Nat.reduceSub,Array.replicate_succ,Array.replicate_zero,List.push_toArray,List.append_toArray,List.nil_append,List.cons_append]
 gi_wp2
 gi_loopw [7] (fun i wr=>i=.int .i64 0/\J [] wr) (fun _ _=>0)
 case atStart=>exact ⟨rfl,h0⟩
 case round=>
  obtain ⟨rfl,hJs⟩:=hrel
  gi_wp2
  go_end0
  exact ⟨⟨_,rfl⟩,hJs⟩
theorem Tryz.valuesL:sV Tryz.prog 199:=by
 intro w b o sv zs hz hc hs l J W a1 a2 a3 a4 a5
 have hb:=aE hc
 rcases hs with ⟨⟨a,cap,rfl⟩,rfl⟩ | ⟨g,off,cap,rfl,hg,hcs⟩
 ·refine (Tryz.values1_nil Fence.wide 2 trivial rfl l b o cap a J W ((a1.cell (p:=⟨b,o,none⟩) hb).trans hc) a5).mono ?_
  rintro e W' ⟨h1,h2⟩
  exact ⟨h1,[],rfl,h2⟩
 ·refine (Tryz.values1 Fence.wide 2 trivial rfl (by omega) l b o g off zs.length cap zs hz J (fun pre W1 hJ=>⟨((a3 _ _ hJ).cell (p:=⟨b,o,none⟩) hb).trans hc,fun j hj=>((a3 _ _ hJ).cell (p:=⟨g,off+j,none⟩) hg).trans (hcs j hj)⟩)
   (fun pre x W1 h1 h2=>(a4 pre x W1 h1 h2).mono fun e W' h=>⟨h.1,h.2.1⟩) W a5).mono ?_
  rintro e W' ⟨h1,ys,h2,h3⟩
  exact ⟨h1,ys,by rw [h2,Dz],h3⟩
end Go.Proofs
end
section
namespace Go.AL.Seat
open Go Go.AL Go.Proofs Go.Shelf Go.Pd
variable [Tabs]
theorem Hz:SortL Tryz.prog Tryz.sorted200_ren:=
 ⟨Tryz.sorted200,⟨fun blk off cap ss W hH hblk hsz=>callsIn_wide.2 (Any.slices_Sort_string Tryz.lays190 blk off cap ss W hH hblk hsz),fun p cap W=>callsIn_wide.2 (Any.slices_Sort_string_none Tryz.lays190 p cap W)⟩,enters_of Tryz.func198 (by kernel_rfl) rfl⟩
theorem iZ:ag Tryz.prog 129 (dN 199):=
 qN Hz rfl (enters_of Tryz.func199 (by kernel_rfl) rfl) Tryz.valuesL (an.mk' Tryz.func129 (by kernel_rfl))
theorem gL:ag Tryz.prog 131 dO:=qO Tryz.lays194 rfl (an.mk' Tryz.func131 (by kernel_rfl))
theorem DK:ag Tryz.prog 227 (p1 .str fun t=>⟨some (lU t),none,.tup [.int .i64 (kE t),.nilif],[]⟩):=xP Tryz.lays172 rfl (an.mk' Tryz.func227 (by kernel_rfl))
end Go.AL.Seat
end
section
namespace Go.Pd
open Go.AL
def cJ (b:UInt8):Bool:=!(decide (bI b < 32) && !decide (bI b=10) && !decide (bI b=9))
def gC (s:Str):Bool:=s.all cJ && (jK s).isNone
def aW (s:Shape):Bool:=decide (bj s=0) && allS aj s
def dy (t:Trm) (n v s p:Nat):Bool:=decide (t.names.length=n) && decide (t.vars.length=v) && decide (t.shapes.length=s) && decide (t.parts.length=p)
def fI (t:Trm):Bool:=decide (0<=t.pos) && (decide (t.n=0) || decide (t.kind=1)) && (decide (t.pkg=[]) || decide (t.kind=5)) && t.shapes.all aW
def jO (l:List Str):Bool:=l.all al && decide l.Nodup
def je (t:Trm):Bool:=
 if t.kind=1 then decide (t.name=[]) && decide (0<=t.n) && decide (t.n<=999999999999999) && dy t 0 0 0 0
 else if t.kind=2 then gC t.name && dy t 0 0 0 0
 else if t.kind=3∨t.kind=4 then decide (t.name=[]) && dy t 0 0 0 0
 else if t.kind=5 then al t.name && (decide (t.pkg=[]) || al t.pkg) && dy t 0 0 0 0
 else if t.kind=6 then decide (t.name=[]) && decide (t.names.length<=4096) && jO t.names && dy t t.names.length 0 t.names.length 1
 else if t.kind=7 then decide (t.name=[]) && decide (0 < t.parts.length) && dy t 0 0 0 t.parts.length
 else if t.kind=8 then decide (t.name=[]) && jO t.names && dy t t.names.length 0 0 t.names.length
 else if t.kind=9∨t.kind=10 then al t.name && dy t 0 0 0 1
 else if t.kind=11 then decide (t.name=[]) && dy t 0 0 1 t.parts.length
 else if t.kind=12 then decide (t.name=[]) && dy t 0 0 1 3
 else if t.kind=13 then decide (t.name=[]) && jO t.names && t.vars.all al && dy t t.names.length t.names.length (t.names.length+1) (t.names.length+1)
 else if t.kind=14 then al t.name && dy t 0 0 0 2
 else if t.kind=15 then decide (t.name=[]) && dy t 0 0 1 1
 else if t.kind=16∨t.kind=17 then bB t.name && dy t 0 0 0 1
 else false
def aq (t:Trm):Bool:=fI t && je t
mutual
def allT (f:Trm→Bool):Trm→Bool
 | ⟨k,g,q,z,ns,vs,ss,ps,pp⟩=>f ⟨k,g,q,z,ns,vs,ss,ps,pp⟩ && allTL f ps
def allTL (f:Trm→Bool):List Trm→Bool
 | []=>true
 | p ::r=>allT f p && allTL f r
end
theorem allT_eq (f:Trm→Bool) (t:Trm):allT f t=(f t && allTL f t.parts):=by cases t;rw [allT]
theorem allTL_all (f:Trm→Bool):∀l:List Trm,allTL f l=l.all (allT f)
 | []=>rfl
 | p ::r=>by rw [List.all_cons,←allTL_all f r];rw [allTL]
def bT (t:Trm):Bool:=allT (fun x=>decide (x.names.length<=8796093022208)) t
theorem Bx {t x:Trm} (h:bT t=true) (hx:x∈t.parts):bT x=true:=by
 unfold bT at h ⊢
 rw [allT_eq,Bool.and_eq_true,allTL_all] at h
 exact List.all_eq_true.1 h.2 x hx
theorem xZ {t:Trm} (h:bT t=true):t.names.length<=8796093022208:=by
 unfold bT at h
 rw [allT_eq,Bool.and_eq_true] at h
 exact Xo h.1
def bD (t:Trm):Int:=
 if 4096 < (countT t 4096).1 then 3 else if 40 < (countT t 4096).2 then 91 else if allT aq t=true then 0 else 80
end Go.Pd
namespace Go.Pd
open Go.AL
theorem dnZ (n:Nat):decide ((n:Int)=0)=decide (n=0):=decide_eq_decide.2 (by omega)
theorem dn1 (n:Nat):decide ((n:Int)=1)=decide (n=1):=decide_eq_decide.2 (by omega)
theorem dn2 (n:Nat):decide ((n:Int)=2)=decide (n=2):=decide_eq_decide.2 (by omega)
theorem dn3 (n:Nat):decide ((n:Int)=3)=decide (n=3):=decide_eq_decide.2 (by omega)
theorem dnN (n m:Nat):decide ((n:Int)=(m:Int))=decide (n=m):=decide_eq_decide.2 (by omega)
theorem dnS (n m:Nat):decide ((n:Int)=(m:Int)+1)=decide (n=m+1):=decide_eq_decide.2 (by omega)
theorem dnL (n:Nat):decide ((n:Int)<=4096)=decide (n<=4096):=decide_eq_decide.2 (by omega)
theorem dnP (n:Nat):decide ((0:Int) < (n:Int))=decide (0 < n):=decide_eq_decide.2 (by omega)
theorem uW (s:Str) (k:Nat) (h:k < s.length):(cn s).getD k (dfl (Ty.int IntKind.u8))=bI (s.getD k 0):=by
 unfold cn
 simp [List.getD_eq_getElem?_getD,h,bI]
theorem rF (b:UInt8):cJ b=false↔(bI b < 32/\bI b≠10/\bI b≠9):=by
 unfold cJ
 simp only [Bool.not_eq_false',Bool.and_eq_true,decide_eq_true_eq,Bool.not_eq_true',decide_eq_false_iff_not]
 omega
end Go.Pd
end
section
namespace Go.Pd
open Go Go.AL Go.Lib
def bc (a b:Int):Int:=if a < b then -1 else if b < a then 1 else 0
def ed (a b:Str):Int:=if a < b then -1 else if b < a then 1 else 0
theorem DL (a b:UInt8):a < b∨a=b∨b < a:=by
 rcases Nat.lt_trichotomy a.toNat b.toNat with h | h | h
 ·exact .inl (UInt8.lt_iff_toNat_lt.2 h)
 ·exact .inr (.inl (UInt8.toNat_inj.1 h))
 ·exact .inr (.inr (UInt8.lt_iff_toNat_lt.2 h))
theorem uX:ed [] []=0:=by
 have h:¬([]:Str) < []:=List.not_lt_nil _
 unfold ed;rw [if_neg h,if_neg h]
theorem qR (b:UInt8) (y:Str):ed [] (b ::y)=-1:=by
 unfold ed;rw [if_pos (List.nil_lt_cons b y)]
theorem qS (b:UInt8) (y:Str):ed (b ::y) []=1:=by
 unfold ed;rw [if_neg (List.not_lt_nil _),if_pos (List.nil_lt_cons b y)]
theorem iu (a b:UInt8) (x y:Str):ed (a ::x) (b ::y)=if a < b then -1 else if b < a then 1 else ed x y:=by
 unfold ed
 have ht:=DL a b
 rcases ht with h | h | h
 ·rw [if_pos h,if_pos (List.cons_lt_cons_iff.2 (.inl h))]
 ·subst h
  have e:∀x y:Str,a ::x < a ::y↔x < y:=fun x y=>by
   rw [List.cons_lt_cons_iff]
   constructor
   ·rintro (h | h)
    ·exact absurd h (UInt8.lt_irrefl a)
    ·exact h.2
   ·exact fun h=>.inr ⟨rfl,h⟩
  simp only [e,if_neg (UInt8.lt_irrefl a)]
 ·have h2:¬a < b:=fun e=>UInt8.lt_irrefl a (UInt8.lt_trans e h)
  have h3:¬a ::x < b ::y:=fun e=>by
   rcases List.cons_lt_cons_iff.1 e with e | e
   ·exact h2 e
   ·rw [e.1] at h;exact UInt8.lt_irrefl b h
  rw [if_neg h2,if_pos h,if_neg h3,if_pos (List.cons_lt_cons_iff.2 (.inl h))]
theorem pO:∀a b:Str,compareBytes a b=ed a b
 | [],[]=>by rw [uX];rfl
 | [],b ::y=>by rw [qR];rfl
 | b ::y,[]=>by rw [qS];rfl
 | a ::x,b ::y=>by rw [iu,compareBytes,pO x y]
theorem mN (a:Int):bc a a=0:=by unfold bc;rw [if_neg (Int.lt_irrefl a),if_neg (Int.lt_irrefl a)]
theorem mO:∀s:Str,ed s s=0
 | []=>uX
 | a ::x=>by rw [iu,if_neg (UInt8.lt_irrefl a),if_neg (UInt8.lt_irrefl a),mO x]
def bQ (s:Str):Str:=s.dropWhile fun b=>decide (b=48)
def uY (a b:Str):Int:=if bc (bQ a).length (bQ b).length=0 then ed (bQ a) (bQ b) else bc (bQ a).length (bQ b).length
def y9 (n:Nat) (s:Str):Str:=List.replicate (n - s.length) 48++s
theorem jP (s:Str):∃k,s=List.replicate k 48++bQ s:=by
 induction s with
 | nil=>exact ⟨0,rfl⟩
 | cons a x ih=>
  unfold bQ
  by_cases h:a=48
  ·obtain ⟨k,e⟩:=ih
   rw [List.dropWhile_cons,if_pos (Xd h)]
   exact ⟨k+1,by rw [List.replicate_succ,List.cons_append,h];exact congrArg _ e⟩
  ·rw [List.dropWhile_cons,if_neg (fun e=>h (Xo e))]
   exact ⟨0,rfl⟩
theorem pP {s:Str} (hs:aI s=true) {b:UInt8} {r:Str} (h:bQ s=b ::r):(48:UInt8) < b:=by
 have hm:b∈s:=by
  obtain ⟨k,e⟩:=jP s
  rw [e,h];simp
 have hn:¬b=48:=by
  intro e
  have hh:=List.head?_dropWhile_not (fun b:UInt8=>decide (b=48)) s
  unfold bQ at h
  rw [h,e] at hh
  simp at hh
 unfold aI at hs
 rw [Bool.and_eq_true,List.all_eq_true] at hs
 have hd:=hs.2 b hm
 unfold bJ bI at hd
 simp only [Bool.and_eq_true,decide_eq_true_eq] at hd
 have h1:(48:Nat)<=b.toNat:=by omega
 have h2:b.toNat≠48:=fun e=>hn (UInt8.toNat_inj.1 e)
 exact UInt8.lt_iff_toNat_lt.2 (by show (48:Nat) < b.toNat;omega)
theorem rG {x y:Str} (hx:∀b r,x=b ::r→(48:UInt8) < b) (hy:∀b r,y=b ::r→(48:UInt8) < b):∀k l:Nat,k+x.length=l+y.length→
  ed (List.replicate k 48++x) (List.replicate l 48++y)=if bc x.length y.length=0 then ed x y else bc x.length y.length
 | k+1,l+1,h=>by
  rw [List.replicate_succ,List.replicate_succ,List.cons_append,List.cons_append,iu,if_neg (UInt8.lt_irrefl _),if_neg (UInt8.lt_irrefl _),rG hx hy k l (by omega)]
 | 0,0,h=>by
  have e:x.length=y.length:=by omega
  rw [e,mN,if_pos rfl];try rfl
 | 0,l+1,h=>by
  cases x with
  | nil=>simp at h;try omega
  | cons b r=>
   have hb:=hx b r rfl
   have hc:bc (b ::r).length y.length=1:=by
    unfold bc
    have h1:¬((b ::r).length:Int) < y.length:=by omega
    have h2:(y.length:Int) < ((b ::r).length:Int):=by omega
    rw [if_neg h1,if_pos h2]
   rw [hc,if_neg (by decide),List.replicate_succ,List.replicate_zero,List.nil_append,List.cons_append,iu,if_neg (fun e=>UInt8.lt_irrefl _ (UInt8.lt_trans e hb)),if_pos hb]
 | k+1,0,h=>by
  cases y with
  | nil=>simp at h;try omega
  | cons b r=>
   have hb:=hy b r rfl
   have hc:bc x.length (b ::r).length=-1:=by
    unfold bc
    have h2:(x.length:Int) < ((b ::r).length:Int):=by omega
    rw [if_pos h2]
   rw [hc,if_neg (by decide),List.replicate_succ,List.replicate_zero,List.nil_append,List.cons_append,iu,if_pos hb]
theorem Al (k l:Nat) (x:Str):List.replicate k (48:UInt8)++(List.replicate l 48++x)=List.replicate (k+l) 48++x:=by
 rw [←List.append_assoc,List.replicate_append_replicate]
theorem FQ {a b:Str} (ha:aI a=true) (hb:aI b=true):ed (y9 b.length a) (y9 a.length b)=uY a b:=by
 obtain ⟨k,ek⟩:=jP a
 obtain ⟨l,el⟩:=jP b
 have lk:a.length=k+(bQ a).length:=by
  have:=congrArg List.length ek
  rwa [List.length_append,List.length_replicate] at this
 have ll:b.length=l+(bQ b).length:=by
  have:=congrArg List.length el
  rwa [List.length_append,List.length_replicate] at this
 have h1:y9 b.length a=List.replicate (b.length - a.length+k) 48++bQ a:=by
  unfold y9
  rw [←Al,←ek]
 have h2:y9 a.length b=List.replicate (a.length - b.length+l) 48++bQ b:=by
  unfold y9
  rw [←Al,←el]
 rw [h1,h2,rG (fun _ _ e=>pP ha e) (fun _ _ e=>pP hb e) _ _ (by omega)]
 try rfl
def fv (a b:Str):Int:=if aI a=true then (if aI b=true then uY a b else -1) else if aI b=true then 1 else ed a b
def fb:List Str→List Str→Int
 | a ::l,b ::m=>if fv a b=0 then fb l m else fv a b
 | l,m=>bc l.length m.length
def eF (a b:Vers):Int:=
 if ¬bc a.major b.major=0 then bc a.major b.major else if ¬bc a.minor b.minor=0 then bc a.minor b.minor else if ¬bc a.patch b.patch=0 then bc a.patch b.patch
 else if a.pre=[] then (if b.pre=[] then 0 else 1) else if b.pre=[] then -1 else fb (splitB 46 a.pre) (splitB 46 b.pre)
theorem By (s:Str):fv s s=0:=by
 unfold fv uY
 rw [mN,mO,mO]
 by_cases h:aI s=true <;> simp [h]
theorem rH:∀l:List Str,fb l l=0
 | []=>rfl
 | a ::l=>by rw [fb,By,if_pos rfl,rH l]
theorem Bz (v:Vers):eF v v=0:=by
 unfold eF
 simp only [mN,rH,not_true,if_false]
 split <;> rfl
theorem DM (l:List Str):fb l []=bc l.length 0:=by cases l <;> rfl
theorem DN (l:List Str):fb [] l=bc 0 l.length:=by cases l <;> rfl
theorem rI {l m:List Str} {k:Nat} (h1:k < l.length) (h2:k < m.length) :
  fb (l.drop k) (m.drop k)=if fv (l.getD k (dfl .str)) (m.getD k (dfl .str))=0 then fb (l.drop (k+1)) (m.drop (k+1)) else fv (l.getD k (dfl .str)) (m.getD k (dfl .str)):=by
 rw [ai l k (dfl .str) h1,ai m k (dfl .str) h2,fb]
theorem DO (a b k:Nat) (h1:k<=a) (h2:k<=b):bc ((a - k:Nat):Int) ((b - k:Nat):Int)=bc a b:=by
 unfold bc
 have e1:((a - k:Nat):Int) < ((b - k:Nat):Int)↔(a:Int) < b:=by omega
 have e2:((b - k:Nat):Int) < ((a - k:Nat):Int)↔(b:Int) < a:=by omega
 simp only [e1,e2]
theorem uZ {l m:List Str} {k:Nat} (h1:k<=l.length) (h2:k<=m.length) (h:k=l.length∨k=m.length):fb (l.drop k) (m.drop k)=bc l.length m.length:=by
 rw [←DO l.length m.length k h1 h2]
 rcases h with rfl | rfl
 ·rw [List.drop_length,DN,List.length_drop,Nat.sub_self];rfl
 ·rw [List.drop_length,DM,List.length_drop,Nat.sub_self];rfl
def DQ (p c:Int):Bool:=
 if p=1 then decide (c < 0) else if p=2 then decide (c<=0) else if p=3 then decide (c=0) else if p=4 then decide (0<=c) else if p=5 then decide (0 < c) else false
def kl (v:Vers) (b:Bnd):Bool:=DQ b.op (eF v b.v)
theorem yb (p c:Int) {N Y:Prop} (nx:DQ p c=false→N) (yx:DQ p c=true→Y) :
  if decide (p=1)=true then (if decide (0<=c)=true then N else Y) else if decide (p=2)=true then (if decide (0 < c)=true then N else Y) else if decide (p=3)=true then (if (!decide (c=0))=true then N else Y)
  else if decide (p=4)=true then (if decide (c < 0)=true then N else Y) else if decide (p=5)=true then (if decide (c<=0)=true then N else Y) else N:=by
 unfold DQ at nx yx
 refine aa (fun h=>?_) (fun h=>?_)
 ·rw [if_pos (Xo h)] at nx yx
  exact aa (fun e=>nx (Xf (by have:=Xo e;omega))) (fun e=>yx (Xd (by have:¬0<=c:=fun k=>e (Xd k);omega)))
 rw [if_neg (fun e=>h (Xd e))] at nx yx
 refine aa (fun h=>?_) (fun h=>?_)
 ·rw [if_pos (Xo h)] at nx yx
  exact aa (fun e=>nx (Xf (by have:=Xo e;omega))) (fun e=>yx (Xd (by have:¬0 < c:=fun k=>e (Xd k);omega)))
 rw [if_neg (fun e=>h (Xd e))] at nx yx
 refine aa (fun h=>?_) (fun h=>?_)
 ·rw [if_pos (Xo h)] at nx yx
  exact aa (fun e=>nx (Xf (by simpa using e))) (fun e=>yx (Xd (by simpa using e)))
 rw [if_neg (fun e=>h (Xd e))] at nx yx
 refine aa (fun h=>?_) (fun h=>?_)
 ·rw [if_pos (Xo h)] at nx yx
  exact aa (fun e=>nx (Xf (by have:=Xo e;omega))) (fun e=>yx (Xd (by have:¬c < 0:=fun k=>e (Xd k);omega)))
 rw [if_neg (fun e=>h (Xd e))] at nx yx
 refine aa (fun h=>?_) (fun h=>?_)
 ·rw [if_pos (Xo h)] at nx yx
  exact aa (fun e=>nx (Xf (by have:=Xo e;omega))) (fun e=>yx (Xd (by have:¬c<=0:=fun k=>e (Xd k);omega)))
 rw [if_neg (fun e=>h (Xd e))] at nx yx
 exact nx rfl
def bn (v:Vers) (l:List Bnd):Bool:=l.all (kl v)
def eh (b:Bnd):Bool:=decide (1<=b.op/\b.op<=5) && decide (bf b.v=0)
def fB (l:List Bnd):Int:=if 20 < l.length then 50 else if l.all eh=true then 0 else 50
def pQ (n:Int):Str:=if n=1 then [60] else if n=2 then [60,61] else if n=3 then [61] else if n=4 then [62,61] else if n=5 then [62] else []
theorem DR (n:Int):pQ n=[]↔¬(1<=n/\n<=5):=by
 unfold pQ
 repeat' split
 all_goals simp
 all_goals omega
theorem kY {v:Vers} (h:bf v=0):v.pre.length<=24:=by
 unfold bf at h
 split at h
 ·exact absurd h (by decide)
 ·split at h
  ·exact absurd h (by decide)
  ·omega
def orI:List Int→Int
 | []=>0
 | a ::l=>if a=0 then orI l else a
def nzT (a b:Str):Int:=if a=[]/\b=[] then 0 else 1
theorem ye {c:UInt8} {r:Str} (h:c=48):bQ (c ::r)=bQ r:=by
 unfold bQ;rw [List.dropWhile_cons,if_pos (Xd h)]
theorem yf {c:UInt8} {r:Str} (h:¬c=48):bQ (c ::r)=c ::r:=by
 unfold bQ;rw [List.dropWhile_cons,if_neg (fun e=>h (Xo e))]
theorem mP {a b:Int} (h:bc a b=0):a=b:=by
 unfold bc at h
 split at h
 ·exact absurd h (by decide)
 ·split at h
  ·exact absurd h (by decide)
  ·omega
theorem rJ {a b c:Int}:orI [a,b,c]=if ¬a=0 then a else if ¬b=0 then b else if ¬c=0 then c else 0:=by
 simp only [orI]
 repeat' split
 all_goals simp_all
theorem vb {a b c:Int}:orI [a,b,c]=0↔a=0/\b=0/\c=0:=by
 rw [rJ]
 repeat' split
 all_goals simp_all
theorem rK:∀{l:List Int} {k:Nat},(∀j < k,l.getD j 0=0)→k < l.length→¬l.getD k 0=0→orI l=l.getD k 0
 | a ::l,0,_,_,h=>by
  rw [orI,if_neg (by simpa using h)];rfl
 | a ::l,k+1,h0,hk,h=>by
  have e:a=0:=by simpa using h0 0 (by omega)
  rw [orI,if_pos e]
  have:=rK (l:=l) (k:=k) (fun j hj=>by simpa using h0 (j+1) (by omega)) (by simpa using hk) (by simpa using h)
  rw [this];simp
 | [],_,_,hk,_=>by simp at hk
def jQ (a b:Vers):Int:=orI [bc a.major b.major,bc a.minor b.minor,bc a.patch b.patch]
theorem td (a b:Vers):eF a b=if ¬jQ a b=0 then jQ a b else if a.pre=[] then (if b.pre=[] then 0 else 1) else if b.pre=[] then -1 else fb (splitB 46 a.pre) (splitB 46 b.pre):=by
 unfold eF jQ
 rw [rJ]
 by_cases h1:bc a.major b.major=0
 ·by_cases h2:bc a.minor b.minor=0
  ·by_cases h3:bc a.patch b.patch=0
   ·simp only [h1,h2,h3,not_true,if_false]
   ·simp only [h1,h2,h3,not_true,if_false,not_false_eq_true,if_true]
  ·simp only [h1,h2,not_true,if_false,not_false_eq_true,if_true]
 ·simp only [h1,not_false_eq_true,if_true]
theorem DS {a b:Vers} (h:jQ a b=0) (hp:a.pre=b.pre):a=b:=by
 obtain ⟨h1,h2,h3⟩:=vb.1 h
 cases a;cases b
 simp only at h1 h2 h3 hp
 rw [mP h1,mP h2,mP h3,hp]
theorem DT (a b:Int):-1<=bc a b/\bc a b<=1:=by
 unfold bc
 split
 ·omega
 ·split <;> omega
theorem FR (a b:Str):nzT a b=0∨nzT a b=1:=by
 unfold nzT
 split
 ·exact .inl rfl
 ·exact .inr rfl
theorem H0 {a b:Vers} (h:jQ a b=0) (hp:a.pre=[]∨b.pre=[]):bc b.pre.length a.pre.length *nzT a.pre b.pre=eF a b:=by
 rw [td,if_neg (fun e=>e h)]
 have pos:∀{s:Str},¬s=[]→(0:Int) < s.length:=fun {s} e=>by
  have:=List.length_pos_iff.2 e
  omega
 by_cases ha:a.pre=[]
 ·by_cases hb:b.pre=[]
  ·rw [if_pos ha,if_pos hb,nzT,if_pos ⟨ha,hb⟩,Int.mul_zero]
  ·have:=pos hb
   rw [if_pos ha,if_neg hb,nzT,if_neg (fun e=>hb e.2),Int.mul_one,ha]
   unfold bc
   simp only [List.length_nil]
   rw [if_neg (by omega),if_pos (by omega)]
 ·have hb:b.pre=[]:=hp.resolve_left ha
  have:=pos ha
  rw [if_neg ha,if_pos hb,nzT,if_neg (fun e=>ha e.1),Int.mul_one,hb]
  unfold bc
  simp only [List.length_nil]
  rw [if_pos (by omega)]
theorem mQ (c:UInt8):∀(s:Str),∀x∈splitB c s,x.length<=s.length
 | [],x,h=>by rw [List.mem_singleton.1 h];exact Nat.le_refl _
 | b ::r,x,h=>by
  have ih:=mQ c r
  unfold splitB at h
  split at h
  ·rcases List.mem_cons.1 h with e | e
   ·rw [e];exact Nat.zero_le _
   ·exact Nat.le_succ_of_le (ih x e)
  ·split at h
   ·rw [List.mem_singleton.1 h];exact Nat.succ_le_succ (Nat.zero_le _)
   ·rename_i p ps e0
    rcases List.mem_cons.1 h with e | e
    ·rw [e]
     exact Nat.succ_le_succ (ih p (by rw [e0];exact List.mem_cons_self ..))
    ·exact Nat.le_succ_of_le (ih x (by rw [e0];exact List.mem_cons_of_mem _ e))
theorem DU (a b:Str):Op.bytesLess a b=decide (a < b):=Go.Proofs.bytesLess_eq a b
theorem Am:∀a b:Str,a < b∨a=b∨b < a
 | [],[]=>.inr (.inl rfl)
 | [],b ::y=>.inl (List.nil_lt_cons b y)
 | a ::x,[]=>.inr (.inr (List.nil_lt_cons a x))
 | a ::x,b ::y=>by
  rcases DL a b with h | h | h
  ·exact .inl (List.cons_lt_cons_iff.2 (.inl h))
  ·subst h
   rcases Am x y with k | k | k
   ·exact .inl (List.cons_lt_cons_iff.2 (.inr ⟨rfl,k⟩))
   ·exact .inr (.inl (by rw [k]))
   ·exact .inr (.inr (List.cons_lt_cons_iff.2 (.inr ⟨rfl,k⟩)))
  ·exact .inr (.inr (List.cons_lt_cons_iff.2 (.inl h)))
theorem BA {a b:Str} (h1:¬a < b) (h2:¬a=b):b < a:=by
 rcases Am a b with h | h | h
 ·exact absurd h h1
 ·exact absurd h h2
 ·exact h
theorem Ao {l:List Bnd} (h:l.all eh=false):(50:Int)=fB l:=by
 unfold fB
 rw [h]
 split
 ·rfl
 ·rfl
theorem vc {l:List Bnd} (hl:¬20 < l.length) (h:l.all eh=true):(0:Int)=fB l:=by
 unfold fB
 rw [h,if_neg hl,if_pos rfl]
end Go.Pd
end
section
namespace Go.AL.Seat
open Go Go.AL Go.Proofs Go.Shelf Go.Pd Go.RowKit
theorem DV:Builder.Extra Tryz.prog Tryz.lays156_ren:={
 sizeBuilder:=by kernel_rfl
 liesBuilder:=by kernel_rfl
 t5:=Tryz.underlying5
 a5:=Tryz.isAgg5
 z5:=Tryz.sizeOf5
 v5:=Tryz.zeroValue5
 infoByte:=by kernel_rfl
 cellsByte:=by kernel_rfl
 sizeByte:=by kernel_rfl
 neB5:=by decide}
theorem HA:Builder.Extra Tryz.prog Tryz.lays169_ren:={
 sizeBuilder:=by kernel_rfl
 liesBuilder:=by kernel_rfl
 t5:=Tryz.underlying5
 a5:=Tryz.isAgg5
 z5:=Tryz.sizeOf5
 v5:=Tryz.zeroValue5
 infoByte:=by kernel_rfl
 cellsByte:=by kernel_rfl
 sizeByte:=by kernel_rfl
 neB5:=by decide}
section
variable [Tabs]
theorem HB:WL Tryz.prog Tryz.lays156_ren:={Tryz.lays156 with}
theorem HC:CC Tryz.prog Tryz.lays156_ren:=CC.of {Tryz.lays156 with} DV.toX72
end
variable [Tabs]
theorem BB:ag Tryz.prog 74 (gw 117 5):=uF HB HC DV rfl rfl rfl (an.mk' Tryz.func74 (by kernel_rfl))
theorem yg:ag Tryz.prog 81 (eZ 117 5):=sT Tryz.lays169 HA rfl rfl rfl (an.mk' Tryz.func81 (by kernel_rfl))
theorem DW:ag Tryz.prog 75 iY:=xY Tryz.lays156 DV rfl (an.mk' Tryz.func75 (by kernel_rfl))
theorem nD:ag Tryz.prog 261 (p2 .str .str fun a b=>.ret (.int .i64 (ed a b))):=by
 refine bX (an.mk' Tryz.func261 (by kernel_rfl)) fun a b _ _ _=>?_
 refine cI fun w pub vs ht hv=>?_
 obtain ⟨rfl,l1,l2⟩:=VL.two_str hv
 refine (Any.strings_Compare Tryz.lays106 _ _ w).mono ?_
 rintro en w' ⟨rfl,rfl⟩
 refine ⟨⟨_,rfl,fun Ω=>?_⟩,Below.refl _ _⟩
 have e2:Lib.compareBytes (⟨a.toArray⟩:ByteArray).data.toList (⟨b.toArray⟩:ByteArray).data.toList=ed a b:=pO a b
 rw [e2]
 unfold ed
 split
 ·exact .int _ _ (by decide) (by decide)
 ·split
  ·exact .int _ _ (by decide) (by decide)
  ·exact .int _ _ (by decide) (by decide)
end Go.AL.Seat
end
section
namespace Go.Proofs
open Go.Shelf
def Tryz.lays170_ren:Go.Shelf.Ren:=⟨fun | 170=>80 | n=>n,fun | 70=>114 | 3=>3 | 0=>0 | 72=>117 | 37=>115 | 5=>5 | n=>n,fun | n=>n⟩
theorem Tryz.lays170:Go.Proofs.Lays.n170 Tryz.prog Tryz.lays170_ren:={
 mixed:=by kernel_rfl
 f170:=Xt Tryz.func80
 t0:=Tryz.underlying0
 a0:=Tryz.isAgg0
 z0:=Tryz.sizeOf0
 v0:=Tryz.zeroValue0
 t3:=Tryz.underlying3
 a3:=Tryz.isAgg3
 z3:=Tryz.sizeOf3
 v3:=Tryz.zeroValue3
 t37:=Tryz.underlying115
 a37:=Tryz.isAgg115
 z37:=Tryz.sizeOf115
 v37:=Tryz.zeroValue115
 t70:=Tryz.underlying114
 a70:=Tryz.isAgg114
 z70:=Tryz.sizeOf114
 v70:=Tryz.zeroValue114
 t72:=Tryz.underlying117
 a72:=Tryz.isAgg117
 z72:=Tryz.sizeOf117
 v72:=Tryz.zeroValue117}
def Tryz.lays171_ren:Go.Shelf.Ren:=⟨fun | 171=>145 | 243=>210 | 246=>278 | 283=>340 | 284=>341 | 285=>342 | 286=>343 | 129=>290 | 317=>377 | 318=>378 | 319=>379 | 320=>380 | 337=>390 | 338=>391 | n=>n,fun | 3=>3 | 9=>9 | 2=>2 | 4=>4 | 171=>324 | 0=>0 | 53=>305 | 37=>115 | 5=>5 | 173=>326 | 212=>352 | 51=>303 | 20=>20 | 213=>353 | 46=>255 | 232=>371 | 233=>372 | n=>n,fun | 17=>3 | 18=>6 | 19=>7 | n=>n⟩
theorem Tryz.lays171:Go.Proofs.LaysM.n171 Tryz.prog Tryz.lays171_ren:={
 mixed:=by kernel_rfl
 f129:=Xt Tryz.func290
 f171:=Xt Tryz.func145
 f243:=Xt Tryz.func210
 f246:=Xt Tryz.func278
 f283:=Xt Tryz.func340
 f284:=Xt Tryz.func341
 f285:=Xt Tryz.func342
 f286:=Xt Tryz.func343
 f317:=Xt Tryz.func377
 f318:=Xt Tryz.func378
 f319:=Xt Tryz.func379
 f320:=Xt Tryz.func380
 f337:=Xt Tryz.func390
 f338:=Xt Tryz.func391
 t0:=Tryz.underlying0
 a0:=Tryz.isAgg0
 z0:=Tryz.sizeOf0
 v0:=Tryz.zeroValue0
 t2:=Tryz.underlying2
 a2:=Tryz.isAgg2
 z2:=Tryz.sizeOf2
 v2:=Tryz.zeroValue2
 t3:=Tryz.underlying3
 a3:=Tryz.isAgg3
 z3:=Tryz.sizeOf3
 v3:=Tryz.zeroValue3
 t4:=Tryz.underlying4
 a4:=Tryz.isAgg4
 z4:=Tryz.sizeOf4
 v4:=Tryz.zeroValue4
 t5:=Tryz.underlying5
 a5:=Tryz.isAgg5
 z5:=Tryz.sizeOf5
 v5:=Tryz.zeroValue5
 t9:=Tryz.underlying9
 a9:=Tryz.isAgg9
 z9:=Tryz.sizeOf9
 v9:=Tryz.zeroValue9
 t20:=Tryz.underlying20
 a20:=Tryz.isAgg20
 z20:=Tryz.sizeOf20
 v20:=Tryz.zeroValue20
 t37:=Tryz.underlying115
 a37:=Tryz.isAgg115
 z37:=Tryz.sizeOf115
 v37:=Tryz.zeroValue115
 t46:=Tryz.underlying255
 a46:=Tryz.isAgg255
 z46:=Tryz.sizeOf255
 v46:=Tryz.zeroValue255
 t51:=Tryz.underlying303
 a51:=Tryz.isAgg303
 z51:=Tryz.sizeOf303
 v51:=Tryz.zeroValue303
 t53:=Tryz.underlying305
 a53:=Tryz.isAgg305
 z53:=Tryz.sizeOf305
 v53:=Tryz.zeroValue305
 t171:=Tryz.underlying324
 a171:=Tryz.isAgg324
 z171:=Tryz.sizeOf324
 v171:=Tryz.zeroValue324
 t173:=Tryz.underlying326
 a173:=Tryz.isAgg326
 z173:=Tryz.sizeOf326
 v173:=Tryz.zeroValue326
 t212:=Tryz.underlying352
 a212:=Tryz.isAgg352
 z212:=Tryz.sizeOf352
 v212:=Tryz.zeroValue352
 t213:=Tryz.underlying353
 a213:=Tryz.isAgg353
 z213:=Tryz.sizeOf353
 t232:=Tryz.underlying371
 a232:=Tryz.isAgg371
 z232:=Tryz.sizeOf371
 v232:=Tryz.zeroValue371
 t233:=Tryz.underlying372
 a233:=Tryz.isAgg372
 z233:=Tryz.sizeOf372
 v233:=Tryz.zeroValue372
 g17:=by kernel_rfl
 g18:=by kernel_rfl
 g19:=by kernel_rfl
 i0:=by kernel_rfl
 i2:=by kernel_rfl
 i3:=by kernel_rfl
 i4:=by kernel_rfl
 i5:=by kernel_rfl
 i9:=by kernel_rfl
 i20:=by kernel_rfl
 i37:=by kernel_rfl
 i46:=by kernel_rfl
 i51:=by kernel_rfl
 i53:=by kernel_rfl
 i171:=by kernel_rfl
 i173:=by kernel_rfl
 i212:=by kernel_rfl
 i232:=by kernel_rfl
 i233:=by kernel_rfl
 m17:=by kernel_rfl
 m18:=by kernel_rfl
 m19:=by kernel_rfl}
end Go.Proofs
end
noncomputable section
namespace Go.AL
variable [Tabs]
open Go.Proofs Go.Shelf Go.RowKit
variable {P:Program} {ρ:Ren}
set_option maxHeartbeats 1000000 in
set_option maxRecDepth 100000 in
theorem FT (L:Lays.n170 P ρ) (b:Nat) (g:Option Nat) (l:Str) (w:World) (h:gG w (ρ.t 72) (ρ.t 5) b g l) :
  Calls P (ρ.f 170) #[.pointer (some ⟨b,0,none⟩)] w fun e w'=>e=.returned (.int .i64 l.length)/\w'=w:=by
 obtain ⟨p,v,hbk,hp,hvg,hne,hown,hem⟩:=h
 obtain ⟨ao,cap,rfl⟩:∃ao cap,v=.slice ao l.length cap:=by
  rcases hown.2 with ⟨hv,h0⟩ | ⟨g,cap,cur,fz,hv,_⟩
  ·exact ⟨none,0,by rw [hv,h0]⟩
  ·exact ⟨_,_,hv⟩
 have c1:w.cell? ⟨b,1,none⟩=some (.slice ao l.length cap):=by rw [Lib.cell_of_heap hbk];rfl
 have mixed:=L.mixed
 have t72:=L.t72;have a72:=L.a72;have z72:=L.z72;have v72:=L.v72;have u72:=run_underlying L.t72
 have t70:=L.t70;have a70:=L.a70;have z70:=L.z70;have v70:=L.v70;have u70:=run_underlying L.t70
 have t37:=L.t37;have a37:=L.a37;have z37:=L.z37;have v37:=L.v37;have u37:=run_underlying L.t37
 have t3:=L.t3;have a3:=L.a3;have z3:=L.z3;have v3:=L.v3;have u3:=run_underlying L.t3
 go_enter L.f170,Body.n170_ntmps ρ
 go_wp2
 go_ret
 exact ⟨rfl,rfl⟩
def kZ (t u:Nat):Pat:=fun args S=>
 match args,S with
 | [.bptr 900],[(900,.bld t' u' l)]=>if t'=t/\u'=u then some ⟨some (l.length<=b8),none,.int .i64 l.length,[(900,.bld t u l)]⟩ else none
 | _,_=>none
theorem BC {f t u:Nat} (L:Lays.n170 P ρ) (hf:ρ.f 170=f) (ht:ρ.t 72=t) (hu:ρ.t 5=u) (he:an P f):ag P f (kZ t u):=by
 subst hf ht hu
 intro args S A h hob hkeys
 unfold kZ at h
 split at h
 ·rename_i t' u' l
  split at h
  ·rename_i e
   obtain ⟨rfl,rfl⟩:=e
   cases h
   have hl:l.length<=b8:=hob _ rfl
   refine ⟨he,?_⟩
   intro w pub e vs hp ht hv hs hd hi
   obtain ⟨v1,rfl,h1⟩:=VL.one_inv hv
   obtain ⟨b,g,he,rfl⟩:=h1.bptr_inv
   have he:e 900=some (.bld b g):=he
   obtain ⟨b0,g0,he0,hown,hB⟩:=hs 900 _ rfl
   have he0:e 900=some (.bld b0 g0):=he0
   rw [he] at he0
   cases he0
   refine (FT L b g l w hB).mono ?_
   rintro en w' ⟨rfl,rfl⟩
   refine ⟨_,_,fun _ _ _ h=>(by cases h),?_,After.bld hp hs hd hi rfl he (But.refl _ _ _) hB (fun x h=>.inl h)⟩
   obtain ⟨b1,b2⟩:=fK (n:=l.length) hl
   exact .int .i64 _ b1 b2
  ·cases h
 ·cases h
end Go.AL
end
section
namespace Go.AL.Seat
open Go Go.AL Go.Proofs Go.Shelf Go.Pd Go.RowKit
variable [Tabs]
theorem FU:ag Tryz.prog 80 (kZ 117 5):=BC Tryz.lays170 rfl rfl rfl (an.mk' Tryz.func80 (by kernel_rfl))
class SeatPow [Tabs]:Prop where
 pow:tc 3
variable [SeatPow]
theorem DX:ag Tryz.prog 145 (p1 (.int .i64) fun n=>⟨some ((Lib.itoa n).length<=1000),none,.str (Lib.itoa n),[]⟩):=xW Tryz.lays171 (by kernel_rfl) SeatPow.pow rfl (an.mk' Tryz.func145 (by kernel_rfl))
end Go.AL.Seat
end
section
namespace Go.Proofs
open Go.Proofs.Tryz
open Go.Shelf
def Tryz.lays160_ren:Go.Shelf.Ren:=⟨fun | 160=>161 | 232=>220 | 231=>219 | 227=>221 | 234=>223 | 233=>222 | 236=>225 | 235=>224 | 228=>292 | 271=>294 | 151=>293 | 197=>218 | 120=>350 | 152=>349 | 260=>291 | 137=>228 | 119=>382 | 224=>363 | 225=>362 | 217=>298 | 266=>356 | n=>n,fun | 9=>9 | 4=>4 | 3=>3 | 5=>5 | 117=>261 | 116=>260 | 0=>0 | 124=>264 | 21=>21 | 105=>256 | 46=>255 | 119=>334 | 139=>337 | 138=>336 | n=>n,fun | 3=>1 | 4=>2 | n=>n⟩
theorem Tryz.lays160:Go.Proofs.Lays.n160 prog Tryz.lays160_ren:={
 mixed:=by kernel_rfl
 f119:=Xt func382
 f120:=Xt func350
 f137:=Xt func228
 f151:=Xt func293
 f152:=Xt func349
 f160:=Xt func161
 f197:=Xt func218
 f217:=Xt func298
 f224:=Xt func363
 f225:=Xt func362
 f227:=Xt func221
 f228:=Xt func292
 f231:=Xt func219
 f232:=Xt func220
 f233:=Xt func222
 f234:=Xt func223
 f235:=Xt func224
 f236:=Xt func225
 f260:=Xt func291
 f266:=Xt func356
 f271:=Xt func294
 t0:=underlying0
 a0:=isAgg0
 z0:=sizeOf0
 v0:=zeroValue0
 t3:=underlying3
 a3:=isAgg3
 z3:=sizeOf3
 v3:=zeroValue3
 t4:=underlying4
 a4:=isAgg4
 z4:=sizeOf4
 v4:=zeroValue4
 t5:=underlying5
 a5:=isAgg5
 z5:=sizeOf5
 v5:=zeroValue5
 t9:=underlying9
 a9:=isAgg9
 z9:=sizeOf9
 v9:=zeroValue9
 t21:=underlying21
 a21:=isAgg21
 z21:=sizeOf21
 v21:=zeroValue21
 t46:=underlying255
 a46:=isAgg255
 z46:=sizeOf255
 v46:=zeroValue255
 t105:=underlying256
 a105:=isAgg256
 z105:=sizeOf256
 v105:=zeroValue256
 t116:=underlying260
 a116:=isAgg260
 z116:=sizeOf260
 t117:=underlying261
 a117:=isAgg261
 z117:=sizeOf261
 v117:=zeroValue261
 t119:=underlying334
 a119:=isAgg334
 z119:=sizeOf334
 t124:=underlying264
 a124:=isAgg264
 z124:=sizeOf264
 v124:=zeroValue264
 t138:=underlying336
 a138:=isAgg336
 z138:=sizeOf336
 v138:=zeroValue336
 t139:=underlying337
 a139:=isAgg337
 z139:=sizeOf337
 v139:=zeroValue337
 g3:=by kernel_rfl
 g4:=by kernel_rfl}
def Tryz.lays145_ren:Go.Shelf.Ren:=⟨fun | 145=>226 | 220=>295 | 219=>314 | 217=>298 | 225=>362 | 224=>363 | 267=>364 | 266=>356 | 314=>386 | n=>n,fun | 9=>9 | 4=>4 | 59=>265 | 3=>3 | 5=>5 | 46=>255 | 146=>362 | 51=>303 | n=>n,fun | 1=>0 | n=>n⟩
theorem Tryz.lays145:Go.Proofs.Lays.n145 prog Tryz.lays145_ren:={
 mixed:=by kernel_rfl
 f145:=Xt func226
 f217:=Xt func298
 f219:=Xt func314
 f220:=Xt func295
 f224:=Xt func363
 f225:=Xt func362
 f266:=Xt func356
 f267:=Xt func364
 f314:=Xt func386
 t3:=underlying3
 a3:=isAgg3
 z3:=sizeOf3
 v3:=zeroValue3
 t4:=underlying4
 a4:=isAgg4
 z4:=sizeOf4
 v4:=zeroValue4
 t5:=underlying5
 a5:=isAgg5
 z5:=sizeOf5
 v5:=zeroValue5
 t9:=underlying9
 a9:=isAgg9
 z9:=sizeOf9
 v9:=zeroValue9
 t46:=underlying255
 a46:=isAgg255
 z46:=sizeOf255
 v46:=zeroValue255
 t51:=underlying303
 a51:=isAgg303
 z51:=sizeOf303
 v51:=zeroValue303
 t59:=underlying265
 a59:=isAgg265
 z59:=sizeOf265
 v59:=zeroValue265
 t146:=underlying362
 a146:=isAgg362
 z146:=sizeOf362
 v146:=zeroValue362
 g1:=by kernel_rfl}
def Tryz.lays146_ren:Go.Shelf.Ren:=⟨fun | 146=>121 | 221=>186 | 268=>256 | 138=>257 | 143=>258 | 195=>312 | 197=>218 | 218=>313 | 219=>314 | 260=>291 | 217=>298 | 225=>362 | 224=>363 | 267=>364 | 266=>356 | 314=>386 | n=>n,fun | 9=>9 | 31=>24 | 3=>3 | 4=>4 | 0=>0 | 105=>256 | 21=>21 | 5=>5 | 46=>255 | 119=>334 | 139=>337 | 138=>336 | 146=>362 | 51=>303 | n=>n,fun | 1=>0 | 3=>1 | 4=>2 | n=>n⟩
theorem Tryz.lays146:Go.Proofs.Lays.n146 prog Tryz.lays146_ren:={
 mixed:=by kernel_rfl
 f138:=Xt func257
 f143:=Xt func258
 f146:=Xt func121
 f195:=Xt func312
 f197:=Xt func218
 f217:=Xt func298
 f218:=Xt func313
 f219:=Xt func314
 f221:=Xt func186
 f224:=Xt func363
 f225:=Xt func362
 f260:=Xt func291
 f266:=Xt func356
 f267:=Xt func364
 f268:=Xt func256
 f314:=Xt func386
 t0:=underlying0
 a0:=isAgg0
 z0:=sizeOf0
 v0:=zeroValue0
 t3:=underlying3
 a3:=isAgg3
 z3:=sizeOf3
 v3:=zeroValue3
 t4:=underlying4
 a4:=isAgg4
 z4:=sizeOf4
 v4:=zeroValue4
 t5:=underlying5
 a5:=isAgg5
 z5:=sizeOf5
 v5:=zeroValue5
 t9:=underlying9
 a9:=isAgg9
 z9:=sizeOf9
 v9:=zeroValue9
 t21:=underlying21
 a21:=isAgg21
 z21:=sizeOf21
 v21:=zeroValue21
 t31:=underlying24
 a31:=isAgg24
 z31:=sizeOf24
 v31:=zeroValue24
 t46:=underlying255
 a46:=isAgg255
 z46:=sizeOf255
 v46:=zeroValue255
 t51:=underlying303
 a51:=isAgg303
 z51:=sizeOf303
 v51:=zeroValue303
 t105:=underlying256
 a105:=isAgg256
 z105:=sizeOf256
 v105:=zeroValue256
 t119:=underlying334
 a119:=isAgg334
 z119:=sizeOf334
 t138:=underlying336
 a138:=isAgg336
 z138:=sizeOf336
 v138:=zeroValue336
 t139:=underlying337
 a139:=isAgg337
 z139:=sizeOf337
 v139:=zeroValue337
 t146:=underlying362
 a146:=isAgg362
 z146:=sizeOf362
 v146:=zeroValue362
 g1:=by kernel_rfl
 g3:=by kernel_rfl
 g4:=by kernel_rfl}
def Tryz.lays144_ren:Go.Shelf.Ren:=⟨fun | 144=>230 | 143=>258 | 219=>314 | 217=>298 | 225=>362 | 224=>363 | 267=>364 | 266=>356 | 314=>386 | n=>n,fun | 9=>9 | 4=>4 | 3=>3 | 5=>5 | 46=>255 | 146=>362 | 51=>303 | n=>n,fun | 1=>0 | n=>n⟩
theorem Tryz.lays144:Go.Proofs.Lays.n144 prog Tryz.lays144_ren:={
 mixed:=by kernel_rfl
 f143:=Xt func258
 f144:=Xt func230
 f217:=Xt func298
 f219:=Xt func314
 f224:=Xt func363
 f225:=Xt func362
 f266:=Xt func356
 f267:=Xt func364
 f314:=Xt func386
 t3:=underlying3
 a3:=isAgg3
 z3:=sizeOf3
 v3:=zeroValue3
 t4:=underlying4
 a4:=isAgg4
 z4:=sizeOf4
 v4:=zeroValue4
 t5:=underlying5
 a5:=isAgg5
 z5:=sizeOf5
 v5:=zeroValue5
 t9:=underlying9
 a9:=isAgg9
 z9:=sizeOf9
 v9:=zeroValue9
 t46:=underlying255
 a46:=isAgg255
 z46:=sizeOf255
 v46:=zeroValue255
 t51:=underlying303
 a51:=isAgg303
 z51:=sizeOf303
 v51:=zeroValue303
 t146:=underlying362
 a146:=isAgg362
 z146:=sizeOf362
 v146:=zeroValue362
 g1:=by kernel_rfl}
def Tryz.lays137_ren:Go.Shelf.Ren:=⟨fun | 137=>228 | 217=>298 | 266=>356 | n=>n,fun | 9=>9 | 5=>5 | 3=>3 | n=>n,fun | n=>n⟩
theorem Tryz.lays137:Go.Proofs.Lays.n137 prog Tryz.lays137_ren:={
 mixed:=by kernel_rfl
 f137:=Xt func228
 f217:=Xt func298
 f266:=Xt func356
 t3:=underlying3
 a3:=isAgg3
 z3:=sizeOf3
 v3:=zeroValue3
 t5:=underlying5
 a5:=isAgg5
 z5:=sizeOf5
 v5:=zeroValue5
 t9:=underlying9
 a9:=isAgg9
 z9:=sizeOf9
 v9:=zeroValue9}
def Tryz.lays197_ren:Go.Shelf.Ren:=⟨fun | 197=>218 | 260=>291 | n=>n,fun | 9=>9 | 21=>21 | 3=>3 | 4=>4 | 5=>5 | 105=>256 | 119=>334 | 0=>0 | 46=>255 | 139=>337 | 138=>336 | n=>n,fun | 3=>1 | 4=>2 | n=>n⟩
theorem Tryz.lays197:Go.Proofs.Lays.n197 prog Tryz.lays197_ren:={
 mixed:=by kernel_rfl
 f197:=Xt func218
 f260:=Xt func291
 t0:=underlying0
 a0:=isAgg0
 z0:=sizeOf0
 v0:=zeroValue0
 t3:=underlying3
 a3:=isAgg3
 z3:=sizeOf3
 v3:=zeroValue3
 t4:=underlying4
 a4:=isAgg4
 z4:=sizeOf4
 v4:=zeroValue4
 t5:=underlying5
 a5:=isAgg5
 z5:=sizeOf5
 v5:=zeroValue5
 t9:=underlying9
 a9:=isAgg9
 z9:=sizeOf9
 v9:=zeroValue9
 t21:=underlying21
 a21:=isAgg21
 z21:=sizeOf21
 v21:=zeroValue21
 t46:=underlying255
 a46:=isAgg255
 z46:=sizeOf255
 v46:=zeroValue255
 t105:=underlying256
 a105:=isAgg256
 z105:=sizeOf256
 v105:=zeroValue256
 t119:=underlying334
 a119:=isAgg334
 z119:=sizeOf334
 t138:=underlying336
 a138:=isAgg336
 z138:=sizeOf336
 v138:=zeroValue336
 t139:=underlying337
 a139:=isAgg337
 z139:=sizeOf337
 v139:=zeroValue337
 g3:=by kernel_rfl
 g4:=by kernel_rfl}
def Tryz.lays196_ren:Go.Shelf.Ren:=⟨fun | 196=>368 | 259=>387 | n=>n,fun | 9=>9 | 4=>4 | 3=>3 | 5=>5 | 12=>12 | 119=>334 | 0=>0 | 46=>255 | 139=>337 | 138=>336 | 53=>305 | n=>n,fun | 3=>1 | 4=>2 | n=>n⟩
theorem Tryz.lays196:Go.Proofs.Lays.n196 prog Tryz.lays196_ren:={
 mixed:=by kernel_rfl
 f196:=Xt func368
 f259:=Xt func387
 t0:=underlying0
 a0:=isAgg0
 z0:=sizeOf0
 v0:=zeroValue0
 t3:=underlying3
 a3:=isAgg3
 z3:=sizeOf3
 v3:=zeroValue3
 t4:=underlying4
 a4:=isAgg4
 z4:=sizeOf4
 v4:=zeroValue4
 t5:=underlying5
 a5:=isAgg5
 z5:=sizeOf5
 v5:=zeroValue5
 t9:=underlying9
 a9:=isAgg9
 z9:=sizeOf9
 v9:=zeroValue9
 t12:=underlying12
 a12:=isAgg12
 z12:=sizeOf12
 v12:=zeroValue12
 t46:=underlying255
 a46:=isAgg255
 z46:=sizeOf255
 v46:=zeroValue255
 t53:=underlying305
 a53:=isAgg305
 z53:=sizeOf305
 v53:=zeroValue305
 t119:=underlying334
 a119:=isAgg334
 z119:=sizeOf334
 t138:=underlying336
 a138:=isAgg336
 z138:=sizeOf336
 v138:=zeroValue336
 t139:=underlying337
 a139:=isAgg337
 z139:=sizeOf337
 v139:=zeroValue337
 g3:=by kernel_rfl
 g4:=by kernel_rfl}
end Go.Proofs
end
section
namespace Go.AL.Seat
open Go Go.AL Go.Proofs Go.Shelf Go.Pd
class SeatLaid [Tabs]:Prop where
 max:∃m:Int,Tabs.tab 0 0 (.int .i64 m)
 utf:lW 1 2
variable [Tabs] [SeatLaid]
theorem vd:ag Tryz.prog 161 (p2 .str .str fun a b=>⟨some (b=nY),none,.str (kG a),[]⟩):=xT Tryz.lays160 (by kernel_rfl) rfl (an.mk' Tryz.func161 (by kernel_rfl))
theorem FV:ag Tryz.prog 226 (p2 .str .str fun a b=>⟨some (b=[45]/\a.length < 4294967281),none,.tup [.str (gO a),.str (kW a),.bool (mL a)],[]⟩):=
 let ⟨_,hm⟩:=SeatLaid.max;Bw Tryz.lays145 hm rfl (an.mk' Tryz.func226 (by kernel_rfl))
theorem mR:ag Tryz.prog 121 (p2 .str .str fun a b=>⟨some (b=[46]/\a.length < 4294967281),none,.lst .str (splitB 46 a) none,[]⟩):=
 let ⟨_,hm⟩:=SeatLaid.max;uS Tryz.lays146 (by kernel_rfl) hm rfl (an.mk' Tryz.func121 (by kernel_rfl))
theorem te:ag Tryz.prog 230 (p2 .str .str fun a b=>⟨some (b.length=1),none,.bool (decide (b.getD 0 0∈a)),[]⟩):=pK Tryz.lays144 rfl (an.mk' Tryz.func230 (by kernel_rfl))
theorem qT:ag Tryz.prog 228 (p2 .str (.int .u8) fun a c=>.ret (.int .i64 (DC a c))):=o9 Tryz.lays137 rfl (an.mk' Tryz.func228 (by kernel_rfl))
theorem pR:ag Tryz.prog 218 (p1 .str fun s=>.ret (.tup [.int .i32 ((iX s).1:Int),.int .i64 ((iX s).2:Int)])):=mM Tryz.lays197 SeatLaid.utf rfl (an.mk' Tryz.func218 (by kernel_rfl))
theorem BD:ag Tryz.prog 368 (p1 .str fun s=>.ret (.bool (jK s).isNone)):=uU Tryz.lays196 SeatLaid.utf rfl (an.mk' Tryz.func368 (by kernel_rfl))
end Go.AL.Seat
end
section
namespace Go.Proofs.YtkecedofomlppaaGreatDoor.Join
open Go.AL Go.AL.Seat Go.ChangeShapes Go.WideShapes Go.RowKit Go.Lib Go.Shelf
set_option maxRecDepth 1000000
theorem own:ownKnob Tryz.prog.godebug=none:=by kernel_rfl
theorem FW:laidOutB Tryz.prog=true:=by kernel_rfl
theorem undB:Tryz.prog.underlying 4=some .bool:=by kernel_rfl
theorem undI:Tryz.prog.underlying 3=some (.int .i64):=by kernel_rfl
theorem dr:40 < Tryz.prog.types.size:=Xo (by kernel_rfl)
def laid:List (String × DataW Unit):=Rows.moduleParsesRow.laid
theorem HD:(Rows.laid_unicode_utf8_acceptRanges:DataW Unit)=acceptData:=by kernel_rfl
theorem HE {W:World} (h:W.ShapedOpen Tryz.prog):∃m,W.cell? ⟨0,0,none⟩=some (.int .i64 m):=
 cell_of_shapedOpen_int (t:=3) (zero:=#[.int .i64 0]) h (Xo (by kernel_rfl)) (by kernel_rfl) rfl (by kernel_rfl) (by kernel_rfl) undI
theorem jM {W:World} (h:laidMet Tryz.prog laid W):Utf8Tabs 1 2 W:=
 utf8Tabs_of_readsT (ρ:=Tryz.lays196_ren) (U8Types.of196 Tryz.lays196) ⟨by kernel_rfl,by kernel_rfl,by kernel_rfl,by kernel_rfl,by kernel_rfl,by kernel_rfl,by kernel_rfl⟩
  (Pinned.utf8First_eq ▸ laidMet.reads h (by simp [laid,Rows.moduleParsesRow,Rows.laid_unicode_utf8_first])) (HD ▸ laidMet.reads h (by simp [laid,Rows.moduleParsesRow]))
theorem DY {W:World} (h:laidMet Tryz.prog laid W) (hs:W.ShapedOpen Tryz.prog):@SeatLaid (jF W):=by
 letI:Tabs:=jF W
 obtain ⟨m,hm⟩:=HE hs
 obtain ⟨u1,u2⟩:=jM h
 exact ⟨⟨m,by decide,hm⟩,fun c hc=>⟨by decide,u1 c hc⟩,fun i hi=>⟨⟨by decide,(u2 i hi).1⟩,by decide,(u2 i hi).2⟩⟩
theorem FX:(Rows.laid_internal_strconv_uint64pow10:DataW Unit)=tabData .u64 pow10Tab:=by
 simp only [tabData,pow10Tab]
 rfl
theorem HF {W:World} (h:laidMet Tryz.prog laid W):TabIs Tryz.prog W "internal/strconv.uint64pow10" .u64 pow10Tab:=by
 obtain ⟨g,t,cs,fuel,p,hg,hty,hvar,hd⟩:=laidMet.reads h (n:= "internal/strconv.uint64pow10") (d:=Rows.laid_internal_strconv_uint64pow10) (by simp [laid,Rows.moduleParsesRow])
 obtain rfl:=Option.some.inj ((show Tryz.prog.globalNamed "internal/strconv.uint64pow10"=some 3 by kernel_rfl).symm.trans hg)
 obtain rfl:=Option.some.inj ((show (Tryz.prog.globals[3]?).map (·.type)=some 352 by kernel_rfl).symm.trans hty)
 rw [FX] at hd
 have hcs:=cells_of_tab (P:=Tryz.prog) (n:=20) (show Tryz.prog.underlying 352=some (.array 20 305) by kernel_rfl) (show Tryz.prog.underlying 305=some (.int .u64) by kernel_rfl) (by kernel_rfl) (by kernel_rfl) hd
 unfold TabIs
 rw [hvar,←hcs]
theorem FY {W:World} (h:laidMet Tryz.prog laid W):@SeatPow (jF W):=by
 letI:Tabs:=jF W
 have hp:=HF h
 unfold TabIs World.var? at hp
 rw [show Tryz.prog.globalNamed "internal/strconv.uint64pow10"=some 3 by kernel_rfl] at hp
 simp only [Option.bind_some] at hp
 refine ⟨?_⟩
 unfold tc
 cases hw:W.heap[3]? with
 | none=>rw [hw] at hp;cases hp
 | some o=>
  rw [hw] at hp
  cases o with
  | cells cs t fz=>
   obtain rfl:=Option.some.inj hp
   exact ⟨t,fz,rfl,hw⟩
  | _=>cases hp
def z32:List Int:=[0,1,28,2,29,14,24,3,30,22,20,15,25,17,4,8,31,27,13,23,21,19,16,7,26,12,18,6,11,5,10,9]
def z64:List Int:=[0,1,56,2,57,49,28,3,61,58,42,50,38,29,17,4,62,47,59,36,45,43,51,22,53,39,33,30,24,18,12,5,63,55,48,27,60,41,37,16,46,35,44,21,52,32,23,11,54,26,40,15,34,20,31,10,25,14,19,9,13,8,7,6]
def zPow:List Int:=[1,10,100,1000,10000,100000,1000000,10000000,100000000,1000000000,10000000000,100000000000,1000000000000,10000000000000,100000000000000,1000000000000000,10000000000000000,100000000000000000,1000000000000000000,10000000000000000000]
def zAcc:List Int:=[128,191,160,191,128,159,144,191,128,143,0,0,0,0,0,0,0,0,0,0,0,0,0,0,0,0,0,0,0,0,0,0]
def H2:List Int:=List.map Int.ofNat Pinned.utf8FirstZ
noncomputable def kf (os:Os):World:=
 let N:=(World.settled Tryz.prog os).heap.size
 let w0:=World.holding Tryz.prog os ⟨#[.cells #[.string ⟨#[118,97,108,117,101,32,111,117,116,32,111,102,32,114,97,110,103,101]⟩] 370,.cells #[.string ⟨#[105,110,118,97,108,105,100,32,115,121,110,116,97,120]⟩] 370],#[],[]⟩
 let put (h:Array Obj) (g:Nat) (cs:Array Value):Array Obj:=h.modify g fun
  | .cells _ t frozen=>.cells cs t frozen
  | o=>o
 let h0:=put (put w0.heap 4 #[.iface 368 (.pointer (some ⟨N+1,0,none⟩))]) 5 #[.iface 368 (.pointer (some ⟨N,0,none⟩))]
 let h1:=put (put (put h0 3 (zPow.map (Value.int .u64)).toArray) 6 (z32.map (Value.int .u8)).toArray) 7 (z64.map (Value.int .u8)).toArray
 let h2:=put (put h1 1 (H2.map (Value.int .u8)).toArray) 2 (zAcc.map (Value.int .u8)).toArray
 {w0 with heap:=h2}
noncomputable abbrev N0:Nat:=(World.settled Tryz.prog default).heap.size
theorem H3 (os:Os) (args:Array Value):LaidIn Tryz.prog ((kf os).forCall (fun _ _=>0) ⟨#[],args,[]⟩).memory laid [6,7,3,2,5,N0,4,N0+1,1]:=
 LaidIn.of_run [6,7,3,2,5,N0,4,N0+1,1] 10 (by kernel_rfl) (by kernel_rfl) (by kernel_rfl) (by kernel_rfl)
theorem DZ (os:Os) (args:Array Value):laidMet Tryz.prog laid ((kf os).forCall (fun _ _=>0) ⟨#[],args,[]⟩).memory:=(H3 os args).met
theorem noGo:Tryz.prog.funcs.toList.any Func.goes=false:=by kernel_rfl
theorem FZ (f:FuncId):Tryz.prog.goes f=false:=by
 have h:∀g:FuncId,(Tryz.prog.funcs[g]?).any Func.goes=false:=fun g=>by
  cases e:Tryz.prog.funcs[g]? with
  | none=>rfl
  | some fn=>
   have hm:fn∈Tryz.prog.funcs.toList:=Array.mem_toList_iff.2 (Array.mem_of_getElem? e)
   have:=List.any_eq_false.1 noGo fn hm
   simpa using this
 unfold Program.goes
 have h1:(Tryz.prog.closure f).any (fun g=>(Tryz.prog.funcs[g]?).any Func.goes)=false:=List.any_eq_false.2 fun g _=>by rw [h g];simp
 have h2:Tryz.prog.funcs.any Func.goes=false:=by rw [←Array.any_toList];exact noGo
 rw [h1,h2]
 simp
theorem G0 (c:OpenClaim) (h:c.start=.entering):false=OpenClaim.goesBy c Tryz.pinned.checked.prog:=by
 have h3:Tryz.prog.goesFrom c.func=false:=by
  unfold Program.goesFrom
  cases Tryz.prog.funcNamed c.func with
  | none=>rfl
  | some f=>rw [Option.any_some];exact FZ f
 have e:OpenClaim.goesBy c Tryz.pinned.checked.prog=(Tryz.prog.goesFrom c.func || (match c.start with | .entering=>false | _=>Tryz.prog.inits.toList.any Tryz.prog.goes)):=rfl
 rw [e,h3,h];rfl
end Go.Proofs.YtkecedofomlppaaGreatDoor.Join
end
noncomputable section
namespace Go.AL
open Go.ChangeShapes Go.WideShapes Go.RowKit
variable [Tabs]
structure GoodR {H:Type} (P:Program) (N M:Nat) (g:TypeId→DataW H→Prop):Prop where
 str:∀t s,P.underlying t=some .string→g t (.lit (.string s))→s.length<=M
 len:∀t e es sp,P.underlying t=some (.slice e)→g t (.slice es sp)→16<=P.bytesOf e→es.length<=N
 el:∀t e es sp,P.underlying t=some (.slice e)→g t (.slice es sp)→∀x∈es,g e x
 part:∀t fs ps,P.underlying t=some (.struct fs)→g t (.agg ps)→∀(i:Nat) (f:Field) p,fs[i]?=some f→ps[i]?=some p→g f.type p
variable {H:Type} {enc:TypeId × Value→H} {P:Program} {w:World} {base:Nat} {held:Bool}
theorem H4 {N M:Nat} {g:TypeId→DataW H→Prop} (hb:GoodR P N M g) {t e:TypeId} {τ:Ty} {Q:den τ→Prop} {fuel:Nat} {cs:List Value} {x:DataW H × List MemPlace} (ht:P.underlying t=some (.slice e)) (hc:P.cellsOf e=ae τ) (h:DataW.trod enc P w base (fun _=>true) held fuel t cs=some x) (hg:g t x.1)
  (hel:∀(n:Nat) (ds:List Value) (y:DataW H × List MemPlace),fuel=n+1→DataW.trod enc P w base (fun _=>true) held n e ds=some y→g e y.1→∃z:den τ,VL (Om0 w) (cells τ z) ds/\Q z)
  (hsp:∀a len cap,cs=[.slice (some a) len cap]→a.spot=none):∃(l:List (den τ)) (v:Value),cs=[v]/\V (Om0 w) (.lst τ l none) v/\(16<=P.bytesOf e→l.length<=N)/\∀z∈l,Q z:=by
 rcases DataW.trod_slice ht h with ⟨rfl,_⟩ | ⟨a,len,cap,elems,rest,n,hfu,rfl,hx,_,hlc,hcm,hlen,hels,_,_⟩
 ·exact ⟨[],_,rfl,.lstNil τ none (fun id hid=>by cases hid),fun _=>Nat.zero_le _,fun z hz=>by cases hz⟩
 ·have hs:=hsp a len cap rfl
  obtain ⟨bl,off,spot⟩:=a
  simp only at hs
  subst hs
  have each:∀i,i < len→∃z:den τ,∃ds:List Value,ds.length=ae τ/\(∀j,j < ae τ→w.cell? ⟨bl,off+(i *ae τ+j),none⟩=ds[j]?)/\VL (Om0 w) (cells τ z) ds/\Q z:=by
   intro i hi
   have h1:=hels i hi
   obtain ⟨y,hy⟩:∃y,elems[i]?=some y:=⟨_,List.getElem?_eq_getElem (by omega)⟩
   rw [hy,hc,Option.bind_eq_some_iff] at h1
   obtain ⟨ds,hd,hy'⟩:=h1
   obtain ⟨_,hdl,hdc⟩:=World.cells?_some hd
   obtain ⟨z,hz,hq⟩:=hel n ds y hfu hy' (by
    rw [hx] at hg
    exact hb.el _ _ _ _ ht hg _ (List.mem_map_of_mem (List.mem_of_getElem? hy)))
   refine ⟨z,ds,hdl,fun j hj=>?_,hz,hq⟩
   have:=hdc j hj
   have ha:∀(o n:Nat),(⟨bl,o,none⟩:Addr).add n=⟨bl,o+n,none⟩:=by
    intro o n
    unfold Addr.add
    by_cases h0:n=0
    ·subst h0;rfl
    ·rw [if_neg h0]
   rw [ha,ha,Nat.add_assoc] at this
   exact this
  have hz:∃l:List (den τ),l.length=len/\∀i z,l[i]?=some z→∃ds:List Value,ds.length=ae τ/\(∀j,j < ae τ→w.cell? ⟨bl,off+(i *ae τ+j),none⟩=ds[j]?)/\VL (Om0 w) (cells τ z) ds/\Q z:=by
   refine ⟨(List.range len).attach.map fun i=>(each i.1 (List.mem_range.1 i.2)).choose,by simp,fun i z hi=>?_⟩
   have hil:i < len:=by
    have:=(List.getElem?_eq_some_iff.1 hi).1
    simpa using this
   simp only [List.getElem?_map,Option.map_eq_some_iff] at hi
   obtain ⟨⟨k,hk⟩,h1,h2⟩:=hi
   have hki:k=i:=by
    have:=List.getElem?_eq_some_iff.1 h1
    obtain ⟨_,e⟩:=this
    have:=congrArg Subtype.val e
    simpa using this.symm
   subst hki
   rw [←h2]
   exact (each k (List.mem_range.1 hk)).choose_spec
  obtain ⟨l,hll,hle⟩:=hz
  have hQ:∀z∈l,Q z:=fun z hz=>by
   obtain ⟨i,hi⟩:=List.getElem?_of_mem hz
   obtain ⟨_,_,_,_,hq⟩:=hle i z hi
   exact hq
  have hL:16<=P.bytesOf e→l.length<=N:=fun h16=>by
   rw [hx] at hg
   rw [hll,←hlen]
   have:=hb.len _ _ _ _ ht hg h16
   rwa [List.length_map] at this
  refine ⟨l,_,rfl,?_,hL,hQ⟩
  have key:=V.lst (Ω:=Om0 w) τ l none bl off cap (fun i j=>(w.cell? ⟨bl,off+(i *ae τ+j),none⟩).getD undef) (by omega) (by unfold maxLen at hcm;unfold b8;omega) (fun id hid=>by cases hid) (fun i z hz j c hj=>?_) (fun i z hz j c hj=>?_)
  ·rw [hll] at key
   exact key
  ·obtain ⟨ds,d1,d2,d3,_⟩:=hle i z hz
   have hjw:j < ae τ:=by
    rw [←aP τ z]
    exact (List.getElem?_eq_some_iff.1 hj).1
   have hv:w.cell? ⟨bl,off+(i *ae τ+j),none⟩=some ds[j]:=by rw [d2 j hjw];exact List.getElem?_eq_getElem (by omega)
   refine ⟨⟨_,hv⟩,?_⟩
   show w.cell? _=_
   rw [hv];rfl
  ·obtain ⟨ds,d1,d2,d3,_⟩:=hle i z hz
   have hjw:j < ae τ:=by
    rw [←aP τ z]
    exact (List.getElem?_eq_some_iff.1 hj).1
   have hd:ds[j]?=some ds[j]:=List.getElem?_eq_getElem (by omega)
   rw [d2 j hjw,hd]
   exact d3.2 j c ds[j] hj hd
theorem tg {N M:Nat} {g:TypeId→DataW H→Prop} (hb:GoodR P N M g) {t e:TypeId} {τ:Ty} {Q:den τ→Prop} {fuel:Nat} {cs:List Value} {x:DataW H × List MemPlace} (ht:P.underlying t=some (.slice e)) (hc:P.cellsOf e=ae τ) (hw:0 < ae τ)
  (h:DataW.trod enc P w base (fun _=>true) held fuel t cs=some x) (hg:g t x.1)
  (hel:∀(n:Nat) (ds:List Value) (y:DataW H × List MemPlace),fuel=n+1→DataW.trod enc P w base (fun _=>true) held n e ds=some y→g e y.1→∃z:den τ,VL (Om0 w) (cells τ z) ds/\Q z) :
  ∃(l:List (den τ)) (v:Value),cs=[v]/\V (Om0 w) (.lst τ l none) v/\(16<=P.bytesOf e→l.length<=N)/\∀z∈l,Q z:=by
 have h0:=h
 rcases DataW.trod_slice ht h with ⟨rfl,_⟩ | ⟨a,len,cap,elems,rest,n,hfu,rfl,_,_,hlc,hcm,hlen,hels,hrest,_⟩
 ·exact ⟨[],_,rfl,.lstNil τ none (fun id hid=>by cases hid),fun _=>Nat.zero_le _,fun z hz=>by cases hz⟩
 ·by_cases hcap:cap=0
  ·have:len=0:=by omega
   subst hcap this
   exact ⟨[],_,rfl,.lstVoid τ a,fun _=>Nat.zero_le _,fun z hz=>by cases hz⟩
  ·refine H4 hb ht hc h0 hg hel fun a' len' cap' e'=>?_
   simp only [List.cons.injEq,Value.slice.injEq,Xs,and_true] at e'
   obtain ⟨rfl,rfl,rfl⟩:=e'
   have hr:∃(ad:Addr) (y:DataW H × List MemPlace),ad=a/\(w.cells? base ad (P.cellsOf e)).bind (DataW.trod enc P w base (fun _=>true) held n e)=some y:=by
    by_cases hl:len=0
    ·obtain ⟨r1,r2⟩:=hrest rfl
     have:=r2 0 (by omega)
     rw [hl] at this
     refine ⟨_,_,?_,this.trans (List.getElem?_eq_getElem (by omega))⟩
     simp [Addr.add]
    ·have:=hels 0 (by omega)
     refine ⟨_,_,?_,this.trans (List.getElem?_eq_getElem (by omega))⟩
     simp [Addr.add]
   obtain ⟨ad,y,rfl,hy⟩:=hr
   rw [Option.bind_eq_some_iff] at hy
   obtain ⟨ds,hd,_⟩:=hy
   obtain ⟨_,hdl,hdc⟩:=World.cells?_some hd
   have:=hdc 0 (by rw [hc];exact hw)
   have ha:ad.add 0=ad:=by simp [Addr.add]
   rw [ha,List.getElem?_eq_getElem (by rw [hdl,hc];exact hw)] at this
   unfold World.cell? at this
   split at this
   ·split at this
    ·cases this
    ·rename_i hs
     cases hsp:ad.spot
     ·rfl
     ·rw [hsp] at hs;exact absurd rfl hs
   ·cases this
theorem lX {N M:Nat} {g:TypeId→DataW H→Prop} (hb:GoodR P N M g) {sp:Nat→Bool} {t:TypeId} {fs:Array Field} {fuel:Nat} {cs:List Value} {x:DataW H × List MemPlace} (ht:P.underlying t=some (.struct fs)) (h:DataW.trod enc P w base sp held fuel t cs=some x) (hg:g t x.1) :
  ∃n,fuel=n+1/\cs.length=P.cellsOf t/\∀(i:Nat) (f:Field),fs[i]?=some f→∃y,DataW.trod enc P w base sp held n f.type ((cs.drop f.offset).take (P.cellsOf f.type))=some y/\g f.type y.1:=by
 obtain ⟨xs,n,hn,hx,hl,hs,hf⟩:=DataW.trod_struct ht h
 refine ⟨n,hn,hl,fun i f hif=>?_⟩
 have hi:i < xs.length:=by
  rw [hs]
  rcases Nat.lt_or_ge i fs.size with k | k
  ·exact k
  ·rw [Array.getElem?_eq_none k] at hif;cases hif
 refine ⟨xs[i],by rw [hf i f hif];exact List.getElem?_eq_getElem hi,?_⟩
 rw [hx] at hg
 exact hb.part _ _ _ ht hg i f _ hif (by rw [List.getElem?_map,List.getElem?_eq_getElem hi];rfl)
theorem H5 {N M:Nat} {g:TypeId→DataW H→Prop} (hb:GoodR P N M g) {sp:Nat→Bool} {t:TypeId} {fuel:Nat} {cs:List Value} {x:DataW H × List MemPlace} (ht:P.underlying t=some .string) (h:DataW.trod enc P w base sp held fuel t cs=some x) (hg:g t x.1) :
  ∃(s:Str) (v:Value),cs=[v]/\V (Om0 w) (.str s) v/\s.length<=M:=by
 obtain ⟨s,rfl,hx,hw⟩:=DataW.trod_string ht h
 refine ⟨s.data.toList,_,rfl,?_,by rw [hx] at hg;exact hb.str _ _ ht hg⟩
 have e:s=⟨s.data.toList.toArray⟩:=by cases s;simp
 have hl:s.data.toList.length<=b8:=by
  have:s.data.size=s.size:=rfl
  unfold maxLen at hw
  unfold b8
  simp only [Array.length_toList,this]
  omega
 have:=V.str (Ω:=Om0 w) s.data.toList hl
 rw [←e] at this
 exact this
structure TermAt (P:Program) (t:TypeId):Prop where
 ex:∃(f0 f1 f2 f3 f4 f5 f6 f7 f8:Field) (e g:TypeId),P.underlying t=some (.struct #[f0,f1,f2,f3,f4,f5,f6,f7,f8])/\P.cellsOf t=9/\
  (f0.offset=0/\f1.offset=1/\f2.offset=2/\f3.offset=3/\f4.offset=4/\f5.offset=5/\f6.offset=6/\f7.offset=7/\f8.offset=8)/\
  (P.cellsOf f0.type=1/\P.cellsOf f1.type=1/\P.cellsOf f2.type=1/\P.cellsOf f3.type=1/\P.cellsOf f4.type=1/\P.cellsOf f5.type=1/\P.cellsOf f6.type=1/\P.cellsOf f7.type=1/\P.cellsOf f8.type=1)/\
  (P.underlying f0.type=some (.int .i64)/\P.underlying f1.type=some .string/\P.underlying f2.type=some .string/\P.underlying f3.type=some (.int .i64)/\P.underlying f4.type=some (.slice e)/\P.underlying f5.type=some (.slice e)/\
   P.underlying f6.type=some (.slice g)/\P.underlying f7.type=some (.slice t)/\P.underlying f8.type=some (.int .i64))/\(P.underlying e=some .string/\P.cellsOf e=1/\P.bytesOf e=16)/\ShapeAt P g
def gP (N M:Nat) (x:Trm):Bool:=decide (x.names.length<=N) && decide (x.name.length<=M)
theorem H6 {N M:Nat} {g:TypeId→DataW H→Prop} (hb:GoodR P N M g) {t:TypeId} (hs:TermAt P t):∀(fuel:Nat) (cs:List Value) (x:DataW H × List MemPlace),DataW.trod enc P w base (fun _=>true) held fuel t cs=some x→g t x.1→
  ∃s:Trm,VL (Om0 w) (cells (.st .term) s) cs/\Pd.allT (gP N M) s=true:=by
 obtain ⟨f0,f1,f2,f3,f4,f5,f6,f7,f8,e,e6,ht,hc,⟨o0,o1,o2,o3,o4,o5,o6,o7,o8⟩,⟨c0,c1,c2,c3,c4,c5,c6,c7,c8⟩,⟨u0,u1,u2,u3,u4,u5,u6,u7,u8⟩,⟨us,ce,b16⟩,hg⟩:=hs
 have cg:P.cellsOf e6=ae (.st .shape):=by obtain ⟨_,_,_,_,_,_,_,hc,_⟩:=hg;rw [hc];rfl
 intro fuel
 induction fuel using Nat.strongRecOn with
 | _ fuel ih=>
 intro cs x h hN
 obtain ⟨n,hn,hl,hf⟩:=lX hb ht h hN
 rw [hc] at hl
 obtain ⟨y0,h0,_⟩:=hf 0 f0 rfl
 obtain ⟨y1,h1,_⟩:=hf 1 f1 rfl
 obtain ⟨y2,h2,b2⟩:=hf 2 f2 rfl
 obtain ⟨y3,h3,_⟩:=hf 3 f3 rfl
 obtain ⟨y4,h4,b4⟩:=hf 4 f4 rfl
 obtain ⟨y5,h5,_⟩:=hf 5 f5 rfl
 obtain ⟨y6,h6,_⟩:=hf 6 f6 rfl
 obtain ⟨y7,h7,b7⟩:=hf 7 f7 rfl
 obtain ⟨y8,h8,_⟩:=hf 8 f8 rfl
 match cs,hl with
 | [a0,a1,a2,a3,a4,a5,a6,a7,a8],_=>
  rw [o0,c0] at h0
  rw [o1,c1] at h1
  rw [o2,c2] at h2
  rw [o3,c3] at h3
  rw [o4,c4] at h4
  rw [o5,c5] at h5
  rw [o6,c6] at h6
  rw [o7,c7] at h7
  rw [o8,c8] at h8
  simp only [List.drop_zero,List.drop_succ_cons,List.take_succ_cons,List.take_zero] at h0 h1 h2 h3 h4 h5 h6 h7 h8
  obtain ⟨k,e0,v0⟩:=jd u0 h0
  obtain ⟨p,w1,e1,v1⟩:=kB u1 h1
  obtain ⟨m,w2,e2,v2,l2⟩:=H5 hb u2 h2 b2
  obtain ⟨z,e3,v3⟩:=jd u3 h3
  have strs:∀(n:Nat) (ds:List Value) (y:DataW H × List MemPlace),DataW.trod enc P w base (fun _=>true) held n e ds=some y→∃z:den .str,VL (Om0 w) (cells .str z) ds:=fun n ds y hy=>by
   obtain ⟨s,v,rfl,hv⟩:=kB us hy
   exact ⟨s,VL.cons hv .nil⟩
  obtain ⟨ns,w4,e4,v4,l4,_⟩:=tg (τ:=.str) (Q:=fun _=>True) hb u4 ce (by decide) h4 b4 (fun n ds y _ hy _=>by obtain ⟨z,hz⟩:=strs n ds y hy;exact ⟨z,hz,trivial⟩)
  obtain ⟨vs,w5,e5,v5⟩:=kU (τ:=.str) u5 ce (by decide) h5 (fun n ds y _ hy=>strs n ds y hy)
  obtain ⟨ss,w6,e6,v6⟩:=kU (τ:=.st .shape) u6 cg (by decide) h6 (fun n ds y _ hy=>Ak hg n ds y hy)
  obtain ⟨ps,w7,e7,v7,_,q7⟩:=tg (τ:=.st .term) (Q:=fun s=>Pd.allT (gP N M) s=true) hb u7 (by rw [hc];rfl) (by decide) h7 b7 (fun k ds y hk hy hle=>ih k (by omega) ds y hy hle)
  obtain ⟨at_,e8,v8⟩:=jd u8 h8
  simp only [List.cons.injEq,and_true] at e0 e1 e2 e3 e4 e5 e6 e7 e8
  subst e0 e1 e2 e3 e4 e5 e6 e7 e8
  refine ⟨⟨k,p,m,z,ns,vs,ss,ps,at_⟩,VL.cons v0 (VL.cons v1 (VL.cons v2 (VL.cons v3 (VL.cons v4 (VL.cons v5 (VL.cons v6 (VL.cons v7 (VL.cons v8 .nil)))))))),?_⟩
  rw [Pd.allT_eq,Bool.and_eq_true,Pd.allTL_all,List.all_eq_true]
  refine ⟨?_,q7⟩
  unfold gP
  rw [Xd (show ns.length<=N from l4 (Nat.le_of_eq b16.symm)),Xd (show m.length<=M from l2)]
  rfl
end Go.AL
end
noncomputable section
namespace Go.AL
open Go.ChangeShapes Go.WideShapes Go.RowKit
variable [Tabs]
theorem VL.app {Ω:Om} {xs bs:List AV} {cs ds:List Value} (h:VL Ω xs cs) (k:VL Ω bs ds):VL Ω (xs++bs) (cs++ds):=by
 induction xs generalizing cs with
 | nil=>
  have:cs=[]:=List.eq_nil_of_length_eq_zero h.1.symm
  subst this
  exact k
 | cons a xs ih=>
  match cs,h with
  | c ::cs,h=>
   exact VL.cons (h.2 0 a c rfl rfl) (ih ⟨by have:=h.1;simpa using this,fun j x y hx hy=>h.2 (j+1) x y hx hy⟩)
variable {H:Type} {enc:TypeId × Value→H} {P:Program} {w:World} {base:Nat} {held:Bool}
theorem BE {N M:Nat} {g:TypeId→DataW H→Prop} (hb:GoodR P N M g) {t e:TypeId} {τ:Ty} {l:List (den τ)} {v:Value} {fuel:Nat} {x:DataW H × List MemPlace} (ht:P.underlying t=some (.slice e)) (h16:16<=P.bytesOf e)
  (h:DataW.trod enc P w base (fun _=>true) held fuel t [v]=some x) (hg:g t x.1) (hv:V (Om0 w) (.lst τ l none) v):l.length<=N:=by
 rcases hv.lst_inv with ⟨rfl,_⟩ | ⟨rfl,_⟩ | ⟨b,off,cap,vals,rfl,_⟩
 ·exact Nat.zero_le _
 ·exact Nat.zero_le _
 ·rcases DataW.trod_slice ht h with ⟨hc,_⟩ | ⟨a,len,cap',elems,rest,n,hfu,hcs,hx,_,hlc,hcm,hlen,hels,_,_⟩
  ·simp at hc
  ·simp only [List.cons.injEq,Value.slice.injEq,and_true] at hcs
   rw [hx] at hg
   have:=hb.len _ _ _ _ ht hg h16
   rw [List.length_map] at this
   omega
theorem ec {N M:Nat} {g:TypeId→DataW H→Prop} (hb:GoodR P N M g) {t e:TypeId} {fs:Array Field} {i:Nat} {f:Field} {τ:Ty} {l:List (den τ)} {as':List AV} {cs:List Value} {fuel:Nat} {x:DataW H × List MemPlace} (ht:P.underlying t=some (.struct fs)) (hi:fs[i]?=some f)
  (h1:P.cellsOf f.type=1) (hf:P.underlying f.type=some (.slice e)) (h16:16<=P.bytesOf e) (h:DataW.trod enc P w base (fun _=>true) held fuel t cs=some x) (hg:g t x.1) (hv:VL (Om0 w) as' cs) (hc:as'[f.offset]?=some (.lst τ l none)):l.length<=N:=by
 obtain ⟨n,hn,hl,hfs⟩:=lX hb ht h hg
 obtain ⟨y,hy,gy⟩:=hfs i f hi
 have hlt:f.offset < cs.length:=by
  rw [←hv.1]
  exact (List.getElem?_eq_some_iff.1 hc).1
 have e1:(cs.drop f.offset).take 1=[cs[f.offset]]:=by
  rw [List.drop_eq_getElem_cons hlt];rfl
 rw [h1,e1] at hy
 exact BE hb hf h16 hy gy (hv.2 f.offset _ _ hc (List.getElem?_eq_getElem hlt))
structure VersAt (P:Program) (t:TypeId):Prop where
 ex:∃(f0 f1 f2 f3:Field),P.underlying t=some (.struct #[f0,f1,f2,f3])/\P.cellsOf t=4/\(f0.offset=0/\f1.offset=1/\f2.offset=2/\f3.offset=3)/\
  (P.cellsOf f0.type=1/\P.cellsOf f1.type=1/\P.cellsOf f2.type=1/\P.cellsOf f3.type=1)/\P.underlying f0.type=some (.int .i64)/\P.underlying f1.type=some (.int .i64)/\P.underlying f2.type=some (.int .i64)/\P.underlying f3.type=some .string
theorem E0 {t:TypeId} (hs:VersAt P t) (fuel:Nat) (cs:List Value) (x:DataW H × List MemPlace) (h:DataW.trod enc P w base (fun _=>true) held fuel t cs=some x):∃s:Vers,VL (Om0 w) (cells (.st .version) s) cs:=by
 obtain ⟨f0,f1,f2,f3,ht,hc,⟨o0,o1,o2,o3⟩,⟨c0,c1,c2,c3⟩,u0,u1,u2,u3⟩:=hs
 obtain ⟨n,hn,hl,hf⟩:=ou ht h
 rw [hc] at hl
 obtain ⟨y0,h0⟩:=hf 0 f0 rfl
 obtain ⟨y1,h1⟩:=hf 1 f1 rfl
 obtain ⟨y2,h2⟩:=hf 2 f2 rfl
 obtain ⟨y3,h3⟩:=hf 3 f3 rfl
 match cs,hl with
 | [a0,a1,a2,a3],_=>
  rw [o0,c0] at h0
  rw [o1,c1] at h1
  rw [o2,c2] at h2
  rw [o3,c3] at h3
  simp only [List.drop_zero,List.drop_succ_cons,List.take_succ_cons,List.take_zero] at h0 h1 h2 h3
  obtain ⟨k0,e0,v0⟩:=jd u0 h0
  obtain ⟨k1,e1,v1⟩:=jd u1 h1
  obtain ⟨k2,e2,v2⟩:=jd u2 h2
  obtain ⟨k3,v',e3,v3⟩:=kB u3 h3
  simp only [List.cons.injEq,and_true] at e0 e1 e2 e3
  subst e0 e1 e2 e3
  exact ⟨⟨k0,k1,k2,k3⟩,VL.cons v0 (VL.cons v1 (VL.cons v2 (VL.cons v3 .nil)))⟩
structure BndAt (P:Program) (t:TypeId):Prop where
 ex:∃(f0 f1:Field),P.underlying t=some (.struct #[f0,f1])/\P.cellsOf t=5/\(f0.offset=0/\f1.offset=1)/\(P.cellsOf f0.type=1/\P.cellsOf f1.type=4)/\P.underlying f0.type=some (.int .i64)/\VersAt P f1.type
theorem HG {t:TypeId} (hs:BndAt P t) (fuel:Nat) (cs:List Value) (x:DataW H × List MemPlace) (h:DataW.trod enc P w base (fun _=>true) held fuel t cs=some x):∃s:Bnd,VL (Om0 w) (cells (.st .bound) s) cs:=by
 obtain ⟨f0,f1,ht,hc,⟨o0,o1⟩,⟨c0,c1⟩,u0,u1⟩:=hs
 obtain ⟨n,hn,hl,hf⟩:=ou ht h
 rw [hc] at hl
 obtain ⟨y0,h0⟩:=hf 0 f0 rfl
 obtain ⟨y1,h1⟩:=hf 1 f1 rfl
 match cs,hl with
 | [a0,a1,a2,a3,a4],_=>
  rw [o0,c0] at h0
  rw [o1,c1] at h1
  simp only [List.drop_zero,List.drop_succ_cons,List.take_succ_cons,List.take_zero] at h0 h1
  obtain ⟨k0,e0,v0⟩:=jd u0 h0
  obtain ⟨s,v1⟩:=E0 u1 _ _ _ h1
  simp only [List.cons.injEq,and_true] at e0
  subst e0
  exact ⟨⟨k0,s⟩,VL.cons v0 (VL.app v1 .nil)⟩
structure ImpAt (P:Program) (t:TypeId):Prop where
 ex:∃(f0 f1 f2 f3:Field) (e:TypeId),P.underlying t=some (.struct #[f0,f1,f2,f3])/\P.cellsOf t=7/\(f0.offset=0/\f1.offset=1/\f2.offset=5/\f3.offset=6)/\
  (P.cellsOf f0.type=1/\P.cellsOf f1.type=4/\P.cellsOf f2.type=1/\P.cellsOf f3.type=1)/\P.underlying f0.type=some .string/\VersAt P f1.type/\P.underlying f2.type=some (.slice e)/\P.underlying f3.type=some (.int .i64)/\BndAt P e
theorem HH {t:TypeId} (hs:ImpAt P t) (fuel:Nat) (cs:List Value) (x:DataW H × List MemPlace) (h:DataW.trod enc P w base (fun _=>true) held fuel t cs=some x):∃s:Impt,VL (Om0 w) (cells (.st .imp) s) cs:=by
 obtain ⟨f0,f1,f2,f3,e,ht,hc,⟨o0,o1,o2,o3⟩,⟨c0,c1,c2,c3⟩,u0,u1,u2,u3,hb⟩:=hs
 obtain ⟨n,hn,hl,hf⟩:=ou ht h
 rw [hc] at hl
 obtain ⟨y0,h0⟩:=hf 0 f0 rfl
 obtain ⟨y1,h1⟩:=hf 1 f1 rfl
 obtain ⟨y2,h2⟩:=hf 2 f2 rfl
 obtain ⟨y3,h3⟩:=hf 3 f3 rfl
 have hw:P.cellsOf e=ae (.st .bound):=by obtain ⟨_,_,_,hc,_⟩:=hb;rw [hc];rfl
 match cs,hl with
 | [a0,a1,a2,a3,a4,a5,a6],_=>
  rw [o0,c0] at h0
  rw [o1,c1] at h1
  rw [o2,c2] at h2
  rw [o3,c3] at h3
  simp only [List.drop_zero,List.drop_succ_cons,List.take_succ_cons,List.take_zero] at h0 h1 h2 h3
  obtain ⟨k0,v',e0,v0⟩:=kB u0 h0
  obtain ⟨s,v1⟩:=E0 u1 _ _ _ h1
  obtain ⟨l,w2,e2,v2⟩:=kU (τ:=.st .bound) u2 hw (by decide) h2 (fun n ds y _ hy=>HG hb n ds y hy)
  obtain ⟨k3,e3,v3⟩:=jd u3 h3
  simp only [List.cons.injEq,and_true] at e0 e2 e3
  subst e0 e2 e3
  exact ⟨⟨k0,s,l,k3⟩,VL.cons v0 (VL.app v1 (VL.cons v2 (VL.cons v3 .nil)))⟩
def ve (N:Nat) (s:Dcl):Prop:=s.shape.names.length<=N/\s.shape.parts.length<=N/\s.term.names.length<=N/\s.term.vars.length<=N/\s.term.shapes.length<=N/\s.term.parts.length<=N
def pS (P:Program) (t:TypeId):Prop:=∀(fs:Array Field) (i:Nat) (f:Field) (e:TypeId),P.underlying t=some (.struct fs)→fs[i]?=some f→P.underlying f.type=some (.slice e)→16<=P.bytesOf e
theorem vf {N M:Nat} {g:TypeId→DataW H→Prop} (hb:GoodR P N M g) {t:TypeId} (hs:ShapeAt P t) (hw:pS P t) {fuel:Nat} {cs:List Value} {x:DataW H × List MemPlace} {s:Shape} (h:DataW.trod enc P w base (fun _=>true) held fuel t cs=some x) (hg:g t x.1)
  (hv:VL (Om0 w) (cells (.st .shape) s) cs):s.names.length<=N/\s.parts.length<=N:=by
 obtain ⟨f0,f1,f2,f3,f4,e,ht,hc,⟨o0,o1,o2,o3,o4⟩,⟨c0,c1,c2,c3,c4⟩,u0,u1,u2,u3,us,ce,u4⟩:=hs
 exact ⟨ec (i:=3) (f:=f3) (τ:=.str) hb ht rfl c3 u3 (hw _ 3 f3 _ ht rfl u3) h hg hv (by rw [o3];rfl),ec (i:=4) (f:=f4) (τ:=.st .shape) hb ht rfl c4 u4 (hw _ 4 f4 _ ht rfl u4) h hg hv (by rw [o4];rfl)⟩
theorem yh {N M:Nat} {g:TypeId→DataW H→Prop} (hb:GoodR P N M g) {t:TypeId} (hs:TermAt P t) (hw:pS P t) {fuel:Nat} {cs:List Value} {x:DataW H × List MemPlace} {s:Trm} (h:DataW.trod enc P w base (fun _=>true) held fuel t cs=some x) (hg:g t x.1)
  (hv:VL (Om0 w) (cells (.st .term) s) cs):s.names.length<=N/\s.vars.length<=N/\s.shapes.length<=N/\s.parts.length<=N:=by
 obtain ⟨f0,f1,f2,f3,f4,f5,f6,f7,f8,e,e6,ht,hc,⟨o0,o1,o2,o3,o4,o5,o6,o7,o8⟩,⟨c0,c1,c2,c3,c4,c5,c6,c7,c8⟩,⟨u0,u1,u2,u3,u4,u5,u6,u7,u8⟩,⟨us,ce,b16⟩,hg'⟩:=hs
 exact ⟨ec (i:=4) (f:=f4) (τ:=.str) hb ht rfl c4 u4 (hw _ 4 f4 _ ht rfl u4) h hg hv (by rw [o4];rfl),ec (i:=5) (f:=f5) (τ:=.str) hb ht rfl c5 u5 (hw _ 5 f5 _ ht rfl u5) h hg hv (by rw [o5];rfl),
  ec (i:=6) (f:=f6) (τ:=.st .shape) hb ht rfl c6 u6 (hw _ 6 f6 _ ht rfl u6) h hg hv (by rw [o6];rfl),ec (i:=7) (f:=f7) (τ:=.st .term) hb ht rfl c7 u7 (hw _ 7 f7 _ ht rfl u7) h hg hv (by rw [o7];rfl)⟩
structure DclAt (P:Program) (t:TypeId):Prop where
 ex:∃(f0 f1 f2 f3 f4:Field),P.underlying t=some (.struct #[f0,f1,f2,f3,f4])/\P.cellsOf t=17/\(f0.offset=0/\f1.offset=1/\f2.offset=2/\f3.offset=7/\f4.offset=16)/\
  (P.cellsOf f0.type=1/\P.cellsOf f1.type=1/\P.cellsOf f2.type=5/\P.cellsOf f3.type=9/\P.cellsOf f4.type=1)/\P.underlying f0.type=some (.int .i64)/\P.underlying f1.type=some .string/\(ShapeAt P f2.type/\pS P f2.type)/\(TermAt P f3.type/\pS P f3.type)/\P.underlying f4.type=some (.int .i64)
theorem HI {N M:Nat} {g:TypeId→DataW H→Prop} (hb:GoodR P N M g) {t:TypeId} (hs:DclAt P t) (fuel:Nat) (cs:List Value) (x:DataW H × List MemPlace) (h:DataW.trod enc P w base (fun _=>true) held fuel t cs=some x) (hg:g t x.1) :
  ∃s:Dcl,VL (Om0 w) (cells (.st .decl) s) cs/\Pd.allT (gP N M) s.term=true/\ve N s:=by
 obtain ⟨f0,f1,f2,f3,f4,ht,hc,⟨o0,o1,o2,o3,o4⟩,⟨c0,c1,c2,c3,c4⟩,u0,u1,⟨u2,q2⟩,⟨u3,q3⟩,u4⟩:=hs
 obtain ⟨n,hn,hl,hf⟩:=lX hb ht h hg
 rw [hc] at hl
 obtain ⟨y0,h0,_⟩:=hf 0 f0 rfl
 obtain ⟨y1,h1,_⟩:=hf 1 f1 rfl
 obtain ⟨y2,h2,b2⟩:=hf 2 f2 rfl
 obtain ⟨y3,h3,b3⟩:=hf 3 f3 rfl
 obtain ⟨y4,h4,_⟩:=hf 4 f4 rfl
 match cs,hl with
 | [a0,a1,a2,a3,a4,a5,a6,a7,a8,a9,a10,a11,a12,a13,a14,a15,a16],_=>
  rw [o0,c0] at h0
  rw [o1,c1] at h1
  rw [o2,c2] at h2
  rw [o3,c3] at h3
  rw [o4,c4] at h4
  simp only [List.drop_zero,List.drop_succ_cons,List.take_succ_cons,List.take_zero] at h0 h1 h2 h3 h4
  obtain ⟨k0,e0,v0⟩:=jd u0 h0
  obtain ⟨k1,v',e1,v1⟩:=kB u1 h1
  obtain ⟨s,v2⟩:=Ak u2 _ _ _ h2
  obtain ⟨m,v3,q⟩:=H6 hb u3 _ _ _ h3 b3
  obtain ⟨l1,l2⟩:=vf hb u2 q2 h2 b2 v2
  obtain ⟨l3,l4,l5,l6⟩:=yh hb u3 q3 h3 b3 v3
  obtain ⟨k4,e4,v4⟩:=jd u4 h4
  simp only [List.cons.injEq,and_true] at e0 e1 e4
  subst e0 e1 e4
  exact ⟨⟨k0,k1,s,m,k4⟩,VL.cons v0 (VL.cons v1 (VL.app v2 (VL.app v3 (VL.cons v4 .nil)))),q,l1,l2,l3,l4,l5,l6⟩
structure ModuAt (P:Program) (t:TypeId):Prop where
 ex:∃(f0 f1 f2 f3 f4:Field) (e1 e2 e3:TypeId),P.underlying t=some (.struct #[f0,f1,f2,f3,f4])/\P.cellsOf t=5/\(f0.offset=0/\f1.offset=1/\f2.offset=2/\f3.offset=3/\f4.offset=4)/\
  (P.cellsOf f0.type=1/\P.cellsOf f1.type=1/\P.cellsOf f2.type=1/\P.cellsOf f3.type=1/\P.cellsOf f4.type=1)/\P.underlying f0.type=some .string/\P.underlying f1.type=some (.slice e1)/\P.underlying f2.type=some (.slice e2)/\
  P.underlying f3.type=some (.slice e3)/\P.underlying f4.type=some (.int .i64)/\ImpAt P e1/\DclAt P e2/\P.underlying e3=some .string/\P.cellsOf e3=1
theorem H7 {N M:Nat} {g:TypeId→DataW H→Prop} (hb:GoodR P N M g) {t:TypeId} (hs:ModuAt P t) (fuel:Nat) (cs:List Value) (x:DataW H × List MemPlace) (h:DataW.trod enc P w base (fun _=>true) held fuel t cs=some x) (hg:g t x.1) :
  ∃s:Modu,VL (Om0 w) (cells (.st .modu) s) cs/\∀d∈s.decls,Pd.allT (gP N M) d.term=true/\ve N d:=by
 obtain ⟨f0,f1,f2,f3,f4,e1,e2,e3,ht,hc,⟨o0,o1,o2,o3,o4⟩,⟨c0,c1,c2,c3,c4⟩,u0,u1,u2,u3,u4,hi,hd,us,cs3⟩:=hs
 obtain ⟨n,hn,hl,hf⟩:=lX hb ht h hg
 rw [hc] at hl
 obtain ⟨y0,h0,_⟩:=hf 0 f0 rfl
 obtain ⟨y1,h1,_⟩:=hf 1 f1 rfl
 obtain ⟨y2,h2,b2⟩:=hf 2 f2 rfl
 obtain ⟨y3,h3,_⟩:=hf 3 f3 rfl
 obtain ⟨y4,h4,_⟩:=hf 4 f4 rfl
 have w1:P.cellsOf e1=ae (.st .imp):=by obtain ⟨_,_,_,_,_,_,hc,_⟩:=hi;rw [hc];rfl
 have w2:P.cellsOf e2=ae (.st .decl):=by obtain ⟨_,_,_,_,_,_,hc,_⟩:=hd;rw [hc];rfl
 match cs,hl with
 | [a0,a1,a2,a3,a4],_=>
  rw [o0,c0] at h0
  rw [o1,c1] at h1
  rw [o2,c2] at h2
  rw [o3,c3] at h3
  rw [o4,c4] at h4
  simp only [List.drop_zero,List.drop_succ_cons,List.take_succ_cons,List.take_zero] at h0 h1 h2 h3 h4
  obtain ⟨k0,v',e0,v0⟩:=kB u0 h0
  obtain ⟨li,x1,g1,v1⟩:=kU (τ:=.st .imp) u1 w1 (by decide) h1 (fun n ds y _ hy=>HH hi n ds y hy)
  obtain ⟨ld,x2,g2,v2,_,q⟩:=tg (τ:=.st .decl) (Q:=fun d:Dcl=>Pd.allT (gP N M) d.term=true/\ve N d) hb u2 w2 (by decide) h2 b2 (fun n ds y _ hy hq=>HI hb hd n ds y hy hq)
  obtain ⟨le,x3,g3,v3⟩:=kU (τ:=.str) u3 cs3 (by decide) h3 (fun n ds y _ hy=>by obtain ⟨s,hv,e,hs⟩:=kB us hy;subst e;exact ⟨s,VL.cons hs .nil⟩)
  obtain ⟨k4,g4,v4⟩:=jd u4 h4
  simp only [List.cons.injEq,and_true] at e0 g1 g2 g3 g4
  subst e0 g1 g2 g3 g4
  exact ⟨⟨k0,li,ld,le,k4⟩,VL.cons v0 (VL.cons v1 (VL.cons v2 (VL.cons v3 (VL.cons v4 .nil)))),q⟩
theorem BF {N M:Nat} {g:TypeId→DataW H→Prop} (hb:GoodR P N M g) {t:TypeId} (hs:ModuAt P t) {r:Reach} {b0:Nat} {v:Value} {d:DataW H} {ps:List MemPlace} (hv:Value.okWide P w r b0 t v) (h:DataW.Trod enc P w base (fun _=>true) held t v d ps) (hg:g t d) :
  ∃s:Modu,V (Om0 w) (.st .modu s) v/\∀d∈s.decls,Pd.allT (gP N M) d.term=true/\ve N d:=by
 obtain ⟨fu,h⟩:=h
 obtain ⟨s,hs',hq⟩:=H7 hb hs _ _ _ h hg
 refine ⟨s,.st .modu s v ?_,hq⟩
 have hl:=hs'.1
 have hc:(cells (.st .modu) s).length=5:=rfl
 rw [hc] at hl
 cases v with
 | agg vs=>
  have:=V.of_agg hs'
  simpa [Value.cells] using this
 | _=>simp [Value.cells] at hl
end Go.AL
end
section
namespace Go.Pd
open Go.AL
variable {l:List Tokn} {R:PS→Trm × PS}
end Go.Pd
namespace Go.Pd
open Go.AL
structure TokG (t:Tokn):Prop where
 kind:¬t.kind=0
 name:t.kind=1→al t.text=true
 upper:t.kind=2→bB t.text=true
 num:t.kind=3→lU t.text
 pos:0<=t.pos
end Go.Pd
namespace Go.Pd
open Go.AL
end Go.Pd
end
section
namespace Go.Pd
open Go.AL
mutual
def sizeF:Shape→Int→Int
 | ⟨_,_,_,_,ps⟩,m=>sizeL ps 1 m
def sizeL:List Shape→Int→Int→Int
 | [],n,_=>n
 | p ::r,n,m=>if n<=m then sizeL r (n+sizeF p (m - n)) m else n
end
mutual
theorem sizeF_bd:∀(s:Shape) (m:Int),0<=m→1<=sizeF s m/\sizeF s m<=m+1
 | ⟨_,_,_,_,ps⟩,m,h=>by
  simp only [sizeF]
  exact sizeL_bd ps 1 m (by omega) (by omega)
theorem sizeL_bd:∀(l:List Shape) (n m:Int),1<=n→n<=m+1→1<=sizeL l n m/\sizeL l n m<=m+1
 | [],n,m,h1,h2=>by simp only [sizeL];omega
 | p ::r,n,m,h1,h2=>by
  simp only [sizeL]
  split
  ·have:=sizeF_bd p (m - n) (by omega)
   exact sizeL_bd r _ m (by omega) (by omega)
  ·omega
end
def dc:Str→Nat
 | []=>0
 | b ::r=>if dx (bI b)=true then dc r+1 else 0
theorem rL:∀s:Str,(dc s=s.length↔(s.all fun c=>dx (bI c))=true)
 | []=>by simp [dc]
 | b ::r=>by
  simp only [dc,List.length_cons,List.all_cons,Bool.and_eq_true]
  by_cases h:dx (bI b)=true
  ·rw [if_pos h,←rL r]
   constructor
   ·intro e;exact ⟨h,by omega⟩
   ·rintro ⟨_,e⟩;omega
  ·rw [if_neg h]
   constructor
   ·intro e;omega
   ·rintro ⟨e,_⟩;exact absurd e h
theorem nE (first:Int→Bool) (s:Str):cu first s=(!decide (s=[]) && decide (s.length<=24) && first (bI (s.getD 0 0)) && decide (dc s=s.length)):=by
 unfold cu
 congr 1
 rw [Bool.eq_iff_iff,decide_eq_true_eq]
 exact (rL s).symm
def fO (ns:List Str) (n:Int):Bool:=decide ((ns.length:Int)=n) && ns.all al && decide ns.Nodup
mutual
def deepF:Shape→Nat
 | ⟨_,_,_,_,ps⟩=>maxDeep ps+1
def maxDeep:List Shape→Nat
 | []=>0
 | p ::r=>max (deepF p) (maxDeep r)
end
mutual
theorem deepS_F:∀(s:Shape) (l:Int),deepS s l=l+deepF s - 1
 | ⟨_,_,_,_,ps⟩,l=>by
  simp only [deepS,deepF]
  rw [deepL_F ps (l+1) l (by omega)]
  omega
theorem deepL_F:∀(ps:List Shape) (m d:Int),m - 1<=d→deepL ps m d=max d (m+maxDeep ps - 1)
 | [],m,d,h=>by simp only [deepL,maxDeep];omega
 | p ::r,m,d,h=>by
  simp only [deepL,maxDeep]
  rw [deepL_F r m _ (by omega),deepS_F p m]
  omega
end
mutual
theorem deepF_sz:∀s:Shape,deepF s<=sz s
 | ⟨_,_,_,_,ps⟩=>by
  have:=maxDeep_sz ps
  simp only [deepF,sz]
  omega
theorem maxDeep_sz:∀l:List Shape,maxDeep l<=szL l
 | []=>Nat.le_refl _
 | p ::r=>by
  have:=deepF_sz p
  have:=maxDeep_sz r
  simp only [maxDeep,szL]
  omega
end
mutual
theorem sizeF_eq:∀(s:Shape) (m:Int),0<=m→sizeF s m=min (sz s:Int) (m+1)
 | ⟨_,_,_,_,ps⟩,m,h=>by
  simp only [sizeF,sz]
  rw [sizeL_eq ps 1 m (by omega)]
  omega
theorem sizeL_eq:∀(l:List Shape) (n m:Int),n<=m+1→sizeL l n m=min (n+szL l) (m+1)
 | [],n,m,h=>by simp only [sizeL,szL];omega
 | p ::r,n,m,h=>by
  simp only [sizeL,szL]
  have:=dP p
  split
  ·rw [sizeF_eq p (m - n) (by omega),sizeL_eq r _ m (by omega)]
   omega
  ·omega
end
theorem H8 (s:Shape):bj s=if 400 < sizeF s 400 then 3 else if 40 < (deepF s:Int) then 91 else if allS aV s=true then 0 else 70:=by
 unfold bj
 rw [sizeF_eq s 400 (by omega),deepS_F]
 have e:(1:Int)+deepF s - 1=deepF s:=by omega
 rw [e]
 by_cases h:400 < sz s
 ·rw [if_pos h,if_pos (show (400:Int) < min (sz s:Int) (400+1) by omega)]
 ·rw [if_neg h,if_neg (show ¬(400:Int) < min (sz s:Int) (400+1) by omega)]
end Go.Pd
end
section
namespace Go.Pd
open Go.AL
def p0 (A:Ans):Pat
 | [],[]=>some A
 | _,_=>none
theorem HJ [Tabs] {P:Program} {f:Nat} {A:Ans} (he:an P f) (h:aw P f [] [] A):ag P f (p0 A):=by
 intro args S A' hA _ _
 unfold p0 at hA
 split at hA
 ·simp only [Xs] at hA
  subst hA
  exact ⟨he,h⟩
 ·cases hA
end Go.Pd
end
section
namespace Go.Pd
open Go.AL
mutual
theorem eqS_eq:∀{a b:Shape},eqS a b=true→a=b
 | ⟨k,p,n,ns,ps⟩,⟨k',p',n',ns',ps'⟩,h=>by
  simp only [eqS,Bool.and_eq_true,decide_eq_true_eq] at h
  obtain ⟨⟨⟨⟨rfl,rfl⟩,rfl⟩,rfl⟩,h⟩:=h
  rw [eqL_eq h]
theorem eqL_eq:∀{a b:List Shape},eqL a b=true→a=b
 | [],[],_=>rfl
 | [],_ ::_,h=>by simp [eqL] at h
 | _ ::_,[],h=>by simp [eqL] at h
 | a ::r,b ::s,h=>by
  simp only [eqL,Bool.and_eq_true] at h
  rw [eqS_eq h.1,eqL_eq h.2]
end
end Go.Pd
end
section
namespace Go.Pd
open Go.AL
def GF (env:Envt) (b:List Bndg):Envt:=⟨env.self,env.types,env.values++b,env.own⟩
end Go.Pd
end
noncomputable section
namespace Go.Pd
open Go.AL
def yi:List Bndg→Str→Str→Option Shape
 | [],_,_=>none
 | b ::r,o,m=>match yi r o m with
  | some s=>some s
  | none=>if b.pkg=o/\b.name=m then some b.shape else none
end Go.Pd
end
section
namespace Go.Pd
open Go.AL
structure RoomR (t:Trm):Prop where
 k6:t.kind=6→t.names.length<=4096/\t.shapes.length=t.names.length/\t.parts.length=1
 k7:t.kind=7→0 < t.parts.length
 k1:t.kind=9∨t.kind=10∨t.kind=16∨t.kind=17→t.parts.length=1
 k11:t.kind=11→t.shapes.length=1
 k12:t.kind=12→t.shapes.length=1/\t.parts.length=3
 k13:t.kind=13→t.vars.length=t.names.length/\t.shapes.length=t.names.length+1/\t.parts.length=t.names.length+1
 k14:t.kind=14→t.parts.length=2
 k15:t.kind=15→t.shapes.length=1/\t.parts.length=1
 all:1<=t.kind/\t.kind<=17
end Go.Pd
end
section
namespace Go.Pd
open Go.AL
section Agree
variable {T U:Trm→Envt→Shape × Flt} {R:Envt→Envt→Prop} {Q:Trm→Prop}
variable (hT:∀p,Q p→∀e f,R e f→T p e=U p f) (hW:∀e f l,R e f→R (GF e l) (GF f l))
include hT
include hW
end Agree
structure Alike (b:Bndg) (e f:Envt):Prop where
 types:e.types=f.types
 own:e.own=f.own
 self:e.self=f.self
 vals:∀o m,¬(o=b.pkg/\m=b.name)→yi e.values o m=yi f.values o m
end Go.Pd
end
section
namespace Go.Pd
open Go.AL
abbrev SR3:=Shape × Int × Flt
abbrev TR3:=Trm × Int × Flt
end Go.Pd
end
section
namespace Go.Pd
open Go.AL
abbrev st (l:List Tokn) (a:Int):PS:=⟨l,a,0,0⟩
variable {l:List Tokn}
section
variable {l:List Tokn} {R:PS→Shape × PS} {R':Int→SR3}
end
end Go.Pd
end
section
namespace Go.AL
variable [Tabs]
section
variable {P:Program}
def p4 (τ σ ρ μ:Ty) (F:den τ→den σ→den ρ→den μ→Ans):Pat
 | [a,b,c,d],[]=>(match arg τ a,arg σ b,arg ρ c,arg μ d with | some a,some b,some c,some d=>some (F a b c d) | _,_,_,_=>none)
 | _,_=>none
def p5 (τ σ ρ μ ν:Ty) (F:den τ→den σ→den ρ→den μ→den ν→Ans):Pat
 | [a,b,c,d,e],[]=>(match arg τ a,arg σ b,arg ρ c,arg μ d,arg ν e with | some a,some b,some c,some d,some e=>some (F a b c d e) | _,_,_,_,_=>none)
 | _,_=>none
theorem HK {f:Nat} {τ σ ρ μ ν:Ty} {F:den τ→den σ→den ρ→den μ→den ν→Ans} (he:an P f)
  (h:∀x y z u v,Wf τ x→Wf σ y→Wf ρ z→(∀q,(F x y z u v).ob=some q→q)→aw P f [inj τ x,inj σ y,inj ρ z,inj μ u,inj ν v] [] (F x y z u v)):ag P f (p5 τ σ ρ μ ν F):=by
 intro args S A hA ho _
 unfold p5 at hA
 split at hA
 ·split at hA
  ·rename_i x y z u v hx hy hz hu hv
   simp at hA
   subst hA
   exact ⟨he,aw.args (.cons (Rd.arg hx) (.cons (Rd.arg hy) (.cons (Rd.arg hz) (.cons (Rd.arg hu) (.cons (Rd.arg hv) .nil))))) (aw.wf fun hw=>h x y z u v hw.one hw.two hw.three ho)⟩
  ·cases hA
 ·cases hA
end
end Go.AL
end
section
namespace Go.Pd
open Go.AL
def dB (p:Int):Bool:=decide (0<=p) && decide (p<=1114111) && (decide (p < 55296) || decide (57343 < p))
def iv (n:Int):UInt8:=UInt8.ofNat n.toNat
def cv (p:Int):Str:=
 if p < 128 then [iv p]
 else if p < 2048 then [iv (192+p / 64),iv (128+p % 64)]
 else if p < 65536 then [iv (224+p / 4096),iv (128+p / 64 % 64),iv (128+p % 64)]
 else [iv (240+p / 262144),iv (128+p / 4096 % 64),iv (128+p / 64 % 64),iv (128+p % 64)]
def bK (s:Str):Nat:=if 240<=bI (s.getD 0 0) then 4 else if 224<=bI (s.getD 0 0) then 3 else if 192<=bI (s.getD 0 0) then 2 else 1
def eJ (s:Str):Int:=if 240<=bI (s.getD 0 0) then bI (s.getD 0 0) - 240 else if 224<=bI (s.getD 0 0) then bI (s.getD 0 0) - 224 else if 192<=bI (s.getD 0 0) then bI (s.getD 0 0) - 192 else bI (s.getD 0 0)
def aO (s:Str):Nat→Int
 | 0=>eJ s
 | 1=>eJ s
 | k+2=>aO s (k+1) *64+bI (s.getD (k+1) 0) - 128
def fC (s:Str):Int × Int:=
 if s=[] then (0,0) else if s.length < bK s then (0,0)
 else if dB (aO s (bK s))=true/\cv (aO s (bK s))=s.take (bK s) then (aO s (bK s),bK s) else (0,0)
end Go.Pd
end
section
namespace Go.Pd
open Go.AL
theorem dG {n:Int} {b:UInt8} (h0:0<=n) (h1:n<=255):iv n=b↔n=bI b:=by
 unfold iv bI
 constructor
 ·intro e
  rw [←e,UInt8.toNat_ofNat']
  have:n.toNat % 2 ^ 8=n.toNat:=Nat.mod_eq_of_lt (by omega)
  rw [this]
  omega
 ·intro e
  rw [e,Int.toNat_natCast]
  exact UInt8.ofNat_toNat
theorem E1 {p:Int} (h:0<=p) (a:UInt8):cv p=[a]↔p < 128/\p=bI a:=by
 unfold cv
 split
 ·simp only [List.cons.injEq,and_true]
  rw [dG h (by omega)]
  omega
 ·refine ⟨fun e=>?_,fun e=>by omega⟩
  revert e
  split <;> (try split) <;> simp
theorem E2 {p:Int} (h:0<=p) (a b:UInt8):cv p=[a,b]↔128<=p/\p < 2048/\192+p / 64=bI a/\128+p % 64=bI b:=by
 unfold cv
 split
 ·refine ⟨fun e=>?_,fun e=>by omega⟩
  simp at e
 split
 ·simp only [List.cons.injEq,and_true]
  rw [dG (by omega) (by omega),dG (by omega) (by omega)]
  omega
 ·refine ⟨fun e=>?_,fun e=>by omega⟩
  revert e
  split <;> simp
theorem E3 {p:Int} (h:0<=p) (a b c:UInt8):cv p=[a,b,c]↔2048<=p/\p < 65536/\224+p / 4096=bI a/\128+p / 64 % 64=bI b/\128+p % 64=bI c:=by
 unfold cv
 split
 ·refine ⟨fun e=>?_,fun e=>by omega⟩
  simp at e
 split
 ·refine ⟨fun e=>?_,fun e=>by omega⟩
  simp at e
 split
 ·simp only [List.cons.injEq,and_true]
  rw [dG (by omega) (by omega),dG (by omega) (by omega),dG (by omega) (by omega)]
  omega
 ·refine ⟨fun e=>?_,fun e=>by omega⟩
  simp at e
theorem E4 {p:Int} (h:0<=p) (hp:p<=1114111) (a b c d:UInt8):cv p=[a,b,c,d]↔65536<=p/\240+p / 262144=bI a/\128+p / 4096 % 64=bI b/\128+p / 64 % 64=bI c/\128+p % 64=bI d:=by
 unfold cv
 split
 ·refine ⟨fun e=>?_,fun e=>by omega⟩
  simp at e
 split
 ·refine ⟨fun e=>?_,fun e=>by omega⟩
  simp at e
 split
 ·refine ⟨fun e=>?_,fun e=>by omega⟩
  simp at e
 ·simp only [List.cons.injEq,and_true]
  rw [dG (by omega) (by omega),dG (by omega) (by omega),dG (by omega) (by omega),dG (by omega) (by omega)]
  omega
theorem j0 (p:Int):dB p=true↔0<=p/\p<=1114111/\(p < 55296∨57343 < p):=by
 unfold dB
 simp only [Bool.and_eq_true,Bool.or_eq_true,decide_eq_true_eq,and_assoc]
theorem vg (s:Str):(fC s).2=(gB s:Int):=by
 match s with
 | []=>rfl
 | b ::r=>
  rw [DE]
  have hb:=UInt8.toNat_lt b
  have e0:bI ((b ::r).getD 0 0)=(b.toNat:Int):=rfl
  unfold fC
  rw [if_neg (List.cons_ne_nil _ _)]
  by_cases c4:240<=(b.toNat:Int)
  ·have hL:bK (b ::r)=4:=by unfold bK;rw [e0,if_pos c4]
   rw [hL]
   match r with
   | []=>rw [if_pos (by simp)];unfold jL;simp only [List.length_nil];(repeat' split) <;> first | rfl | omega
   | [c1]=>rw [if_pos (by simp)];unfold jL;simp only [List.length_cons,List.length_nil];(repeat' split) <;> first | rfl | omega
   | [c1,c2]=>rw [if_pos (by simp)];unfold jL;simp only [List.length_cons,List.length_nil];(repeat' split) <;> first | rfl | omega
   | c1 ::c2 ::c3 ::r=>
    have h1:=UInt8.toNat_lt c1
    have h2:=UInt8.toNat_lt c2
    have h3:=UInt8.toNat_lt c3
    have hf:aO (b ::c1 ::c2 ::c3 ::r) 4=((((b.toNat:Int) - 240) *64+c1.toNat - 128) *64+c2.toNat - 128) *64+c3.toNat - 128:=by
     have:eJ (b ::c1 ::c2 ::c3 ::r)=(b.toNat:Int) - 240:=by unfold eJ;rw [show bI ((b ::c1 ::c2 ::c3 ::r).getD 0 0)=(b.toNat:Int) from rfl,if_pos c4]
     unfold aO aO aO aO
     rw [this]
     rfl
    rw [if_neg (by simp),hf]
    have ht:(b ::c1 ::c2 ::c3 ::r).take 4=[b,c1,c2,c3]:=rfl
    rw [ht]
    generalize hp:((((b.toNat:Int) - 240) *64+c1.toNat - 128) *64+c2.toNat - 128) *64+c3.toNat - 128=p
    have key:(dB p=true/\cv p=[b,c1,c2,c3])↔(0<=p/\p<=1114111/\(p < 55296∨57343 < p))/\(65536<=p/\240+p / 262144=(b.toNat:Int)/\128+p / 4096 % 64=(c1.toNat:Int)/\128+p / 64 % 64=(c2.toNat:Int)/\128+p % 64=(c3.toNat:Int)):=by
     rw [j0]
     exact and_congr_right fun e=>E4 e.1 e.2.1 _ _ _ _
    unfold jL
    simp only [List.length_cons,List.getD_cons_zero,List.getD_cons_succ]
    rw [show p / 4096=p / 64 / 64 by omega,show p / 262144=p / 64 / 64 / 64 by omega] at key
    generalize hu:p / 64=u at key
    generalize hv:u / 64=v at key
    generalize hw:v / 64=w at key
    split
    ·next h=>
     have h:=key.1 h
     have x0:b.toNat / 8=30/\c1.toNat / 64=2/\c2.toNat / 64=2/\c3.toNat / 64=2:=by omega
     have x1:b.toNat % 8 *262144+c1.toNat % 64 *4096+c2.toNat % 64 *64+c3.toNat % 64=p.toNat:=by omega
     rw [x1,if_neg (by omega),if_neg (by omega),if_neg (by omega),if_pos ⟨x0.1,⟨by omega,x0.2.1⟩,⟨by omega,x0.2.2.1⟩,by omega,x0.2.2.2⟩,if_pos (by omega)]
    ·next h=>
     by_cases x0:b.toNat / 8=30/\c1.toNat / 64=2/\c2.toNat / 64=2/\c3.toNat / 64=2
     ·have x1:((b.toNat % 8 *262144+c1.toNat % 64 *4096+c2.toNat % 64 *64+c3.toNat % 64:Nat):Int)=p:=by omega
      have x2:¬((b.toNat % 8 *262144+c1.toNat % 64 *4096+c2.toNat % 64 *64+c3.toNat % 64)≥65536/\((b.toNat % 8 *262144+c1.toNat % 64 *4096+c2.toNat % 64 *64+c3.toNat % 64) < 55296∨57344<=(b.toNat % 8 *262144+c1.toNat % 64 *4096+c2.toNat % 64 *64+c3.toNat % 64)/\(b.toNat % 8 *262144+c1.toNat % 64 *4096+c2.toNat % 64 *64+c3.toNat % 64)<=1114111)):=fun e=>h (key.2 ⟨by omega,by omega⟩)
      rw [if_neg (by omega),if_neg (by omega),if_neg (by omega),if_pos ⟨x0.1,⟨by omega,x0.2.1⟩,⟨by omega,x0.2.2.1⟩,by omega,x0.2.2.2⟩,if_neg x2]
      rfl
     ·rw [if_neg (by omega),if_neg (by omega),if_neg (by omega),if_neg (fun e=>x0 ⟨e.1,e.2.1.2,e.2.2.1.2,e.2.2.2.2⟩)]
      rfl
  by_cases c3:224<=(b.toNat:Int)
  ·have hL:bK (b ::r)=3:=by unfold bK;rw [e0,if_neg c4,if_pos c3]
   rw [hL]
   match r with
   | []=>rw [if_pos (by simp)];unfold jL;simp only [List.length_nil];(repeat' split) <;> first | rfl | omega
   | [c1]=>rw [if_pos (by simp)];unfold jL;simp only [List.length_cons,List.length_nil];(repeat' split) <;> first | rfl | omega
   | c1 ::c2 ::r=>
    have h1:=UInt8.toNat_lt c1
    have h2:=UInt8.toNat_lt c2
    have hf:aO (b ::c1 ::c2 ::r) 3=(((b.toNat:Int) - 224) *64+c1.toNat - 128) *64+c2.toNat - 128:=by
     have:eJ (b ::c1 ::c2 ::r)=(b.toNat:Int) - 224:=by unfold eJ;rw [show bI ((b ::c1 ::c2 ::r).getD 0 0)=(b.toNat:Int) from rfl,if_neg c4,if_pos c3]
     unfold aO aO aO
     rw [this]
     rfl
    rw [if_neg (by simp),hf]
    have ht:(b ::c1 ::c2 ::r).take 3=[b,c1,c2]:=rfl
    rw [ht]
    generalize hp:(((b.toNat:Int) - 224) *64+c1.toNat - 128) *64+c2.toNat - 128=p
    have key:(dB p=true/\cv p=[b,c1,c2])↔(0<=p/\p<=1114111/\(p < 55296∨57343 < p))/\(2048<=p/\p < 65536/\224+p / 4096=(b.toNat:Int)/\128+p / 64 % 64=(c1.toNat:Int)/\128+p % 64=(c2.toNat:Int)):=by
     rw [j0]
     exact and_congr_right fun e=>E3 e.1 _ _ _
    unfold jL
    simp only [List.length_cons,List.getD_cons_zero,List.getD_cons_succ]
    rw [show p / 4096=p / 64 / 64 by omega] at key
    generalize hu:p / 64=u at key
    generalize hv:u / 64=v at key
    split
    ·next h=>
     have h:=key.1 h
     have x0:b.toNat / 16=14/\c1.toNat / 64=2/\c2.toNat / 64=2:=by omega
     have x1:b.toNat % 16 *4096+c1.toNat % 64 *64+c2.toNat % 64=p.toNat:=by omega
     rw [x1,if_neg (by omega),if_neg (by omega),if_pos ⟨x0.1,⟨by omega,x0.2.1⟩,by omega,x0.2.2⟩,if_pos (by omega)]
    ·next h=>
     by_cases x0:b.toNat / 16=14/\c1.toNat / 64=2/\c2.toNat / 64=2
     ·have x1:((b.toNat % 16 *4096+c1.toNat % 64 *64+c2.toNat % 64:Nat):Int)=p:=by omega
      have x2:¬((b.toNat % 16 *4096+c1.toNat % 64 *64+c2.toNat % 64)≥2048/\((b.toNat % 16 *4096+c1.toNat % 64 *64+c2.toNat % 64) < 55296∨57344<=(b.toNat % 16 *4096+c1.toNat % 64 *64+c2.toNat % 64)/\(b.toNat % 16 *4096+c1.toNat % 64 *64+c2.toNat % 64)<=1114111)):=fun e=>h (key.2 ⟨by omega,by omega⟩)
      rw [if_neg (by omega),if_neg (by omega),if_pos ⟨x0.1,⟨by omega,x0.2.1⟩,by omega,x0.2.2⟩,if_neg x2]
      rfl
     ·rw [if_neg (by omega),if_neg (by omega),if_neg (fun e=>x0 ⟨e.1,e.2.1.2,e.2.2.2⟩),if_neg (by omega)]
      rfl
  by_cases c2:192<=(b.toNat:Int)
  ·have hL:bK (b ::r)=2:=by unfold bK;rw [e0,if_neg c4,if_neg c3,if_pos c2]
   rw [hL]
   match r with
   | []=>rw [if_pos (by simp)];unfold jL;simp only [List.length_nil];(repeat' split) <;> first | rfl | omega
   | c1 ::r=>
    have h1:=UInt8.toNat_lt c1
    have hf:aO (b ::c1 ::r) 2=((b.toNat:Int) - 192) *64+c1.toNat - 128:=by
     have:eJ (b ::c1 ::r)=(b.toNat:Int) - 192:=by unfold eJ;rw [show bI ((b ::c1 ::r).getD 0 0)=(b.toNat:Int) from rfl,if_neg c4,if_neg c3,if_pos c2]
     unfold aO aO
     rw [this]
     rfl
    rw [if_neg (by simp),hf]
    have ht:(b ::c1 ::r).take 2=[b,c1]:=rfl
    rw [ht]
    generalize hp:((b.toNat:Int) - 192) *64+c1.toNat - 128=p
    have key:(dB p=true/\cv p=[b,c1])↔(0<=p/\p<=1114111/\(p < 55296∨57343 < p))/\(128<=p/\p < 2048/\192+p / 64=(b.toNat:Int)/\128+p % 64=(c1.toNat:Int)):=by
     rw [j0]
     exact and_congr_right fun e=>E2 e.1 _ _
    unfold jL
    simp only [List.length_cons,List.getD_cons_zero,List.getD_cons_succ]
    generalize hu:p / 64=u at key
    split
    ·next h=>
     have h:=key.1 h
     have x0:b.toNat / 32=6/\c1.toNat / 64=2:=by omega
     have x1:b.toNat % 32 *64+c1.toNat % 64=p.toNat:=by omega
     rw [x1,if_neg (by omega),if_pos ⟨x0.1,by omega,x0.2⟩,if_pos (by omega)]
    ·next h=>
     by_cases x0:b.toNat / 32=6/\c1.toNat / 64=2
     ·have x1:((b.toNat % 32 *64+c1.toNat % 64:Nat):Int)=p:=by omega
      generalize b.toNat % 32 *64+c1.toNat % 64=q at x1 ⊢
      have x2:¬(q≥128):=fun e=>h (key.2 ⟨by omega,by omega⟩)
      rw [if_neg (by omega),if_pos ⟨x0.1,by omega,x0.2⟩,if_neg x2]
      rfl
     ·rw [if_neg (by omega),if_neg (fun e=>x0 ⟨e.1,e.2.2⟩),if_neg (by omega),if_neg (by omega)]
      rfl
  ·have hL:bK (b ::r)=1:=by unfold bK;rw [e0,if_neg c4,if_neg c3,if_neg c2]
   rw [hL,if_neg (by simp)]
   have hf:aO (b ::r) 1=(b.toNat:Int):=by
    unfold aO eJ
    rw [e0,if_neg c4,if_neg c3,if_neg c2]
   rw [hf]
   have ht:(b ::r).take 1=[b]:=rfl
   rw [ht]
   have key:(dB (b.toNat:Int)=true/\cv (b.toNat:Int)=[b])↔(b.toNat:Int) < 128:=by
    rw [j0,E1 (by omega)]
    constructor
    ·exact fun e=>e.2.1
    ·exact fun e=>⟨by omega,e,rfl⟩
   by_cases h:b.toNat < 128
   ·rw [if_pos (key.2 (by omega))];unfold jL;rw [if_pos h]
   ·rw [if_neg (fun e=>h (by have:=key.1 e;omega))];unfold jL;rw [if_neg h,if_neg (by omega),if_neg (by omega),if_neg (by omega)];rfl
theorem G1 (s:Str):gB s<=s.length:=by
 by_cases h:s=[]
 ·subst h;exact Nat.le_refl _
 by_cases e:gB s=0
 ·omega
 obtain ⟨_,h2,_,_,h5⟩:=pG h
 have:=h2 e
 omega
theorem Ap {s:Str} {n:Nat} (h:n<=s.length):n+gB (s.drop n)<=s.length:=by
 have:=G1 (s.drop n)
 rw [List.length_drop] at this
 omega
end Go.Pd
end
section
namespace Go.Pd
open Go.AL
mutual
def dr:Trm→Int→Int
 | ⟨_,_,_,_,_,_,_,ps,_⟩,m=>sizeTL ps 1 m
def sizeTL:List Trm→Int→Int→Int
 | [],n,_=>n
 | p ::r,n,m=>if n<=m then sizeTL r (n+dr p (m - n)) m else n
end
mutual
def deepT:Trm→Nat
 | ⟨_,_,_,_,_,_,_,ps,_⟩=>maxDT ps+1
def maxDT:List Trm→Nat
 | []=>0
 | p ::r=>max (deepT p) (maxDT r)
end
mutual
theorem sizeT_bd:∀(s:Trm) (m:Int),0<=m→1<=dr s m/\dr s m<=m+1
 | ⟨_,_,_,_,_,_,_,ps,_⟩,m,h=>by
  simp only [dr]
  exact sizeTL_bd ps 1 m (by omega) (by omega)
theorem sizeTL_bd:∀(l:List Trm) (n m:Int),1<=n→n<=m+1→1<=sizeTL l n m/\sizeTL l n m<=m+1
 | [],n,m,h1,h2=>by simp only [sizeTL];omega
 | p ::r,n,m,h1,h2=>by
  simp only [sizeTL]
  split
  ·have:=sizeT_bd p (m - n) (by omega)
   exact sizeTL_bd r _ m (by omega) (by omega)
  ·omega
end
mutual
theorem deepT_sz:∀s:Trm,deepT s<=szT s
 | ⟨_,_,_,_,_,_,_,ps,_⟩=>by
  have:=maxDT_sz ps
  simp only [deepT,szT]
  omega
theorem maxDT_sz:∀l:List Trm,maxDT l<=szTL l
 | []=>Nat.le_refl _
 | p ::r=>by
  have:=deepT_sz p
  have:=maxDT_sz r
  simp only [maxDT,szTL]
  omega
end
mutual
theorem sizeT_eq:∀(s:Trm) (m:Int),0<=m→dr s m=min (szT s:Int) (m+1)
 | ⟨_,_,_,_,_,_,_,ps,_⟩,m,h=>by
  simp only [dr,szT]
  rw [sizeTL_eq ps 1 m (by omega)]
  omega
theorem sizeTL_eq:∀(l:List Trm) (n m:Int),n<=m+1→sizeTL l n m=min (n+szTL l) (m+1)
 | [],n,m,h=>by simp only [sizeTL,szTL];omega
 | p ::r,n,m,h=>by
  simp only [sizeTL,szTL]
  have:=dh p
  split
  ·rw [sizeT_eq p (m - n) (by omega),sizeTL_eq r _ m (by omega)]
   omega
  ·omega
end
mutual
theorem countT_size:∀(s:Trm) (m:Int),0<=m→(countT s m).1=min (szT s:Int) (m+1)
 | ⟨_,_,_,_,_,_,_,ps,_⟩,m,h=>by
  simp only [countT,szT]
  rw [countL_size ps m 1 0 (by omega)]
  omega
theorem countL_size:∀(l:List Trm) (m n d:Int),n<=m+1→(countL l m n d).1=min (n+szTL l) (m+1)
 | [],m,n,d,h=>by simp only [countL,szTL];omega
 | p ::r,m,n,d,h=>by
  simp only [countL,szTL]
  have:=dh p
  split
  ·show n=_;omega
  ·rw [countL_size r m _ _ (by rw [countT_size p (m - n) (by omega)];omega),countT_size p (m - n) (by omega)]
   omega
end
mutual
theorem countT_deep:∀(s:Trm) (m:Int),(szT s:Int)<=m→(countT s m).2=deepT s
 | ⟨_,_,_,_,_,_,_,ps,_⟩,m,h=>by
  simp only [szT] at h
  simp only [countT,deepT]
  rw [countL_deep ps m 1 0 (by omega) (by omega)]
  omega
theorem countL_deep:∀(l:List Trm) (m n d:Int),n+szTL l<=m→0<=d→(countL l m n d).2=max d (maxDT l)
 | [],m,n,d,h,h0=>by simp only [countL,maxDT];omega
 | p ::r,m,n,d,h,h0=>by
  simp only [szTL] at h
  simp only [countL,maxDT]
  rw [if_neg (by omega)]
  have e1:(countT p (m - n)).1=szT p:=by rw [countT_size p (m - n) (by omega)];omega
  rw [countL_deep r m _ _ (by rw [e1];omega) (by omega),countT_deep p (m - n) (by omega)]
  omega
end
theorem yj (t:Trm):bD t=if 4096 < dr t 4096 then 3 else if 40 < (deepT t:Int) then 91 else if allT aq t=true then 0 else 80:=by
 unfold bD
 rw [countT_size t 4096 (by omega),sizeT_eq t 4096 (by omega)]
 by_cases h:(4096:Int) < min (szT t:Int) (4096+1)
 ·rw [if_pos h,if_pos h]
 ·rw [if_neg h,if_neg h,countT_deep t 4096 (by omega)]
mutual
def eqT:Trm→Trm→Bool→Bool
 | ⟨k,g,q,z,ns,vs,ss,ps,pp⟩,⟨k',g',q',z',ns',vs',ss',ps',pp'⟩,b=>
  decide (k=k') && decide (g=g') && decide (q=q') && decide (z=z') && (!b || decide (pp=pp')) && decide (ns=ns') && decide (vs=vs') && eqL ss ss' && eqTL ps ps' b
def eqTL:List Trm→List Trm→Bool→Bool
 | [],[],_=>true
 | x ::r,y ::s,b=>eqT x y b && eqTL r s b
 | _,_,_=>false
end
theorem pT:∀{l m:List Trm} {b:Bool},l.length≠m.length→eqTL l m b=false
 | [],[],_,h=>absurd rfl h
 | [],_ ::_,_,_=>rfl
 | _ ::_,[],_,_=>rfl
 | x ::r,y ::s,b,h=>by
  rw [eqTL,pT (l:=r) (m:=s) (by simpa using h),Bool.and_false]
theorem dQ (a c:Trm) (b:Bool):eqT a c b=(decide (a.kind=c.kind) && decide (a.pkg=c.pkg) && decide (a.name=c.name) && decide (a.n=c.n) && (!b || decide (a.pos=c.pos)) && decide (a.names=c.names) && decide (a.vars=c.vars) && eqL a.shapes c.shapes && eqTL a.parts c.parts b):=by
 cases a;cases c;rw [eqT]
mutual
theorem eqS_self:∀a:Shape,eqS a a=true
 | ⟨k,p,m,ns,ps⟩=>by simp [eqS,eqL_self ps]
theorem eqL_self:∀l:List Shape,eqL l l=true
 | []=>by simp [eqL]
 | a ::r=>by simp [eqL,eqS_self a,eqL_self r]
end
mutual
theorem eqT_self:∀(a:Trm) (b:Bool),eqT a a b=true
 | ⟨k,g,q,z,ns,vs,ss,ps,pp⟩,b=>by simp [eqT,eqL_self ss,eqTL_self ps b]
theorem eqTL_self:∀(l:List Trm) (b:Bool),eqTL l l b=true
 | [],b=>by simp [eqTL]
 | a ::r,b=>by simp [eqTL,eqT_self a b,eqTL_self r b]
end
def dC (ns:List Str) (b:Bool):Bool:=ns.all al && (!b || decide ns.Nodup)
def fw (t:Trm) (n v s p:Int):Bool:=decide ((t.names.length:Int)=n) && decide ((t.vars.length:Int)=v) && decide ((t.shapes.length:Int)=s) && decide ((t.parts.length:Int)=p)
def j6 (s:Str):Nat→Nat→List Int→List Int × Flt
 | 0,_,acc=>(acc,⟨0,0⟩)
 | f+1,i,acc=>if i < s.length then (if gB (s.drop i)=0 then ([],⟨30,i⟩) else j6 s f (i+gB (s.drop i)) (acc++[(fC (s.drop i)).1])) else (acc,⟨0,0⟩)
def gQ (s:Str):List Int × Flt:=j6 s (s.length+1) 0 []
end Go.Pd
end
section
namespace Go.Pd
open Go.AL
mutual
def bareT:Trm→Trm
 | ⟨k,g,n,z,ns,vs,ss,ps,_⟩=>⟨k,g,n,z,ns,vs,ss,bareTL ps,0⟩
def bareTL:List Trm→List Trm
 | []=>[]
 | p ::r=>bareT p ::bareTL r
end
def iw (s:Shape):Bool:=decide (s.names.length<=1000000)
def th (t:Trm):Bool:=decide (t.names.length<=1000000) && decide (t.vars.length<=1000000) && decide (t.parts.length<=1000000) && decide (szL t.shapes<=1000000000) && allL iw t.shapes
theorem j7 {t:Trm}:th t=true↔t.names.length<=1000000/\t.vars.length<=1000000/\t.parts.length<=1000000/\szL t.shapes<=1000000000/\allL iw t.shapes=true:=by
 unfold th;simp only [Bool.and_eq_true,decide_eq_true_eq,and_assoc]
def cD (t:Trm):Bool:=allT th t
theorem tj (t:Trm):bareT t=⟨t.kind,t.pkg,t.name,t.n,t.names,t.vars,t.shapes,bareTL t.parts,0⟩:=by cases t;rw [bareT]
theorem j8:∀l:List Trm,bareTL l=l.map bareT
 | []=>rfl
 | p ::r=>by rw [List.map_cons,←j8 r];rw [bareTL]
theorem pU {f g:Trm→Bool}:∀(n:Nat) (t:Trm),szT t<=n→(∀x,szT x<=n→f x=true→g x=true)→allT f t=true→allT g t=true
 | 0,t,h,_,_=>by have:=dh t;omega
 | n+1,t,h,k,ha=>by
  rw [allT_eq,Bool.and_eq_true,allTL_all,List.all_eq_true] at ha ⊢
  refine ⟨k t h ha.1,fun x hx=>?_⟩
  have h1:=dI hx
  have h2:=eD t
  exact pU n x (by omega) (fun y hy=>k y (by omega)) (ha.2 x hx)
theorem vh {f g:Shape→Bool}:∀(n:Nat) (t:Shape),sz t<=n→(∀x,sz x<=n→f x=true→g x=true)→allS f t=true→allS g t=true
 | 0,t,h,_,_=>by have:=dP t;omega
 | n+1,t,h,k,ha=>by
  rw [eC,Bool.and_eq_true,gA,List.all_eq_true] at ha ⊢
  refine ⟨k t h ha.1,fun x hx=>?_⟩
  have h1:=dA hx
  have h2:=gz t
  exact vh n x (by omega) (fun y hy=>k y (by omega)) (ha.2 x hx)
theorem vi {s:Shape} (h:aV s=true):s.names.length<=s.parts.length:=by
 unfold aV at h
 simp only at h
 repeat' split at h
 all_goals simp [cN] at h
 all_goals simp_all
theorem nF {s:Shape} (h:aW s=true):allS iw s=true:=by
 unfold aW at h
 rw [Bool.and_eq_true,decide_eq_true_eq] at h
 have hc:=h.1
 unfold bj at hc
 split at hc
 ·exact absurd hc (by decide)
 rename_i h1
 split at hc
 ·exact absurd hc (by decide)
 split at hc
 ·rename_i h3
  refine vh 400 s (by omega) (fun x hx hf=>?_) h3
  have:=vi hf
  have:=lT x.parts
  have:=gz x
  unfold iw
  rw [Xd (by omega)]
 ·exact absurd hc (by decide)
theorem yk {s:Shape} (h:aW s=true):sz s<=400:=by
 unfold aW at h
 rw [Bool.and_eq_true,decide_eq_true_eq] at h
 have hc:=h.1
 unfold bj at hc
 split at hc
 ·exact absurd hc (by decide)
 ·omega
theorem yl {t:Trm} (hn:szT t<=4096) (h:aq t=true):th t=true:=by
 have hl:t.parts.length<=4096:=by
  have h1:∀l:List Trm,l.length<=szTL l:=by
   intro l
   induction l with
   | nil=>exact Nat.zero_le _
   | cons a r ih=>rw [szTL];have:=dh a;simp;omega
  have:=h1 t.parts
  have:=eD t
  omega
 unfold aq at h
 rw [Bool.and_eq_true] at h
 obtain ⟨h1,h2⟩:=h
 have hs:allL iw t.shapes=true:=by
  unfold fI at h1
  rw [Bool.and_eq_true,List.all_eq_true] at h1
  rw [gA,List.all_eq_true]
  exact fun x hx=>nF (h1.2 x hx)
 have hb:t.names.length<=4096/\t.vars.length<=4096/\t.shapes.length<=4097:=by
  have rm:∀{n v s p:Nat},dy t n v s p=true→t.names.length=n/\t.vars.length=v/\t.shapes.length=s/\t.parts.length=p:=fun h=>by
   unfold dy at h
   simp only [Bool.and_eq_true,decide_eq_true_eq] at h
   exact ⟨h.1.1.1,h.1.1.2,h.1.2,h.2⟩
  have sp:∀{c:Prop} [Decidable c] {a b:Bool} {X:Prop},(if c then a else b)=true→(a=true→X)→(b=true→X)→X:=fun {c} _ {a b X} h h1 h2=>by
   by_cases k:c
   ·rw [if_pos k] at h;exact h1 h
   ·rw [if_neg k] at h;exact h2 h
  unfold je at h2
  have fin:∀{b:Bool} {n v s p:Nat},(n<=4096/\v<=4096/\s<=4097)→(b && dy t n v s p)=true→t.names.length<=4096/\t.vars.length<=4096/\t.shapes.length<=4097:=fun k h=>by
   rw [Bool.and_eq_true] at h
   have:=rm h.2
   omega
  have z0:(0:Nat)<=4096/\0<=4096/\0<=4097:=by decide
  have z1:(0:Nat)<=4096/\0<=4096/\1<=4097:=by decide
  refine sp h2 (fin z0) (fun h2=>sp h2 (fin z0) (fun h2=>sp h2 (fin z0) (fun h2=>sp h2 (fin z0) (fun h2=>sp h2 (fun h=>?_) (fun h2=>sp h2 (fin z0) (fun h2=>sp h2 (fun h=>?_) (fun h2=>sp h2 (fin z0) (fun h2=>sp h2 (fin z1) (fun h2=>sp h2 (fin z1) (fun h2=>sp h2 (fun h=>?_) (fun h2=>sp h2 (fin z0) (fun h2=>sp h2 (fin z1) (fun h2=>sp h2 (fin z0) (fun h=>by cases h))))))))))))))
  ·have h':=h
   simp only [Bool.and_eq_true,decide_eq_true_eq] at h'
   exact fin (by omega) h
  ·have r:=rm (by rw [Bool.and_eq_true] at h;exact h.2)
   omega
  ·have r:=rm (by rw [Bool.and_eq_true] at h;exact h.2)
   omega
 have hz:szL t.shapes<=t.shapes.length *400:=by
  unfold fI at h1
  rw [Bool.and_eq_true,List.all_eq_true] at h1
  have h1:=h1.2
  generalize t.shapes=l at h1
  induction l with
  | nil=>exact Nat.zero_le _
  | cons a r ih=>
   have:=ih fun x hx=>h1 x (List.mem_cons_of_mem _ hx)
   have ha:=yk (h1 a List.mem_cons_self)
   rw [szL,List.length_cons]
   omega
 exact j7.2 ⟨by omega,by omega,by omega,by omega,hs⟩
theorem vj {t:Trm} (h:bD t=0):cD t=true/\bT t=true:=by
 unfold bD at h
 split at h
 ·exact absurd h (by decide)
 rename_i h1
 split at h
 ·exact absurd h (by decide)
 split at h
 ·rename_i h3
  have hz:szT t<=4096:=by
   rw [countT_size t 4096 (by omega)] at h1
   omega
  have sm:cD t=true:=pU 4096 t hz (fun x hx hf=>yl hx hf) h3
  refine ⟨sm,pU 4096 t hz (fun x hx hf=>?_) sm⟩
  exact Xd (Nat.le_trans (j7.1 hf).1 (by decide))
 ·exact absurd h (by decide)
theorem ym {t:Trm} (h:bD t=0):szT t<=4096/\deepT t<=40:=by
 unfold bD at h
 by_cases a:4096 < (countT t 4096).1
 ·rw [if_pos a] at h;exact absurd h (by decide)
 rw [if_neg a] at h
 rw [countT_size t 4096 (by omega)] at a
 by_cases b:40 < (countT t 4096).2
 ·rw [if_pos b] at h;exact absurd h (by decide)
 rw [countT_deep t 4096 (by omega)] at b
 omega
theorem vk:∀(n:Nat) (t:Trm),szT t<=n→szT (bareT t)=szT t
 | 0,t,h=>by have:=dh t;omega
 | n+1,t,h=>by
  have hl:∀l:List Trm,szTL l<=n→szTL (l.map bareT)=szTL l:=by
   intro l
   induction l with
   | nil=>intro _;rfl
   | cons a r ih=>intro h;rw [szTL] at h;rw [List.map_cons,szTL,szTL,vk n a (by omega),ih (by omega)]
  have he:=eD t
  rw [eD (bareT t),tj,j8,he,hl _ (by omega)]
end Go.Pd
end
section
namespace Go.Pd
open Go.AL
def zapF (f:Flt):Flt:=⟨f.err,0⟩
def zapR (r:Shape × Flt):Shape × Flt:=(r.1,zapF r.2)
section Bare
variable {T:Trm→Envt→Shape × Flt} (hT:∀p e,T (bareT p) e=zapR (T p e))
include hT
end Bare
section Bare2
variable {T:Trm→Envt→Shape × Flt} (hT:∀p e,T (bareT p) e=zapR (T p e))
include hT
end Bare2
end Go.Pd
end
section
namespace Go.Pd
open Go.AL
def G2 (s:Shape):Bool:=!decide (s.kind=9)
structure ClE (e:Envt):Prop where
 types:∀b∈e.types,allS G2 b.shape=true
 values:∀b∈e.values,allS G2 b.shape=true
 own:∀b∈e.own,allS G2 b.shape=true
section
variable {T:Trm→Envt→Shape × Flt} (hT:∀p e,ClE e→(T p e).2.err=0→allS G2 (T p e).1=true)
include hT
end
end Go.Pd
end
section
namespace Go.Pd
open Go.AL
theorem pV:∀(f:Nat) (s:Str) (i:Nat) (acc:List Int),s.length - i < f→i<=s.length→((j6 s f i acc).2.err=0↔jM s i=none)
 | 0,s,i,acc,h,_=>absurd h (Nat.not_lt_zero _)
 | f+1,s,i,acc,h,hi=>by
  rw [j6]
  by_cases k:i < s.length
  ·rw [if_pos k]
   by_cases b:gB (s.drop i)=0
   ·rw [if_pos b,Bu k b]
    simp
   ·rw [if_neg b,xR k b]
    have:=Ap (s:=s) (n:=i) hi
    exact pV f s _ _ (by omega) this
  ·rw [if_neg k,Bt (by omega)]
   simp
theorem pW (s:Str):(gQ s).2.err=0↔jK s=none:=by
 rw [←xQ]
 exact pV _ s 0 [] (by omega) (Nat.zero_le _)
theorem yn {s:Str} (h:s.all cJ=true):decide ((gQ s).2.err=0)=gC s:=by
 unfold gC
 rw [h,Bool.true_and]
 cases e:jK s with
 | none=>rw [Xd ((pW s).2 e)];rfl
 | some k=>rw [Xf (fun q=>by have:=(pW s).1 q;rw [e] at this;cases this)];rfl
theorem BG {c:Prop} [Decidable c] {a b:Bool} {P:Prop} (h:(if c then a else b)=true) (f:a=true→P) (g:b=true→P):P:=by
 by_cases k:c
 ·rw [if_pos k] at h;exact f h
 ·rw [if_neg k] at h;exact g h
theorem pX {t:Trm} (h:je t=true):jO t.names=true/\t.vars.all al=true:=by
 unfold je dy at h
 repeat' (refine BG h (fun h=>?_) (fun h=>?_))
 all_goals simp only [Bool.and_eq_true,decide_eq_true_eq,Bool.false_eq_true] at h
 all_goals refine ⟨?_,?_⟩
 all_goals first
  | exact h.1.2 | exact h.1.1.2
  | (have e1:=List.eq_nil_of_length_eq_zero (l:=t.vars) (by omega);rw [e1];rfl)
  | (have e1:=List.eq_nil_of_length_eq_zero (l:=t.names) (by omega);rw [e1];rfl)
  | exact h.elim
theorem yo {t:Trm} (h:dC t.names true=false):aq t=false:=by
 rw [Bool.eq_false_iff]
 intro e
 unfold aq at e
 rw [Bool.and_eq_true] at e
 have:=(pX e.2).1
 unfold jO at this
 unfold dC at h
 simp at this h
 exact h this.1 this.2
theorem BH {t:Trm} (h:dC t.vars false=false):aq t=false:=by
 rw [Bool.eq_false_iff]
 intro e
 unfold aq at e
 rw [Bool.and_eq_true] at e
 have:=(pX e.2).2
 unfold dC at h
 rw [this] at h
 simp at h
def cR (t:Trm):Bool:=allT (fun x=>decide (x.name.length<=2000000) && decide (x.names.length<=2000000)) t
theorem yp {t x:Trm} (h:cR t=true) (hx:x∈t.parts):cR x=true:=by
 unfold cR at h ⊢
 rw [allT_eq,Bool.and_eq_true,allTL_all] at h
 exact List.all_eq_true.1 h.2 x hx
theorem yq {t:Trm} (h:cR t=true):t.name.length<=2000000/\t.names.length<=2000000:=by
 unfold cR at h
 rw [allT_eq,Bool.and_eq_true,Bool.and_eq_true,decide_eq_true_eq,decide_eq_true_eq] at h
 exact h.1
end Go.Pd
end
section
namespace Go.Pd
open Go.AL
def noS (s:Shape):Bool:=decide (s.kind=0) && decide (s.pkg=[]) && decide (s.name=[]) && decide (s.names.length+s.parts.length=0)
def noT (t:Trm):Bool:=decide (t.kind=0) && decide (t.pkg=[]) && decide (t.name=[]) && decide (t.n=0) && decide (t.pos=0) && decide (t.names.length+t.vars.length+t.shapes.length+t.parts.length=0)
def tT:Shape:=⟨0,[],[],[],[]⟩
def BI:Trm:=⟨0,[],[],0,[],[],[],[],0⟩
theorem Aq {s:Shape}:noS s=true↔s=tT:=by
 obtain ⟨k,p,n,ns,ps⟩:=s
 simp only [noS,tT,Bool.and_eq_true,decide_eq_true_eq,AL.Shape.mk.injEq]
 constructor
 ·rintro ⟨⟨⟨h1,h2⟩,h3⟩,h4⟩
  exact ⟨h1,h2,h3,List.eq_nil_of_length_eq_zero (by omega),List.eq_nil_of_length_eq_zero (by omega)⟩
 ·rintro ⟨h1,h2,h3,h4,h5⟩
  refine ⟨⟨⟨h1,h2⟩,h3⟩,?_⟩
  rw [h4,h5];rfl
theorem tl {t:Trm}:noT t=true↔t=BI:=by
 obtain ⟨k,p,n,z,ns,vs,ss,ps,at'⟩:=t
 simp only [noT,BI,Bool.and_eq_true,decide_eq_true_eq,AL.Trm.mk.injEq]
 constructor
 ·rintro ⟨⟨⟨⟨⟨h1,h2⟩,h3⟩,h4⟩,h5⟩,h6⟩
  exact ⟨h1,h2,h3,h4,List.eq_nil_of_length_eq_zero (by omega),List.eq_nil_of_length_eq_zero (by omega),List.eq_nil_of_length_eq_zero (by omega),List.eq_nil_of_length_eq_zero (by omega),h5⟩
 ·rintro ⟨h1,h2,h3,h4,h5,h6,h7,h8,h9⟩
  refine ⟨⟨⟨⟨⟨h1,h2⟩,h3⟩,h4⟩,h9⟩,?_⟩
  rw [h5,h6,h7,h8];rfl
theorem H9 (s:Shape):eqS s tT=noS s:=by
 obtain ⟨k,p,n,ns,ps⟩:=s
 simp only [eqS,noS,tT]
 cases ns <;> cases ps <;> simp [eqL]
theorem Ha (t:Trm):eqT t BI true=noT t:=by
 obtain ⟨k,p,n,z,ns,vs,ss,ps,at'⟩:=t
 simp only [eqT,noT,BI]
 cases ns <;> cases vs <;> cases ss <;> cases ps <;> simp [eqL,eqTL]
def dt:List Str:=[[73,110,116],[66,111,111,108],[84,101,120,116],[65,110,121]]
def fD (x:Impt):Bool:=al x.name && decide (bf x.pin=0) && decide (fB x.range=0) && bn x.pin x.range && decide (0<=x.pos)
def bG (d:Dcl):Bool:=
 if d.kind=1∨d.kind=2 then bB d.name && decide (bj d.shape=0) && allS aj d.shape && noT d.term
 else if d.kind=3 then al d.name && decide (bD d.term=0) && noS d.shape else false
def fx (d:Dcl):Bool:=bG d && decide (0<=d.pos)
def eG (s:Str):Bool:=al s || bB s
def nG (m:Modu):Bool:=al m.name && decide (m.imports.length<=8) && decide (m.exports.length<=60) && decide (0<=m.pos)
def G3 (m:Modu):List Str:=m.name ::m.imports.map (·.name)
def G4 (m:Modu):List Str:=dt++m.decls.map (·.name)
def okM (m:Modu):Bool:=nG m && (m.imports.all fD && (m.decls.all fx && (m.exports.all eG && (decide (G3 m).Nodup && decide (G4 m).Nodup && decide m.exports.Nodup))))
def bz (m:Modu):Int:=if okM m=true then 0 else 100
def bL (x:Impt):Impt:=⟨x.name,x.pin,x.range,0⟩
def bq (d:Dcl):Dcl:=⟨d.kind,d.name,d.shape,bareT d.term,0⟩
def l7 (d:Dcl):Dcl:=⟨d.kind,d.name,d.shape,d.term,0⟩
def jf (m:Modu):Modu:=if bz m=0 then ⟨m.name,m.imports.map bL,m.decls.map bq,m.exports,0⟩ else m
theorem BJ:bareT BI=BI:=rfl
theorem BK {d:Dcl} (h:bG d=true) (h3:¬d.kind=3):bareT d.term=d.term:=by
 unfold bG at h
 split at h
 ·rw [Bool.and_eq_true] at h
  rw [tl.1 h.2,BJ]
 ·exact absurd h (by first | decide | (rw [if_neg h3];decide))
theorem yr {d:Dcl} (h:bG d=true) (h3:d.kind=3):bD d.term=0:=by
 unfold bG at h
 rw [if_neg (by omega),if_pos h3] at h
 simp only [Bool.and_eq_true,decide_eq_true_eq] at h
 exact h.1.2
theorem l8 {m:Modu}:bz m=0↔okM m=true:=by
 unfold bz
 split <;> simp_all
theorem Ar {m:Modu} (h:okM m=true):nG m=true:=by unfold okM at h;rw [Bool.and_eq_true] at h;exact h.1
theorem E5 {m:Modu} (h:okM m=true):m.decls.all fx=true:=by
 unfold okM at h
 simp only [Bool.and_eq_true] at h
 exact h.2.2.1
def BL (d:Dcl):Bool:=decide (sz d.shape<=400) && decide (szT d.term<=4096)
theorem vl {d:Dcl}:BL d=true↔sz d.shape<=400/\szT d.term<=4096:=by
 unfold BL
 rw [Bool.and_eq_true,decide_eq_true_eq,decide_eq_true_eq]
def G5 (d:Dcl):Bool:=decide (d.shape.names.length<=17592186044416) && (decide (d.shape.parts.length<=17592186044416) && (decide (d.term.names.length<=17592186044416) && (decide (d.term.vars.length<=17592186044416) && (decide (d.term.shapes.length<=17592186044416) && decide (d.term.parts.length<=17592186044416)))))
theorem vm {d:Dcl}:G5 d=true↔d.shape.names.length<=17592186044416/\d.shape.parts.length<=17592186044416/\d.term.names.length<=17592186044416/\d.term.vars.length<=17592186044416/\d.term.shapes.length<=17592186044416/\d.term.parts.length<=17592186044416:=by
 unfold G5
 simp only [Bool.and_eq_true,decide_eq_true_eq]
def cb (d:Dcl):Bool:=(cR d.term && bT d.term) && G5 d
theorem l9 {d:Dcl}:cb d=true↔(cR d.term=true/\bT d.term=true)/\G5 d=true:=by
 unfold cb
 simp only [Bool.and_eq_true]
theorem lY {d:Dcl} (h:cb d=true):cR d.term=true/\bT d.term=true:=(l9.1 h).1
theorem E6 {d:Dcl} (h:cb d=true):d.shape.names.length<=17592186044416/\d.shape.parts.length<=17592186044416/\d.term.names.length<=17592186044416/\d.term.vars.length<=17592186044416/\d.term.shapes.length<=17592186044416/\d.term.parts.length<=17592186044416:=vm.1 (l9.1 h).2
theorem pY {m:Modu} (h:okM m=false):(100:Int)=bz m:=by unfold bz;rw [h];rfl
theorem nH {m:Modu} (h:okM m=true):(0:Int)=bz m:=by unfold bz;rw [h];rfl
theorem nI {m:Modu} (h:nG m=false):okM m=false:=by unfold okM;rw [h,Bool.false_and]
theorem pZ {m:Modu} (h:m.imports.all fD=false):okM m=false:=by unfold okM;rw [h,Bool.false_and,Bool.and_false]
theorem q8 {m:Modu} (h:m.decls.all fx=false):okM m=false:=by unfold okM;rw [h,Bool.false_and,Bool.and_false,Bool.and_false]
theorem q9 {m:Modu} (h:m.exports.all eG=false):okM m=false:=by unfold okM;rw [h,Bool.false_and,Bool.and_false,Bool.and_false,Bool.and_false]
theorem E7 {m:Modu} (h1:nG m=true) (h2:m.imports.all fD=true) (h3:m.decls.all fx=true) (h4:m.exports.all eG=true) :
  okM m=(decide (G3 m).Nodup && decide (G4 m).Nodup && decide m.exports.Nodup):=by unfold okM;rw [h1,h2,h3,h4];rfl
theorem ix {m:Modu}:nG m=true↔al m.name=true/\m.imports.length<=8/\m.exports.length<=60/\0<=m.pos:=by
 unfold nG
 simp only [Bool.and_eq_true,decide_eq_true_eq,and_assoc]
theorem oz {x:Impt}:fD x=true↔al x.name=true/\bf x.pin=0/\fB x.range=0/\bn x.pin x.range=true/\0<=x.pos:=by
 unfold fD
 simp only [Bool.and_eq_true,decide_eq_true_eq,and_assoc]
theorem lZ {d:Dcl}:fx d=true↔bG d=true/\0<=d.pos:=by
 unfold fx
 simp only [Bool.and_eq_true,decide_eq_true_eq]
theorem kg {s:Str}:eG s=true↔al s=true∨bB s=true:=by
 unfold eG
 rw [Bool.or_eq_true]
theorem vn {l:List Bnd} (h:fB l=0):∀b∈l,b.v.pre.length<=24:=by
 unfold fB at h
 split at h
 ·exact absurd h (by decide)
 ·split at h
  ·rename_i h2
   intro b hb
   have:=List.all_eq_true.1 h2 b hb
   unfold eh at this
   rw [Bool.and_eq_true,decide_eq_true_eq,decide_eq_true_eq] at this
   exact kY this.2
  ·exact absurd h (by decide)
theorem yt {l:List Str} {a:Str}:(l++[a]).Nodup↔l.Nodup/\a∉l:=by
 rw [List.nodup_append]
 constructor
 ·rintro ⟨h1,_,h3⟩
  exact ⟨h1,fun h=>h3 a h a (List.mem_singleton.2 rfl) rfl⟩
 ·rintro ⟨h1,h2⟩
  refine ⟨h1,by simp,?_⟩
  intro x hx y hy e
  rw [List.mem_singleton.1 hy] at e
  rw [e] at hx
  exact h2 hx
theorem yu {l:List Str} {k:Nat} (hk:k < l.length):(l.take (k+1)).Nodup↔(l.take k).Nodup/\l.getD k (dfl .str)∉l.take k:=by
 rw [bw l k (dfl .str) hk,yt]
theorem mS {m:Modu} (h:bz m=0):jf m=⟨m.name,m.imports.map bL,m.decls.map bq,m.exports,0⟩:=if_pos h
theorem vo {m:Modu} (h:¬bz m=0):jf m=m:=if_neg h
theorem E8 (d:Dcl):bq d=⟨d.kind,d.name,d.shape,bareT d.term,0⟩:=rfl
theorem tm {m:Modu} (h:bz m=0) {d:Dcl} (hd:d∈m.decls):bG d=true:=
 (lZ.1 (List.all_eq_true.1 (E5 (l8.1 h)) d hd)).1
theorem jR {d:Dcl} (h:bG d=true):sz d.shape<=400:=by
 unfold bG at h
 split at h
 ·simp only [Bool.and_eq_true,decide_eq_true_eq] at h
  exact (jI h.1.1.2).1
 ·split at h
  ·rw [Bool.and_eq_true] at h
   rw [Aq.1 h.2]
   decide
  ·exact absurd h (by decide)
theorem vp {d:Dcl} (h:bG d=true):szT d.term<=4096:=by
 unfold bG at h
 split at h
 ·rw [Bool.and_eq_true] at h
  rw [tl.1 h.2]
  decide
 ·split at h
  ·simp only [Bool.and_eq_true,decide_eq_true_eq] at h
   exact (ym h.1.2).1
  ·exact absurd h (by decide)
theorem qa {d:Dcl} (h:bG d=true):allS iw d.shape=true/\cD d.term=true:=by
 unfold bG at h
 split at h
 ·simp only [Bool.and_eq_true,decide_eq_true_eq] at h
  exact ⟨nF (by unfold aW;rw [Xd h.1.1.2,h.1.2];rfl),by rw [tl.1 h.2];decide⟩
 ·split at h
  ·simp only [Bool.and_eq_true,decide_eq_true_eq] at h
   exact ⟨by rw [Aq.1 h.2];decide,(vj h.1.2).1⟩
  ·exact absurd h (by decide)
theorem BM {d:Dcl} (h:bG d=true) (h3:¬d.kind=3):l7 d=bq d:=by
 rw [E8,BK h h3];rfl
theorem ndN {p:Prop} [Decidable p] (h:(!decide p)=true):¬p:=by
 intro e
 rw [Xd e] at h
 exact absurd h (by decide)
theorem ndP {p:Prop} [Decidable p] (h:¬(!decide p)=true):p:=by
 refine Decidable.not_not.1 fun e=>h ?_
 rw [Xf e];rfl
theorem nbN {b:Bool} (h:(!b)=true):¬b=true:=by
 intro e
 rw [e] at h
 exact absurd h (by decide)
theorem nbP {b:Bool} (h:¬(!b)=true):b=true:=by cases b with | true=>rfl | false=>exact absurd rfl h
theorem bF {b:Bool} (h:¬b=true):b=false:=by cases b with | true=>exact absurd rfl h | false=>rfl
def fc (x:Impt):Bool:=decide (x.range.length<=50) && decide (x.pin.pre.length<=100) && x.range.all fun b=>decide (b.v.pre.length<=100)
def gR (m:Modu):Bool:=decide (m.imports.length<=30) && decide (m.decls.length<=100) && decide (m.exports.length<=200) && m.imports.all fc
theorem E9 {m:Modu} (h:bz m=0):(jf m).decls.all BL=true:=by
 rw [mS h,List.all_eq_true]
 intro d hd
 obtain ⟨x,hx,rfl⟩:=List.mem_map.1 hd
 have hD:=tm h hx
 refine vl.2 ⟨show sz x.shape<=400 from jR hD,?_⟩
 show szT (bareT x.term)<=4096
 rw [vk _ x.term (Nat.le_refl _)]
 exact vp hD
theorem fe {m:Modu}:gR m=true↔m.imports.length<=30/\m.decls.length<=100/\m.exports.length<=200/\m.imports.all fc=true:=by
 unfold gR
 simp only [Bool.and_eq_true,decide_eq_true_eq,and_assoc]
theorem lf {x:Impt}:fc x=true↔x.range.length<=50/\x.pin.pre.length<=100/\(x.range.all fun b=>decide (b.v.pre.length<=100))=true:=by
 unfold fc
 simp only [Bool.and_eq_true,decide_eq_true_eq,and_assoc]
theorem vq {m:Modu} (h:gR m=true):(m.imports.all fun x=>decide (x.range.length<=1000000))=true:=by
 have h4:=(fe.1 h).2.2.2
 rw [List.all_eq_true] at h4 ⊢
 intro x hx
 have:=(lf.1 (h4 x hx)).1
 exact Xd (by omega)
end Go.Pd
end
