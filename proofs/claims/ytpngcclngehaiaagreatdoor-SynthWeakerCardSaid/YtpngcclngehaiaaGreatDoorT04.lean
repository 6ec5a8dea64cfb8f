/- Plain facts. The layer: Go code as conditions, and that they are sound. What the functions' conditions say, proved. No condition. -/
import Derived.Test.YtpngcclngehaiaaGreatDoorT03
import Derived.BigQuiet
import Derived.Deep.DeepWitnessRowRef
import Derived.Deep.QuietTactic
import Derived.KernelRfl
import Derived.Lib.AtoiErrMem
import Derived.Lib.DecodeN
import Derived.Lib.LaidIn
import Derived.Lib.LaidU8T
import Derived.LoopIn
import Derived.LoopNIn
import Derived.OwnWalkIn
import Derived.PinnedBridge
import Derived.ProofKit
import Derived.RangeFuncBox
import Derived.RangeFuncLeaves
import Derived.Recover
import Derived.Shelf.SlIter.Sorted
import Derived.Shelf.SlSortCmp.Whole1
import Derived.Shelf.Slices.Clone
import Derived.Shelf.Slices.CompactS
import Derived.Shelf.Small.Strs
import Derived.Shelf.Sort.Plain
import Derived.Shelf.Strconv.Atoi
import Derived.Shelf.Strings.Cut
import Derived.Shelf.Strings.Search3
import Derived.Shelf.Strings.SlTrimAscii
import Derived.Shelf.Strings.Split
import Derived.Shelf.Unicode.DecodeAny
import Derived.Shelf.Unicode.ValidAny
import Derived.Shelf.Vars
import Derived.Sort.Walk0
import Derived.TacticsInMore
import Derived.Test.YtpngcclngehaiaaGreatDoorCards
import Derived.Test.YtpngcclngehaiaaGreatDoorProg
import Derived.Test.YtpngcclngehaiaaGreatDoorTie
import Derived.WalkKit
set_option linter.all false
set_option maxRecDepth 100000
section
namespace Go.Pd
open Go.AL
def aq (s:Shape):Int:=if 400 < sz s then 3 else if 40 < deepS s 1 then 91 else if allS ai s=true then 0 else 70
def aO (s:Shape):Shape:=if aq s=0 then sortedS s else s
def EY (t:Nat) (c:Int):Ans:=⟨some (0<=c/\c<=400),some (decide (400 < c+1),.iface t (.agg []),[(900,.box (.int .i64 (c+1)))]),.tup [],[(900,.box (.int .i64 (c+1)))]⟩
def tn (t:Nat):Pat:=fun args S=>
 match args,S with
 | [.ptr 900 0],[(900,.box (.int .i64 c))]=>some (EY t c)
 | _,_=>none
theorem xx [Tabs] {P:Program} {f t:Nat} (he:aF P f) (h:∀c,0<=c/\c<=400→aB P f [.ptr 900 0] [(900,.box (.int .i64 c))] (EY t c)):aj P f (tn t):=by
 intro args S A hA ho _
 unfold tn at hA
 split at hA
 ·simp only [Xs] at hA
  subst hA
  exact ⟨he,h _ (ho _ rfl)⟩
 ·cases hA
def Cy (t:Nat) (s:Shape) (l c:Int) (q:Prop):Ans:=
 ⟨some (q/\0<=c/\c<=400/\1<=l/\l<=c+1),some (decide (400 < c+(sz s:Int)),.iface t (.agg []),[(900,.box (.int .i64 401))]),.int .i64 (deepS s l),[(900,.box (.int .i64 (c+(sz s:Int))))]⟩
def om (t g:Nat) (n:Nat):Pat:=fun args S=>
 match args,S with
 | [a,.int .i64 l,.fn g' [.ptr 900 0]],[(900,.box (.int .i64 c))]=>
  (match Nat.beq g' g,arg (.st .shape) a with
  | true,some s=>some (Cy t s l c (sz s<=n))
  | _,_=>none)
 | _,_=>none
theorem pH [Tabs] {P:Program} {f t g n:Nat} (he:aF P f) (h:∀s l c,Wf (.st .shape) s→sz s<=n→(0<=c/\c<=400/\1<=l/\l<=c+1)→aB P f [.st .shape s,.int .i64 l,.fn g [.ptr 900 0]] [(900,.box (.int .i64 c))] (Cy t s l c (sz s<=n))) :
  aj P f (om t g n):=by
 intro args S A hA ho _
 unfold om at hA
 split at hA
 ·split at hA
  ·rename_i s hb hs
   simp only [Xs] at hA
   subst hA
   have e:=Nat.eq_of_beq_eq_true hb
   subst e
   obtain ⟨h1,h2⟩:=ho _ rfl
   exact ⟨he,aB.args (.cons (Rd.arg hs) (.cons (Rd.refl _) (.cons (Rd.refl _) .nil))) (aB.wf fun hw=>h _ _ _ hw.one h1 h2)⟩
  ·cases hA
 ·cases hA
theorem kO:∀(l:List Shape) (k:Nat) (d:Shape),k < l.length→szL (l.take (k+1))=szL (l.take k)+sz (l.getD k d)
 | a ::r,0,d,_=>by simp [szL]
 | a ::r,k+1,d,h=>by
  have:=kO r k d (by simpa using h)
  simp only [List.take_succ_cons,szL,List.getD_cons_succ] at this ⊢
  omega
theorem uW (l:List Shape) (k:Nat):szL (l.take k)<=szL l:=by
 induction l generalizing k with
 | nil=>simp [szL]
 | cons a r ih=>
  cases k with
  | zero=>simp [szL]
  | succ k=>have:=ih k;simp only [List.take_succ_cons,szL];omega
theorem aG {s:Shape} (h:aq s=0):sz s<=400/\deepS s 1<=40/\allS ai s=true:=by
 unfold aq at h
 split at h
 ·omega
 split at h
 ·omega
 split at h
 ·exact ⟨by omega,by omega,by assumption⟩
 ·omega
theorem lM {s:Shape} (h:ai s=true):dw s=true:=by
 unfold dw
 unfold ai at h
 simp only at h
 split at h
 ·simp_all
 split at h
 ·simp_all
 split at h
 ·simp only [cw,Bool.and_eq_true,decide_eq_true_eq] at h
  simp [h.2.1.1,h.2.2]
 split at h
 ·simp_all
 split at h
 ·simp_all
 split at h
 ·simp_all
 ·cases h
mutual
theorem allS_imp {f g:Shape→Bool} (h:∀s,f s=true→g s=true):∀s,allS f s=true→allS g s=true
 | ⟨k,p,n,ns,ps⟩,hs=>by
  simp only [allS,Bool.and_eq_true] at hs ⊢
  exact ⟨h _ hs.1,allL_imp h ps hs.2⟩
theorem allL_imp {f g:Shape→Bool} (h:∀s,f s=true→g s=true):∀l,allL f l=true→allL g l=true
 | [],_=>rfl
 | a ::r,hs=>by
  simp only [allL,Bool.and_eq_true] at hs ⊢
  exact ⟨allS_imp h a hs.1,allL_imp h r hs.2⟩
end
theorem pI {s:Shape} (h:aq s=0):allS dw s=true:=allS_imp (fun _=>lM) s (aG h).2.2
theorem Cz {l m:List Shape} (h:l.Perm m):szL l=szL m:=by
 induction h with
 | nil=>rfl
 | cons x _ ih=>simp only [szL,ih]
 | swap x y l=>simp only [szL];omega
 | trans _ _ h1 h2=>exact h1.trans h2
theorem cU {α:Type} (l:List α) (d:α):(bQ l.length).map (fun i=>l.getD i.toNat d)=l:=by
 apply List.ext_getElem?
 intro i
 simp only [bQ,List.map_map,List.getElem?_map]
 by_cases h:i < l.length
 ·rw [List.getElem?_range h]
  simp [List.getD_eq_getElem?_getD,h]
 ·rw [List.getElem?_eq_none (by simpa using h),List.getElem?_eq_none (by omega)]
  rfl
theorem jf (k:Int) (p n:Str) (ns:List Str) (ps:List Shape) (d:Shape):((al ⟨k,p,n,ns,ps⟩).map fun i=>(sortedL ps).getD i.toNat d).Perm (sortedL ps):=by
 have h:=(fR ⟨k,p,n,ns,ps⟩).map fun i:Int=>(sortedL ps).getD i.toNat d
 have e:=cU (sortedL ps) d
 rw [fe] at e
 rw [e] at h
 exact h
mutual
theorem sz_sorted:∀s:Shape,sz (sortedS s)=sz s
 | ⟨k,p,n,ns,ps⟩=>by
  simp only [sortedS,sz]
  rw [Cz (jf k p n ns ps cQ),szL_sorted ps]
theorem szL_sorted:∀l:List Shape,szL (sortedL l)=szL l
 | []=>rfl
 | a ::r=>by simp only [sortedL,szL,sz_sorted a,szL_sorted r]
end
end Go.Pd
end
section
namespace Go.Pd
open Go.AL
abbrev PS:=Par
def FX (l:List Tokn) (a:Int):Tokn:=
 if a < (l.length:Int) then l.getD a.toNat (dfl (.st .token))
 else if l.length=0 then ⟨0,[],0⟩ else ⟨0,[],(l.getD ((l.length:Int) - 1).toNat (dfl (.st .token))).pos⟩
def kP (s:Str):Int:=s.foldl (fun n c=>10 *n+((c.toNat:Int) - 48)) 0
end Go.Pd
end
section
namespace Go.Pd
open Go.AL
def nB (t:Str):Prop:=t≠[]/\t.length<=15/\∀c∈t,48<=c.toNat/\c.toNat<=57
def Nums (l:List Tokn):Prop:=∀t∈l,t.kind=3→nB t.text
def Fk (s:Par):Prop:=0<=s.pos/\s.pos<=(s.toks.length:Int)/\s.toks.length<=4097/\Nums s.toks
def rem (s:Par):Nat:=if s.err=0 then ((s.toks.length:Int) - s.pos).toNat+1 else 0
structure Goes (s s':Par):Prop where
 good:Fk s'
 toks:s'.toks=s.toks
 le:rem s'<=rem s
 cap:∀q:Int,(FX s.toks q).kind=0→s.pos<=q→s'.pos<=q
end Go.Pd
end
section
namespace Go.AL
open Go.Proofs Go.Shelf Go.RowKit Go.Pd
theorem nC:∀(l:Str) (acc:Nat),(∀c∈l,48<=c.toNat/\c.toNat<=57)→∃m:Nat,Lib.decFrom acc l=some m/\(m:Int)=l.foldl (fun n c=>10 *n+((c.toNat:Int) - 48)) (acc:Int)/\m < (acc+1) *10 ^ l.length
 | [],acc,_=>⟨acc,rfl,rfl,by simp⟩
 | c ::r,acc,h=>by
  obtain ⟨h1,h2⟩:=h c (List.mem_cons_self ..)
  obtain ⟨m,e1,e2,e3⟩:=nC r (acc *10+(c.toNat - 48)) (fun d hd=>h d (List.mem_cons_of_mem _ hd))
  refine ⟨m,?_,?_,?_⟩
  ·simp only [Lib.decFrom,Lib.digitVal,h1,h2,and_self,if_true];exact e1
  ·rw [e2,List.foldl_cons]
   congr 1
   omega
  ·refine Nat.lt_of_lt_of_le e3 ?_
   rw [List.length_cons,Nat.pow_succ,←Nat.mul_assoc,Nat.mul_right_comm]
   exact Nat.mul_le_mul_right _ (by omega)
theorem CA {t:Str} (h:nB t):Lib.atoi t=some (kP t)/\0<=kP t/\kP t < 1000000000000000:=by
 obtain ⟨h1,h2,h3⟩:=h
 obtain ⟨m,e1,e2,e3⟩:=nC t 0 h3
 have e4:(m:Int)=kP t:=e2
 refine ⟨?_,by omega,?_⟩
 ·cases t with
  | nil=>exact absurd rfl h1
  | cons c r=>
   have hc:=h3 c (List.mem_cons_self ..)
   have n1:(c ==45)=false:=by rw [beq_eq_false_iff_ne];rintro rfl;simp at hc
   have n2:(c ==43)=false:=by rw [beq_eq_false_iff_ne];rintro rfl;simp at hc
   simp only [Lib.atoi,n1,n2,Bool.false_eq_true,if_false,Lib.decNat,List.isEmpty_cons,e1,Option.map_some,e4]
 ·have:m < 10 ^ t.length:=by simpa using e3
  have h10:10 ^ t.length<=10 ^ 15:=Nat.pow_le_pow_right (by decide) h2
  have:m < 1000000000000000:=Nat.lt_of_lt_of_le this h10
  omega
variable [Tabs] {P:Program} {ρ:Ren}
theorem After.below {w w':World} {pub:Nat→Nat→Prop} {e:Nat→Option CObj} (hp:js w pub) (hd:∀id,e id=none) (hb:Below w.heap.size w w'):After w pub e (ax (cv [] [])) w' pub e where
 os:=hb.os
 tape:=hb.tape
 output:=hb.output
 size:=hb.size
 block b h _:=hb.block b h
 cell b o h _:=ar (hb.block b h) o
 kind b h _:=⟨bp (hb.block b h),fun o=>b9 (hb.block b h) o⟩
 ext:=⟨fun _ c h=>⟨c,h,CLe.refl c⟩,fun _ _ h=>h,fun b o h=>by obtain ⟨v,hv⟩:=hp b o h;exact ar (hb.block b (b8 hv)) o⟩
 fresh b o h:=.inl h
 ok b o h:=by obtain ⟨v,hv⟩:=hp b o h;exact ⟨v,(ar (hb.block b (b8 hv)) o).trans hv⟩
 slots id o h:=by simp [cv,aZ,aU] at h
 dom id _:=hd id
 inj i j c d b o h:=by rw [hd i] at h;cases h
theorem xy (L:Lays.n172 P ρ) (t:Str) (h:nB t):aB P (ρ.f 172) [.str t] [] ⟨some (nB t),none,.tup [.int .i64 (kP t),.nilif],[]⟩:=by
 intro w pub e vs hp ht hv hs hd hi
 obtain ⟨v,rfl,h1⟩:=VL.one_inv hv
 obtain ⟨rfl,hl⟩:=h1.str_inv
 obtain ⟨a1,a2,a3⟩:=CA h
 refine (Any.strconv_Atoi L ⟨t.toArray⟩ (kP t) (by have:=h.2.1;show t.toArray.size<=18;simp;omega) (by simpa using a1) w).mono ?_
 rintro en w' ⟨rfl,ty,rfl⟩
 refine ⟨pub,e,?_⟩
 refine And.intro (fun b pv u h=>by cases h) (And.intro ?_ (After.below hp (fun id=>hd id rfl) (Lib.bytesWorld_below w _ _)))
 have b1:inR .i64 (kP t):=bN (by omega) (by omega)
 exact V.of_tup (VL.cons (.int _ _ b1.1 b1.2) (VL.cons .nilif .nil))
def Eh:Pat:=p1 .str fun t=>⟨some (nB t),none,.tup [.int .i64 (kP t),.nilif],[]⟩
theorem xz {f:Nat} (L:Lays.n172 P ρ) (hf:ρ.f 172=f) (he:aF P f):aj P f Eh:=by
 subst hf
 exact cu he fun t _ ho=>xy L t (ho _ rfl)
end Go.AL
end
section
namespace Go.Pd
open Go.AL
def an:Shape:=⟨0,[],[],[],[]⟩
def az:Trm:=⟨0,[],[],0,[],[],[],[],0⟩
end Go.Pd
end
section
namespace Go.Pd
open Go.AL
mutual
def szT:Trm→Nat
 | ⟨_,_,_,_,_,_,_,ps,_⟩=>szTL ps+1
def szTL:List Trm→Nat
 | []=>0
 | p ::r=>szT p+szTL r
end
mutual
def countT:Trm→Int→Int × Int
 | ⟨_,_,_,_,_,_,_,ps,_⟩,m=>((countL ps m 1 0).1,(countL ps m 1 0).2+1)
def countL:List Trm→Int→Int→Int→Int × Int
 | [],_,n,d=>(n,d)
 | p ::r,m,n,d=>if m < n then (n,d) else countL r m (n+(countT p (m - n)).1) (max d (countT p (m - n)).2)
end
theorem Ap (t:Trm) (m:Int):countT t m=((countL t.parts m 1 0).1,(countL t.parts m 1 0).2+1):=by cases t;rw [countT]
theorem szT_eq (t:Trm):szT t=szTL t.parts+1:=by cases t;rw [szT]
theorem szT_pos (t:Trm):1<=szT t:=by rw [szT_eq];omega
mutual
theorem countT_bound:∀(t:Trm) (m:Int),0<=m→1<=(countT t m).1/\(countT t m).1<=m+1/\1<=(countT t m).2/\(countT t m).2<=(countT t m).1
 | ⟨k,g,q,z,ns,vs,ss,ps,pp⟩,m,hm=>by
  have h:=countL_bound ps m 1 0 (by omega) (by omega) (by omega) (by omega)
  rw [countT]
  exact ⟨h.1,h.2.1,by show 1<=(countL ps m 1 0).2+1;omega,by show (countL ps m 1 0).2+1<=_;omega⟩
theorem countL_bound:∀(l:List Trm) (m n d:Int),1<=n→n<=m+1→0<=d→d+1<=n→1<=(countL l m n d).1/\(countL l m n d).1<=m+1/\0<=(countL l m n d).2/\(countL l m n d).2+1<=(countL l m n d).1
 | [],m,n,d,h1,h2,h3,h4=>by rw [countL];exact ⟨h1,h2,h3,h4⟩
 | p ::r,m,n,d,h1,h2,h3,h4=>by
  rw [countL]
  split
  ·exact ⟨h1,h2,h3,h4⟩
  ·have h:=countT_bound p (m - n) (by omega)
   exact countL_bound r m _ _ (by omega) (by omega) (by omega) (by omega)
end
theorem szT_mem:∀{l:List Trm} {t:Trm},t∈l→szT t<=szTL l
 | p ::r,t,h=>by
  rw [szTL]
  rcases List.mem_cons.1 h with e | e
  ·subst e;omega
  ·have:=szT_mem e;omega
def bB {α:Type} (F:α→Bool):List α→Nat→Int
 | [],_=>-1
 | x ::r,k=>if F x=true then bB F r (k+1) else (k:Int)
theorem iK {α:Type} (F:α→Bool):∀(l:List α) (k:Nat),decide (0<=bB F l k)=!l.all F
 | [],_=>rfl
 | x ::r,k=>by
  rw [bB,List.all_cons]
  by_cases h:F x=true
  ·rw [if_pos h,iK F r (k+1),h];rfl
  ·rw [if_neg h]
   have:F x=false:=by simpa using h
   rw [this]
   simp
def bw (s:Shape):Bool:=!decide (s.kind=10)
theorem iL (f:Shape→Bool):∀l:List Shape,allL f l=l.all (allS f)
 | []=>rfl
 | p ::r=>by rw [List.all_cons,←iL f r];rfl
end Go.Pd
end
section
namespace Go.AL
variable [Tabs]
section
variable {P:Program} {f:Nat}
def pfc (τ:Ty) (n g:Nat) (F:den τ→Ans):Pat
 | [a,.fn f [.ptr 900 0]],[(900,.box (.fn h []))]=>(match Nat.beq f n,Nat.beq h g,arg τ a with | true,true,some a=>some (F a) | _,_,_=>none)
 | _,_=>none
theorem jT {τ:Ty} {n g:Nat} {F:den τ→Ans} (he:aF P f) (h:∀x,Wf τ x→(∀q,(F x).ob=some q→q)→aB P f [inj τ x,.fn n [.ptr 900 0]] [(900,.box (.fn g []))] (F x)):aj P f (pfc τ n g F):=by
 intro args S A hA ho _
 unfold pfc at hA
 split at hA
 ·split at hA
  ·rename_i hb hc hx
   simp only [Xs] at hA
   subst hA
   have e:=Nat.eq_of_beq_eq_true hb
   subst e
   have e:=Nat.eq_of_beq_eq_true hc
   subst e
   exact ⟨he,aB.args (.cons (Rd.arg hx) (.cons (Rd.refl _) .nil)) (aB.wf fun hw=>h _ hw.one ho)⟩
  ·cases hA
 ·cases hA
def pcl (τ:Ty) (g:Nat) (F:den τ→Ans):Pat
 | [a,.ptr 900 0],[(900,.box (.fn h []))]=>(match Nat.beq h g,arg τ a with | true,some a=>some (F a) | _,_=>none)
 | _,_=>none
theorem tp {τ:Ty} {g:Nat} {F:den τ→Ans} (he:aF P f) (h:∀x,Wf τ x→(∀q,(F x).ob=some q→q)→aB P f [inj τ x,.ptr 900 0] [(900,.box (.fn g []))] (F x)):aj P f (pcl τ g F):=by
 intro args S A hA ho _
 unfold pcl at hA
 split at hA
 ·split at hA
  ·rename_i hc hx
   simp only [Xs] at hA
   subst hA
   have e:=Nat.eq_of_beq_eq_true hc
   subst e
   exact ⟨he,aB.args (.cons (Rd.arg hx) (.cons (Rd.refl _) .nil)) (aB.wf fun hw=>h _ hw.one ho)⟩
  ·cases hA
 ·cases hA
end
end Go.AL
end
section
namespace Go.Pd
open Go.AL
def cut (s:Str) (a b:Int):Str:=(s.take b.toNat).drop a.toNat
def nD (r:Str) (k:Nat):Bool:=decide (k < r.length) && decide ((r.getD k 0).toNat / 64=2)
def nW (r:Str) (k:Nat):Nat:=(r.getD k 0).toNat % 64
def oq (c:Nat):Bool:=decide (c < 1114112) && !(decide (55296<=c) && decide (c < 57344))
def tq:Str→Nat
 | []=>0
 | b ::r=>
  if b.toNat < 128 then 1
  else if b.toNat / 32=6/\nD r 0=true then (if 128<=b.toNat % 32 *64+nW r 0 then 2 else 0)
  else if b.toNat / 16=14/\nD r 0=true/\nD r 1=true then
   (if 2048<=b.toNat % 16 *4096+nW r 0 *64+nW r 1/\oq (b.toNat % 16 *4096+nW r 0 *64+nW r 1)=true then 3 else 0)
  else if b.toNat / 8=30/\nD r 0=true/\nD r 1=true/\nD r 2=true then
   (if 65536<=b.toNat % 8 *262144+nW r 0 *4096+nW r 1 *64+nW r 2/\oq (b.toNat % 8 *262144+nW r 0 *4096+nW r 1 *64+nW r 2)=true then 4 else 0)
  else 0
def zq:Nat→Str→Nat→Option Nat
 | 0,_,_=>none
 | f+1,x,k=>if x=[] then none else if tq x=0 then some k else zq f (x.drop (tq x)) (k+tq x)
def pJ (x:Str):Option Nat:=zq x.length x 0
structure SC where
 pos:Int
 out:List Tokn
 err:Int
 fat:Int
def splitB (c:UInt8):Str→List Str
 | []=>[[]]
 | b ::r=>if b=c then [] ::splitB c r else match splitB c r with | []=>[[b]] | p ::ps=>(b ::p) ::ps
def ik (s:Str):Str:=s.takeWhile fun b=>!decide (b=45)
def l8 (s:Str):Str:=s.drop ((ik s).length+1)
def mI (s:Str):Bool:=decide ((ik s).length < s.length)
end Go.Pd
end
section
namespace Go.Pd
open Go.AL
end Go.Pd
namespace Go.Pd
open Go.AL
def pK:Str:=[48,49,50,51,52,53,54,55,56,57]
def nE (b:UInt8):Bool:=jS (bI b)
def pL (s:Str):Str:=(s.reverse.dropWhile nE).reverse.dropWhile nE
def CB (s:Str) (c:Int):Int:=bB (fun b=>!decide (bI b=c)) s 0
def jg (s:Str):Nat × Nat:=if s=[] then (65533,0) else Lib.decodeN s.length (s.getD 0 0).toNat (s.getD 1 0).toNat (s.getD 2 0).toNat (s.getD 3 0).toNat
theorem qO {p:UInt8→Bool}:∀{l:Str},l.dropWhile p=[]↔l.all p=true
 | []=>by simp
 | b ::r=>by
  rw [List.dropWhile_cons]
  split
  ·rename_i h
   rw [qO,List.all_cons,h,Bool.true_and]
  ·rename_i h
   simp [h]
theorem CC (s:Str):(pL s).length<=s.length:=by
 unfold pL
 have h1:=(List.dropWhile_sublist (p:=nE) (l:=(s.reverse.dropWhile nE).reverse)).length_le
 have h2:=(List.dropWhile_sublist (p:=nE) (l:=s.reverse)).length_le
 rw [List.length_reverse] at h1 h2
 omega
def Aq (n b0 b1 b2 b3:Nat):Nat:=
 if b0 < 128 then 1
 else if b0 / 32=6/\(1 < n/\b1 / 64=2) then (if b0 % 32 *64+b1 % 64≥128 then 2 else 0)
 else if b0 / 16=14/\(1 < n/\b1 / 64=2)/\(2 < n/\b2 / 64=2) then
  (if b0 % 16 *4096+b1 % 64 *64+b2 % 64≥2048/\(b0 % 16 *4096+b1 % 64 *64+b2 % 64 < 55296∨(57344<=b0 % 16 *4096+b1 % 64 *64+b2 % 64/\b0 % 16 *4096+b1 % 64 *64+b2 % 64<=1114111)) then 3 else 0)
 else if b0 / 8=30/\(1 < n/\b1 / 64=2)/\(2 < n/\b2 / 64=2)/\(3 < n/\b3 / 64=2) then
  (if b0 % 8 *262144+b1 % 64 *4096+b2 % 64 *64+b3 % 64≥65536/\(b0 % 8 *262144+b1 % 64 *4096+b2 % 64 *64+b3 % 64 < 55296∨(57344<=b0 % 8 *262144+b1 % 64 *4096+b2 % 64 *64+b3 % 64/\b0 % 8 *262144+b1 % 64 *4096+b2 % 64 *64+b3 % 64<=1114111)) then 4 else 0)
 else 0
theorem uX (n b0 b1 b2 b3:Nat) (h1:b1 < 256) (h2:b2 < 256) (h3:b3 < 256) (h0:b0 < 256) (hn:1<=n) :
  ((Lib.decodeN n b0 b1 b2 b3).1=65533/\(Lib.decodeN n b0 b1 b2 b3).2=1↔Aq n b0 b1 b2 b3=0)/\(Aq n b0 b1 b2 b3≠0→(Lib.decodeN n b0 b1 b2 b3).2=Aq n b0 b1 b2 b3)/\
  (Lib.decodeN n b0 b1 b2 b3).1<=1114111/\1<=(Lib.decodeN n b0 b1 b2 b3).2/\(Lib.decodeN n b0 b1 b2 b3).2<=n:=by
 unfold Lib.decodeN Aq
 by_cases c1:b0 < 128
 ·simp only [if_pos c1];refine ⟨⟨fun e=>?_,fun e=>?_⟩,fun e=>?_,?_,?_,?_⟩ <;> first | omega | exact ⟨rfl,rfl⟩ | exact ⟨trivial,trivial⟩ | exact (e rfl).elim | exact e.elim | exact (e trivial).elim | simp only at *
 simp only [if_neg c1]
 by_cases c2:b0 / 32=6/\(1 < n/\b1 / 64=2)
 ·simp only [if_pos c2]
  by_cases d:b0 % 32 *64+b1 % 64≥128
  ·simp only [if_pos d];refine ⟨⟨fun e=>?_,fun e=>?_⟩,fun e=>?_,?_,?_,?_⟩ <;> first | omega | exact ⟨rfl,rfl⟩ | exact ⟨trivial,trivial⟩ | exact (e rfl).elim | exact e.elim | exact (e trivial).elim | simp only at *
  ·simp only [if_neg d];refine ⟨⟨fun e=>?_,fun e=>?_⟩,fun e=>?_,?_,?_,?_⟩ <;> first | omega | exact ⟨rfl,rfl⟩ | exact ⟨trivial,trivial⟩ | exact (e rfl).elim | exact e.elim | exact (e trivial).elim | simp only at *
 simp only [if_neg c2]
 by_cases c3:b0 / 16=14/\(1 < n/\b1 / 64=2)/\(2 < n/\b2 / 64=2)
 ·simp only [if_pos c3]
  by_cases d:b0 % 16 *4096+b1 % 64 *64+b2 % 64≥2048/\(b0 % 16 *4096+b1 % 64 *64+b2 % 64 < 55296∨(57344<=b0 % 16 *4096+b1 % 64 *64+b2 % 64/\b0 % 16 *4096+b1 % 64 *64+b2 % 64<=1114111))
  ·simp only [if_pos d];refine ⟨⟨fun e=>?_,fun e=>?_⟩,fun e=>?_,?_,?_,?_⟩ <;> first | omega | exact ⟨rfl,rfl⟩ | exact ⟨trivial,trivial⟩ | exact (e rfl).elim | exact e.elim | exact (e trivial).elim | simp only at *
  ·simp only [if_neg d];refine ⟨⟨fun e=>?_,fun e=>?_⟩,fun e=>?_,?_,?_,?_⟩ <;> first | omega | exact ⟨rfl,rfl⟩ | exact ⟨trivial,trivial⟩ | exact (e rfl).elim | exact e.elim | exact (e trivial).elim | simp only at *
 simp only [if_neg c3]
 by_cases c4:b0 / 8=30/\(1 < n/\b1 / 64=2)/\(2 < n/\b2 / 64=2)/\(3 < n/\b3 / 64=2)
 ·simp only [if_pos c4]
  by_cases d:b0 % 8 *262144+b1 % 64 *4096+b2 % 64 *64+b3 % 64≥65536/\(b0 % 8 *262144+b1 % 64 *4096+b2 % 64 *64+b3 % 64 < 55296∨(57344<=b0 % 8 *262144+b1 % 64 *4096+b2 % 64 *64+b3 % 64/\b0 % 8 *262144+b1 % 64 *4096+b2 % 64 *64+b3 % 64<=1114111))
  ·simp only [if_pos d];refine ⟨⟨fun e=>?_,fun e=>?_⟩,fun e=>?_,?_,?_,?_⟩ <;> first | omega | exact ⟨rfl,rfl⟩ | exact ⟨trivial,trivial⟩ | exact (e rfl).elim | exact e.elim | exact (e trivial).elim | simp only at *
  ·simp only [if_neg d];refine ⟨⟨fun e=>?_,fun e=>?_⟩,fun e=>?_,?_,?_,?_⟩ <;> first | omega | exact ⟨rfl,rfl⟩ | exact ⟨trivial,trivial⟩ | exact (e rfl).elim | exact e.elim | exact (e trivial).elim | simp only at *
 simp only [if_neg c4]
 refine ⟨⟨fun e=>?_,fun e=>?_⟩,fun e=>?_,?_,?_,?_⟩ <;> first | omega | exact ⟨rfl,rfl⟩ | exact ⟨trivial,trivial⟩ | exact (e rfl).elim | exact e.elim | exact (e trivial).elim | simp only at *
theorem uY (c:Nat):oq c=true↔(c < 55296∨(57344<=c/\c<=1114111)):=by
 unfold oq
 simp only [Bool.and_eq_true,decide_eq_true_eq,Bool.not_eq_true',Bool.and_eq_false_iff,decide_eq_false_iff_not]
 omega
theorem Ar (r:Str) (k:Nat):nD r k=true↔(k+1 < r.length+1/\(r.getD k 0).toNat / 64=2):=by
 unfold nD
 simp only [Bool.and_eq_true,decide_eq_true_eq]
 omega
theorem Fl (b:UInt8) (r:Str):tq (b ::r)=Aq (r.length+1) b.toNat (r.getD 0 0).toNat (r.getD 1 0).toNat (r.getD 2 0).toNat:=by
 unfold tq Aq nW
 simp only [Ar,uY]
theorem uZ {s:Str} (h:s≠[]):((jg s).1=65533/\(jg s).2=1↔tq s=0)/\(tq s≠0→(jg s).2=tq s)/\(jg s).1<=1114111/\1<=(jg s).2/\(jg s).2<=s.length:=by
 cases s with
 | nil=>exact absurd rfl h
 | cons b r=>
  have e:jg (b ::r)=Lib.decodeN (r.length+1) b.toNat (r.getD 0 0).toNat (r.getD 1 0).toNat (r.getD 2 0).toNat:=by
   unfold jg
   rw [if_neg h]
   rfl
  rw [e,Fl,List.length_cons]
  exact uX _ _ _ _ _ (r.getD 0 0).toNat_lt (r.getD 1 0).toNat_lt (r.getD 2 0).toNat_lt b.toNat_lt (by omega)
end Go.Pd
namespace Go.Pd
open Go.AL
end Go.Pd
namespace Go.Pd
open Go.AL
end Go.Pd
namespace Go.Pd
open Go.AL
theorem kQ (c:UInt8):∀s:Str,(splitB c s).length<=s.length+1
 | []=>by simp [splitB]
 | b ::r=>by
  have ih:=kQ c r
  unfold splitB
  split
  ·simp only [List.length_cons];omega
  ·split
   ·simp
   ·rename_i e
    rw [e] at ih
    simp only [List.length_cons] at ih ⊢
    omega
end Go.Pd
namespace Go.Pd
open Go.AL
theorem As (s:Str):(ik s).length<=s.length:=(List.takeWhile_sublist _).length_le
end Go.Pd
namespace Go.Pd
open Go.AL
end Go.Pd
namespace Go.Pd
open Go.AL
end Go.Pd
end
section
namespace Go.AL
open Go.Proofs Go.Shelf Go.RowKit Go.Pd
theorem gi {c:UInt8}:∀{s:Str},Lib.indexByte s c=-1→c∉s
 | [],_=>List.not_mem_nil
 | b ::r,h=>by
  unfold Lib.indexByte at h
  by_cases e:b=c
  ·subst e;simp at h
  ·have e':(b ==c)=false:=beq_eq_false_iff_ne.2 e
   rw [e'] at h
   simp only [Bool.false_eq_true,if_false] at h
   have hg:=Lib.indexByte_ge r c
   split at h
   ·rename_i k
    have:=gi (s:=r) (by simpa using k)
    rw [List.mem_cons,not_or]
    exact ⟨fun q=>e q.symm,this⟩
   ·omega
theorem fg {c:UInt8}:∀{s:Str},Lib.indexByte s c≠-1→∃k:Nat,Lib.indexByte s c=k/\k < s.length/\s=s.take k++c ::s.drop (k+1)/\c∉s.take k
 | [],h=>absurd rfl h
 | b ::r,h=>by
  unfold Lib.indexByte at h ⊢
  by_cases e:b=c
  ·subst e
   refine ⟨0,by simp,by simp,by simp,by simp⟩
  ·have e':(b ==c)=false:=beq_eq_false_iff_ne.2 e
   rw [e'] at h ⊢
   simp only [Bool.false_eq_true,if_false] at h ⊢
   split at h
   ·exact absurd rfl h
   ·rename_i k
    obtain ⟨j,j1,j2,j3,j4⟩:=fg (s:=r) (by simpa using k)
    rw [if_neg k]
    refine ⟨j+1,by rw [j1];rfl,by simp;omega,?_,?_⟩
    ·rw [List.take_succ_cons,List.drop_succ_cons,List.cons_append,←j3]
    ·rw [List.take_succ_cons,List.mem_cons,not_or]
     exact ⟨fun q=>e q.symm,j4⟩
theorem pM {c:UInt8}:∀{s:Str},c∉s→splitB c s=[s]
 | [],_=>rfl
 | b ::r,h=>by
  rw [List.mem_cons,not_or] at h
  unfold splitB
  rw [if_neg (fun e=>h.1 e.symm),pM h.2]
theorem rF {c:UInt8}:∀{a:Str} (r:Str),c∉a→splitB c (a++c ::r)=a ::splitB c r
 | [],r,_=>by rw [List.nil_append,splitB,if_pos rfl]
 | b ::a,r,h=>by
  rw [List.mem_cons,not_or] at h
  rw [List.cons_append,splitB,if_neg (fun e=>h.1 e.symm),rF r h.2]
theorem pN (c:UInt8):∀(n:Nat) (s:Str),s.length<=n→Lib.splitK [c] 0 (s.count c) s=splitB c s
 | n,s,hn=>by
  by_cases h:Lib.indexByte s c=-1
  ·have hm:=gi h
   rw [List.count_eq_zero.2 hm,pM hm]
   rfl
  ·obtain ⟨k,k1,k2,k3,k4⟩:=fg h
   have hc:s.count c=(s.drop (k+1)).count c+1:=by
    have e:=congrArg (List.count c) k3
    rw [List.count_append,List.count_cons_self,List.count_eq_zero.2 k4] at e
    omega
   rw [hc]
   unfold Lib.splitK
   rw [Lib.index_one,if_neg (by simpa using h),k1]
   have hd:(k:Int).toNat+[c].length=k+1:=rfl
   have ht:(k:Int).toNat+0=k:=rfl
   rw [hd,ht]
   cases n with
   | zero=>omega
   | succ n=>
    rw [pN c n (s.drop (k+1)) (by rw [List.length_drop];omega)]
    conv=>rhs;rw [k3]
    rw [rF _ k4]
theorem lN {c:UInt8}:∀{a:Str} (r:Str),c∉a→(a++c ::r).takeWhile (fun b=>!decide (b=c))=a
 | [],r,_=>by simp
 | b ::a,r,h=>by
  rw [List.mem_cons,not_or] at h
  have hb:¬b=c:=fun e=>h.1 e.symm
  rw [List.cons_append,List.takeWhile_cons]
  simp only [hb,decide_false,Bool.not_false,if_true]
  rw [lN r h.2]
theorem qP {c:UInt8} {s:Str} (h:c∉s):s.takeWhile (fun b=>!decide (b=c))=s:=by
 induction s with
 | nil=>rfl
 | cons b r ih=>
  rw [List.mem_cons,not_or] at h
  have hb:¬b=c:=fun e=>h.1 e.symm
  rw [List.takeWhile_cons]
  simp only [hb,decide_false,Bool.not_false,if_true]
  rw [ih h.2]
theorem CD (s:Str):Lib.cut s [45]=(ik s,l8 s,mI s):=by
 unfold Lib.cut
 rw [Lib.index_one]
 by_cases h:Lib.indexByte s 45=-1
 ·have hm:=gi h
  rw [h,if_neg (by decide)]
  have e:ik s=s:=qP hm
  unfold l8 mI
  rw [e,List.drop_eq_nil_of_le (by omega)]
  simp
 ·obtain ⟨k,k1,k2,k3,k4⟩:=fg h
  rw [k1,if_pos (by omega)]
  have e:ik s=s.take k:=by
   unfold ik
   conv=>lhs;rw [k3]
   exact lN _ k4
  have hl:(s.take k).length=k:=by rw [List.length_take];omega
  unfold l8 mI
  rw [e,hl]
  simp [k2]
theorem Ei (s:Str) (c:Int) (h0:0<=c) (h1:c<=255):∀k:Nat,bB (fun b=>!decide (bI b=c)) s k=if Lib.indexByte s c.toNat.toUInt8=-1 then -1 else Lib.indexByte s c.toNat.toUInt8+k:=by
 have hb:∀b:UInt8,(bI b=c)↔b=c.toNat.toUInt8:=by
  intro b
  unfold bI
  constructor
  ·intro e
   have:c.toNat=b.toNat:=by omega
   rw [this]
   simp
  ·intro e
   rw [e]
   simp [Nat.toUInt8]
   omega
 induction s with
 | nil=>intro k;rfl
 | cons b r ih=>
  intro k
  rw [bB]
  by_cases e:bI b=c
  ·have e2:=(hb b).1 e
   rw [if_neg (by simp [e])]
   unfold Lib.indexByte
   rw [e2]
   simp
  ·have e2:(b ==c.toNat.toUInt8)=false:=beq_eq_false_iff_ne.2 (fun q=>e ((hb b).2 q))
   rw [if_pos (by simp [e]),ih (k+1)]
   have hg:=Lib.indexByte_ge r c.toNat.toUInt8
   have e3:Lib.indexByte (b ::r) c.toNat.toUInt8=(if b ==c.toNat.toUInt8 then 0 else if Lib.indexByte r c.toNat.toUInt8 ==-1 then -1 else Lib.indexByte r c.toNat.toUInt8+1):=rfl
   rw [e3,e2]
   simp only [Bool.false_eq_true,if_false,beq_iff_eq]
   by_cases q:Lib.indexByte r c.toNat.toUInt8=-1
   ·rw [if_pos q,if_pos q];rfl
   ·rw [if_neg q,if_neg q,if_neg (by omega)]
    omega
theorem vb (s:Str) (c:UInt8):decide (0<=Lib.indexByte s c)=decide (c∈s):=by
 have hg:=Lib.indexByte_ge s c
 rw [decide_eq_decide]
 by_cases h:Lib.indexByte s c=-1
 ·exact ⟨fun e=>by omega,fun e=>absurd e (gi h)⟩
 ·obtain ⟨k,k1,k2,k3,k4⟩:=fg h
  exact ⟨fun _=>by rw [k3];simp,fun _=>by omega⟩
variable [Tabs] {P:Program} {ρ:Ren}
theorem Below.drawn (w:World) (n:Nat):Below w.heap.size w (w.drewN n):=⟨rfl,rfl,rfl,Nat.le_refl _,fun _ _=>rfl⟩
theorem After.news {w w':World} {pub:Nat→Nat→Prop} {e:Nat→Option CObj} (hp:js w pub) (hd:∀id,e id=none) (hb:Below w.heap.size w w') {p:Nat→Prop} (hc:∀o,p o→∃v,w'.cell? ⟨w.heap.size,o,none⟩=some v) :
  After w pub e (ax (cv [] [])) w' (fun b o=>pub b o∨(b=w.heap.size/\p o)) e where
 os:=hb.os
 tape:=hb.tape
 output:=hb.output
 size:=hb.size
 block b h _:=hb.block b h
 cell b o h _:=ar (hb.block b h) o
 kind b h _:=⟨bp (hb.block b h),fun o=>b9 (hb.block b h) o⟩
 ext:=⟨fun _ c h=>⟨c,h,CLe.refl c⟩,fun _ _ h=>.inl h,fun b o h=>by obtain ⟨v,hv⟩:=hp b o h;exact ar (hb.block b (b8 hv)) o⟩
 fresh b o h:=by
  rcases h with h | ⟨rfl,_⟩
  ·exact .inl h
  ·exact .inr (.inl (Nat.le_refl _))
 ok b o h:=by
  rcases h with h | ⟨rfl,h⟩
  ·obtain ⟨v,hv⟩:=hp b o h;exact ⟨v,(ar (hb.block b (b8 hv)) o).trans hv⟩
  ·exact hc o h
 slots id o h:=by simp [cv,aZ,aU] at h
 dom id _:=hd id
 inj i j c d b o h:=by rw [hd i] at h;cases h
theorem dD {f:Nat} {args:List AV} {A:AV} {ob:Option Prop} (h:∀(w:World) (pub:Nat→Nat→Prop) (vs:List Value),gH w pub (fun _=>none)→VL ⟨fun _=>none,w,pub⟩ args vs→Calls P f vs.toArray w fun e w'=>(∃v,e=.returned v/\∀Ω,V Ω A v)/\Below w.heap.size w w') :
  aB P f args [] ⟨ob,none,A,[]⟩:=by
 intro w pub e vs hp ht hv hs hd hi
 have he:e=fun _=>none:=funext fun id=>hd id rfl
 subst he
 refine (h w pub vs ht hv).mono ?_
 rintro en w' ⟨⟨v,rfl,hV⟩,hb⟩
 exact ⟨pub,_,And.intro (fun b pv u h=>by cases h) (And.intro (hV _) (After.below hp (fun _=>rfl) hb))⟩
theorem VL.two_str {Ω:Om} {a b:Str} {vs:List Value} (h:VL Ω [.str a,.str b] vs):vs=[.string ⟨a.toArray⟩,.string ⟨b.toArray⟩]/\a.length<=bE/\b.length<=bE:=by
 obtain ⟨v1,v2,rfl,h1,h2⟩:=VL.two_inv h
 obtain ⟨rfl,l1⟩:=h1.str_inv
 obtain ⟨rfl,l2⟩:=h2.str_inv
 exact ⟨rfl,l1,l2⟩
def Ej:Pat:=p2 .str .str fun a b=>⟨some (b=pK),none,.str (pL a),[]⟩
set_option maxRecDepth 100000 in
theorem CE (b:UInt8):pK.contains b=nE b:=by
 have h:∀b:Fin 256,pK.contains (UInt8.ofNat b.val)=nE (UInt8.ofNat b.val):=by decide
 have:=h ⟨b.toNat,b.toNat_lt⟩
 simpa using this
theorem xA {f:Nat} (L:Lays.n160 P ρ) (h116:(P.info? (ρ.t 116)).map (fun i=>(i.zero,i.size))=some (some (.agg (Array.replicate 256 (.bool false))),256)) (hf:ρ.f 160=f) (he:aF P f):aj P f Ej:=by
 subst hf
 refine cM he fun a b _ _ ho=>?_
 have hb:=ho _ rfl
 subst hb
 refine dD fun w pub vs _ hv=>?_
 obtain ⟨rfl,l1,l2⟩:=VL.two_str hv
 have l1':a.length<=9223372036854775807:=l1
 refine (Any.strings_Trim_laid L h116 ⟨a.toArray⟩ ⟨pK.toArray⟩ w (by simpa [ByteArray.size] using l1') (by decide) (fun j b hj=>?_)).mono ?_
 ·have hd:∀b∈pK,b.toNat < 128:=by decide
  exact hd b (List.mem_of_getElem? hj)
 ·rintro en w' ⟨rfl,hb⟩
  refine ⟨⟨_,rfl,fun Ω=>?_⟩,hb⟩
  have e:Lib.trimS a pK=pL a:=by
   have ef:(fun b=>pK.contains b)=nE:=funext CE
   unfold Lib.trimS Lib.trimLeftS Lib.trimRightS pL
   rw [ef]
  have e2:(⟨a.toArray⟩:ByteArray).data.toList=a:=rfl
  have e3:(⟨pK.toArray⟩:ByteArray).data.toList=pK:=rfl
  rw [e2,e3,e]
  exact .str _ (Nat.le_trans (CC a) l1)
def Fm:Pat:=p2 .str .str fun a b=>⟨some (b=[45]/\a.length < 4294967281),none,.tup [.str (ik a),.str (l8 a),.bool (mI a)],[]⟩
theorem Au {f:Nat} {m:Int} (L:Lays.n145 P ρ) (hm:Tabs.tab (ρ.g 1) 0 (.int .i64 m)) (hf:ρ.f 145=f) (he:aF P f):aj P f Fm:=by
 subst hf
 refine cM he fun a b _ _ ho=>?_
 obtain ⟨hb,hl⟩:=ho _ rfl
 subst hb
 refine dD fun w pub vs ht hv=>?_
 obtain ⟨rfl,l1,l2⟩:=VL.two_str hv
 refine (Any.strings_Cut L ⟨a.toArray⟩ ⟨([45]:Str).toArray⟩ m w (by simpa [ByteArray.size] using hl) (ht.1 _ _ _ hm).2).mono ?_
 rintro en w' ⟨rfl,n,rfl⟩
 refine ⟨⟨_,rfl,fun Ω=>?_⟩,Below.drawn w n⟩
 have e2:(⟨a.toArray⟩:ByteArray).data.toList=a:=rfl
 have e3:(⟨([45]:Str).toArray⟩:ByteArray).data.toList=[45]:=rfl
 rw [e2,e3,CD]
 refine V.of_tup (VL.cons (.str _ ?_) (VL.cons (.str _ ?_) (VL.cons (.bool _) .nil)))
 ·exact Nat.le_trans (As a) l1
 ·unfold l8
  rw [List.length_drop]
  exact Nat.le_trans (Nat.sub_le _ _) l1
def vc:Pat:=p2 .str .str fun a b=>⟨some (b.length=1),none,.bool (decide (b.getD 0 0∈a)),[]⟩
theorem pO {f:Nat} (L:Lays.n144 P ρ) (hf:ρ.f 144=f) (he:aF P f):aj P f vc:=by
 subst hf
 refine cM he fun a b _ _ ho=>?_
 have hb:b.length=1:=ho _ rfl
 obtain ⟨c,rfl⟩:∃c,b=[c]:=by
  match b,hb with
  | [c],_=>exact ⟨c,rfl⟩
 refine dD fun w pub vs ht hv=>?_
 obtain ⟨rfl,l1,l2⟩:=VL.two_str hv
 refine (Any.strings_Contains_one L ⟨a.toArray⟩ c w).mono ?_
 rintro en w' ⟨rfl,rfl⟩
 refine ⟨⟨_,rfl,fun Ω=>?_⟩,Below.refl _ _⟩
 have e2:(⟨a.toArray⟩:ByteArray).data.toList=a:=rfl
 rw [e2,vb]
 exact .bool _
def tt:Pat:=p2 .str (.int .u8) fun a c=>.ret (.int .i64 (CB a c))
theorem nX {f:Nat} (L:Lays.n137 P ρ) (hf:ρ.f 137=f) (he:aF P f):aj P f tt:=by
 subst hf
 refine cM he fun a c _ _ ho=>?_
 refine dD fun w pub vs ht hv=>?_
 obtain ⟨v1,v2,rfl,h1,h2⟩:=VL.two_inv hv
 obtain ⟨rfl,l1⟩:=h1.str_inv
 obtain ⟨rfl,c1,c2⟩:=(show V _ (.int .u8 c) v2 from h2).int_inv
 have c1:(0:Int)<=c:=c1
 have c2:c<=(255:Int):=c2
 refine (Any.strings_IndexByte L ⟨a.toArray⟩ c w).mono ?_
 rintro en w' ⟨rfl,rfl⟩
 refine ⟨⟨_,rfl,fun Ω=>?_⟩,Below.refl _ _⟩
 have e2:(⟨a.toArray⟩:ByteArray).data.toList=a:=rfl
 have e:CB a c=Lib.indexByte a c.toNat.toUInt8:=by
  unfold CB
  rw [Ei a c c1 c2 0]
  split
  ·rename_i h;exact h.symm
  ·simp
 rw [e2,e]
 have hg:=Lib.indexByte_ge a c.toNat.toUInt8
 have hu:Lib.indexByte a c.toNat.toUInt8<=(a.length:Int):=by
  by_cases q:Lib.indexByte a c.toNat.toUInt8=-1
  ·omega
  ·obtain ⟨k,k1,k2,_⟩:=fg q
   omega
 have l1':a.length<=9223372036854775807:=l1
 have b1:inR .i64 (Lib.indexByte a c.toNat.toUInt8):=bN (by omega) (by omega)
 exact .int _ _ b1.1 b1.2
def CF:Pat:=p2 .str .str fun a b=>⟨some (b=[46]/\a.length < 4294967281),none,.lst .str (splitB 46 a) none,[]⟩
theorem pP (c:UInt8):∀(s:Str),∀x∈splitB c s,x.length<=s.length
 | [],x,h=>by rw [List.mem_singleton.1 h];exact Nat.le_refl _
 | b ::r,x,h=>by
  have ih:=pP c r
  unfold splitB at h
  split at h
  ·rcases List.mem_cons.1 h with e | e
   ·rw [e];exact Nat.zero_le _
   ·have:=ih x e;rw [List.length_cons];omega
  ·split at h
   ·rw [List.mem_singleton.1 h,List.length_cons];simp
   ·rename_i p ps e0
    rcases List.mem_cons.1 h with e | e
    ·have:=ih p (by rw [e0];exact List.mem_cons_self ..)
     rw [e,List.length_cons,List.length_cons]
     omega
    ·have:=ih x (by rw [e0];exact List.mem_cons_of_mem _ e)
     rw [List.length_cons]
     omega
theorem vd {f:Nat} {m:Int} (L:Lays.n146 P ρ) (hi9:(P.info? (ρ.t 9)).map (fun i=>(i.zero,i.size,i.bytes))=some (some (.string ByteArray.empty),1,16)) (hm:Tabs.tab (ρ.g 1) 0 (.int .i64 m)) (hf:ρ.f 146=f) (he:aF P f):aj P f CF:=by
 subst hf
 refine cM he fun a b _ _ ho=>?_
 obtain ⟨hb,hl⟩:=ho _ rfl
 subst hb
 intro w pub e vs hp ht hv hs hd hi
 obtain ⟨rfl,l1,l2⟩:=VL.two_str hv
 have l1':a.length<=9223372036854775807:=l1
 refine (Any.strings_Split L hi9 ⟨a.toArray⟩ ⟨([46]:Str).toArray⟩ m w (by simpa [ByteArray.size] using hl) (ht.1 _ _ _ hm).2 (by decide)).mono ?_
 rintro en w' ⟨rfl,rfl⟩
 have e2:(⟨a.toArray⟩:ByteArray).data.toList=a:=rfl
 have e3:(⟨([46]:Str).toArray⟩:ByteArray).data.toList=[46]:=rfl
 have hcount:Lib.countB ⟨a.toArray⟩ ⟨([46]:Str).toArray⟩=a.count 46:=by
  show Lib.count a [46]=_
  rw [Lib.count_one]
 have hsp:(Lib.splitB ⟨([46]:Str).toArray⟩ 0 (Lib.countB ⟨a.toArray⟩ ⟨([46]:Str).toArray⟩) ⟨a.toArray⟩).map (·.data.toList)=splitB 46 a:=by
  rw [Lib.splitB_data,hcount]
  exact pN 46 a.length a (Nat.le_refl _)
 generalize Lib.splitB ⟨([46]:Str).toArray⟩ 0 (Lib.countB ⟨a.toArray⟩ ⟨([46]:Str).toArray⟩) ⟨a.toArray⟩=bs at hsp
 have hcl:(splitB 46 a).length=Lib.countB ⟨a.toArray⟩ ⟨([46]:Str).toArray⟩+1:=by
  rw [hcount]
  have:∀s:Str,(splitB 46 s).length=s.count 46+1:=by
   intro s
   induction s with
   | nil=>rfl
   | cons b r ih=>
    unfold splitB
    split
    ·rename_i h
     subst h
     rw [List.length_cons,ih,List.count_cons_self]
    ·rename_i h
     rw [List.count_cons_of_ne h]
     split
     ·rename_i e0;rw [e0] at ih;simp at ih
     ·rename_i p ps e0
      rw [e0] at ih
      simpa using ih
  exact this a
 have hbl:bs.length=(splitB 46 a).length:=by rw [←hsp,List.length_map]
 have hsz:=kQ 46 a
 rw [←hcl]
 have hnew:(w.alloc (.cells (bs.map Value.string).toArray (ρ.t 9))).heap[w.heap.size]?=some (.cells (bs.map Value.string).toArray (ρ.t 9) (0,0)):=cz _ _
 have hbw:Below w.heap.size w (w.alloc (.cells (bs.map Value.string).toArray (ρ.t 9))):=⟨rfl,rfl,rfl,by simp,fun b hb=>fP _ _ _ hb⟩
 refine ⟨fun b o=>pub b o∨(b=w.heap.size/\o < bs.length),e,And.intro (fun b pv u h=>by cases h) (And.intro ?_ (After.news hp (fun id=>hd id rfl) hbw (p:=fun o=>o < bs.length) (fun o ho=>?_)))⟩
 ·refine oV (Ω:=⟨e,w.alloc (.cells (bs.map Value.string).toArray (ρ.t 9)),fun b o=>pub b o∨(b=w.heap.size/\o < bs.length)⟩) (τ:=.str) (xs:=splitB 46 a) (vs:=bs.map Value.string) hnew ?_ ?_ (Nat.le_refl _) (by unfold bE;omega) (fun i hi=>.inr ⟨rfl,by rw [hbl];simpa [ah] using hi⟩) (fun id hid=>by cases hid)
  ·have e1:(splitB 46 a).length *ah .str=bs.length:=by rw [hbl];exact Nat.mul_one _
   rw [e1]
   exact List.take_of_length_le (by simp)
  ·have ef:bk .str (splitB 46 a)=(splitB 46 a).map AV.str:=by
    unfold bk
    rw [List.map_eq_flatMap]
    rfl
   rw [ef,←hsp]
   refine ⟨by simp,fun j c v hc hv=>?_⟩
   rw [List.map_map,List.getElem?_map,Option.map_eq_some_iff] at hc
   rw [List.getElem?_map,Option.map_eq_some_iff] at hv
   obtain ⟨x,hx,rfl⟩:=hc
   obtain ⟨y,hy,rfl⟩:=hv
   rw [hx] at hy
   cases hy
   have hmem:x.data.toList∈splitB 46 a:=by rw [←hsp];exact List.mem_map_of_mem (List.mem_of_getElem? hx)
   have hle:=pP 46 a _ hmem
   have:=V.str (Ω:=⟨e,w.alloc (.cells (bs.map Value.string).toArray (ρ.t 9)),fun b o=>pub b o∨(b=w.heap.size/\o < bs.length)⟩) x.data.toList (Nat.le_trans hle l1)
   exact this
 ·rw [aR hnew]
  exact ⟨_,Array.getElem?_eq_getElem (by simpa using ho)⟩
def lO [Tabs] (g3 g4:Nat):Prop:=
 (∀c,c < 256→Tabs.tab g3 c (.int .u8 (Lib.firstT c)))/\(∀i,i < 16→Tabs.tab g4 (2 *i) (.int .u8 (Lib.accLo i))/\Tabs.tab g4 (2 *i+1) (.int .u8 (Lib.accHi i)))
theorem lO.tabs {g3 g4:Nat} (h:lO g3 g4) {w:World} {pub:Nat→Nat→Prop} {e:Nat→Option CObj} (ht:gH w pub e):Lib.Utf8Tabs g3 g4 w:=
 ⟨fun c hc=>(ht.1 _ _ _ (h.1 c hc)).2,fun i hi=>⟨(ht.1 _ _ _ (h.2 i hi).1).2,(ht.1 _ _ _ (h.2 i hi).2).2⟩⟩
theorem Ek (s:Str) (k:Nat) (h:k < s.length):((⟨s.toArray⟩:ByteArray).get! k)=s.getD k 0:=by
 rw [Utf8W.get!_of_lt _ k (by simpa [ByteArray.size] using h)]
 have:(⟨s.toArray⟩:ByteArray)[k]'(by simpa [ByteArray.size] using h)=s[k]:=rfl
 rw [this]
 simp [List.getD_eq_getElem?_getD,h]
theorem ve (n b0 b1 b2 b3 c1 c2 c3:Nat) (h1:1 < n→b1=c1) (h2:2 < n→b2=c2) (h3:3 < n→b3=c3):Lib.decodeN n b0 b1 b2 b3=Lib.decodeN n b0 c1 c2 c3:=by
 rcases Nat.lt_or_ge 3 n with k | k
 ·rw [h1 (by omega),h2 (by omega),h3 k]
 rcases Nat.lt_or_ge 2 n with k2 | k2
 ·rw [h1 (by omega),h2 k2]
  unfold Lib.decodeN
  have e:¬3 < n:=by omega
  simp only [e,false_and,and_false,if_false]
 rcases Nat.lt_or_ge 1 n with k1 | k1
 ·rw [h1 k1]
  unfold Lib.decodeN
  have e:¬3 < n:=by omega
  have e':¬2 < n:=by omega
  simp only [e,e',false_and,and_false,if_false]
 ·unfold Lib.decodeN
  have e:¬3 < n:=by omega
  have e':¬2 < n:=by omega
  have e'':¬1 < n:=by omega
  simp only [e,e',e'',false_and,and_false,if_false]
theorem nF (s:Str):Lib.decodeGo ⟨s.toArray⟩=jg s:=by
 unfold Lib.decodeGo jg
 have hs:(⟨s.toArray⟩:ByteArray).size=s.length:=by simp [ByteArray.size]
 rw [hs]
 by_cases h:s=[]
 ·subst h;rfl
 have hl:=List.length_pos_iff.2 h
 rw [if_neg (by omega),if_neg h,Lib.decode_at,hs,Nat.sub_zero,Ek s 0 hl]
 exact ve _ _ _ _ _ _ _ _ (fun k=>by rw [Ek s 1 k]) (fun k=>by rw [Ek s 2 k]) (fun k=>by rw [Ek s 3 k])
def qQ:Pat:=p1 .str fun s=>.ret (.tup [.int .i32 ((jg s).1:Int),.int .i64 ((jg s).2:Int)])
theorem xB (s:Str):(jg s).1<=1114111/\(jg s).2<=s.length:=by
 by_cases h:s=[]
 ·subst h;decide
 ·have:=uZ h
  exact ⟨this.2.2.1,this.2.2.2.2⟩
theorem mJ {f:Nat} (L:Lays.n197 P ρ) (hu:lO (ρ.g 3) (ρ.g 4)) (hf:ρ.f 197=f) (he:aF P f):aj P f qQ:=by
 subst hf
 refine cu he fun s _ ho=>?_
 refine dD fun w pub vs ht hv=>?_
 obtain ⟨v,rfl,h1⟩:=VL.one_inv hv
 obtain ⟨rfl,hl⟩:=h1.str_inv
 have hl':s.length<=9223372036854775807:=hl
 refine (Any.utf8_DecodeRuneInString L ⟨s.toArray⟩ w (hu.tabs ht)).mono ?_
 rintro en w' ⟨rfl,hb⟩
 refine ⟨⟨_,rfl,fun Ω=>?_⟩,hb⟩
 rw [nF]
 obtain ⟨d1,d2⟩:=xB s
 exact V.of_tup (VL.cons (.int .i32 _ (by show (-2147483648:Int)<=_;omega) (by show _<=(2147483647:Int);omega)) (VL.cons (.int .i64 _ (by show (-9223372036854775808:Int)<=_;omega) (by show _<=(9223372036854775807:Int);omega)) .nil))
theorem pQ:∀(n:Nat) (l:Str) (k:Nat),Lib.validGoD n l=(zq n l k).isNone
 | 0,_,_=>rfl
 | n+1,l,k=>by
  unfold Lib.validGoD
  rw [zq]
  by_cases h:l=[]
  ·rw [if_pos h,if_pos h];rfl
  rw [if_neg h,if_neg h]
  have hd:Lib.decodeL l=jg l:=by
   rw [←nF]
   unfold Lib.decodeL Lib.decodeGo
   rw [if_neg (by
    have:=List.length_pos_iff.2 h
    simp [ByteArray.size]
    exact h)]
  obtain ⟨b1,b2,_⟩:=uZ h
  rw [hd]
  by_cases u:tq l=0
  ·rw [if_pos (b1.2 u),if_pos u];rfl
  ·rw [if_neg (fun e=>u (b1.1 e)),if_neg u,b2 u]
   exact pQ n _ _
def CG:Pat:=p1 .str fun s=>.ret (.bool (pJ s).isNone)
theorem vf {f:Nat} (L:Lays.n196 P ρ) (hu:lO (ρ.g 3) (ρ.g 4)) (hf:ρ.f 196=f) (he:aF P f):aj P f CG:=by
 subst hf
 refine cu he fun s _ ho=>?_
 refine dD fun w pub vs ht hv=>?_
 obtain ⟨v,rfl,h1⟩:=VL.one_inv hv
 obtain ⟨rfl,hl⟩:=h1.str_inv
 have hl':s.length<=9223372036854775807:=hl
 refine (Any.utf8_ValidString L ⟨s.toArray⟩ w (by simpa [ByteArray.size] using hl') (hu.tabs ht)).mono ?_
 rintro en w' ⟨rfl,hb⟩
 refine ⟨⟨_,rfl,fun Ω=>?_⟩,hb⟩
 have e:Lib.validD s=(pJ s).isNone:=pQ s.length s 0
 have e2:(⟨s.toArray⟩:ByteArray).data.toList=s:=rfl
 rw [e2,e]
 exact .bool _
end Go.AL
end
section
namespace Go.Proofs
open Go.Shelf
def Tryz.lays160_ren:Go.Shelf.Ren:=⟨fun | 160=>70 | 232=>106 | 231=>105 | 227=>107 | 234=>109 | 233=>108 | 236=>111 | 235=>110 | 228=>141 | 271=>143 | 151=>142 | 197=>104 | 120=>179 | 152=>178 | 260=>140 | 137=>117 | 119=>209 | 224=>210 | 225=>211 | 217=>149 | 266=>188 | n=>n,fun | 9=>9 | 4=>4 | 3=>3 | 5=>5 | 117=>145 | 116=>144 | 0=>0 | 124=>148 | 21=>21 | 105=>140 | 46=>167 | 119=>176 | 139=>179 | 138=>178 | n=>n,fun | 3=>0 | 4=>1 | n=>n⟩
theorem Tryz.lays160:Go.Proofs.Lays.n160 Tryz.prog Tryz.lays160_ren:={
 mixed:=by kernel_rfl
 f119:=Xt Tryz.func209
 f120:=Xt Tryz.func179
 f137:=Xt Tryz.func117
 f151:=Xt Tryz.func142
 f152:=Xt Tryz.func178
 f160:=Xt Tryz.func70
 f197:=Xt Tryz.func104
 f217:=Xt Tryz.func149
 f224:=Xt Tryz.func210
 f225:=Xt Tryz.func211
 f227:=Xt Tryz.func107
 f228:=Xt Tryz.func141
 f231:=Xt Tryz.func105
 f232:=Xt Tryz.func106
 f233:=Xt Tryz.func108
 f234:=Xt Tryz.func109
 f235:=Xt Tryz.func110
 f236:=Xt Tryz.func111
 f260:=Xt Tryz.func140
 f266:=Xt Tryz.func188
 f271:=Xt Tryz.func143
 t0:=Tryz.underlying0
 a0:=Tryz.isAgg0
 z0:=Tryz.sizeOf0
 v0:=Tryz.zeroValue0
 t3:=Tryz.underlying3
 a3:=Tryz.isAgg3
 z3:=Tryz.sizeOf3
 v3:=Tryz.zeroValue3
 t4:=Tryz.underlying4
 a4:=Tryz.isAgg4
 z4:=Tryz.sizeOf4
 v4:=Tryz.zeroValue4
 t5:=Tryz.underlying5
 a5:=Tryz.isAgg5
 z5:=Tryz.sizeOf5
 v5:=Tryz.zeroValue5
 t9:=Tryz.underlying9
 a9:=Tryz.isAgg9
 z9:=Tryz.sizeOf9
 v9:=Tryz.zeroValue9
 t21:=Tryz.underlying21
 a21:=Tryz.isAgg21
 z21:=Tryz.sizeOf21
 v21:=Tryz.zeroValue21
 t46:=Tryz.underlying167
 a46:=Tryz.isAgg167
 z46:=Tryz.sizeOf167
 v46:=Tryz.zeroValue167
 t105:=Tryz.underlying140
 a105:=Tryz.isAgg140
 z105:=Tryz.sizeOf140
 v105:=Tryz.zeroValue140
 t116:=Tryz.underlying144
 a116:=Tryz.isAgg144
 z116:=Tryz.sizeOf144
 t117:=Tryz.underlying145
 a117:=Tryz.isAgg145
 z117:=Tryz.sizeOf145
 v117:=Tryz.zeroValue145
 t119:=Tryz.underlying176
 a119:=Tryz.isAgg176
 z119:=Tryz.sizeOf176
 t124:=Tryz.underlying148
 a124:=Tryz.isAgg148
 z124:=Tryz.sizeOf148
 v124:=Tryz.zeroValue148
 t138:=Tryz.underlying178
 a138:=Tryz.isAgg178
 z138:=Tryz.sizeOf178
 v138:=Tryz.zeroValue178
 t139:=Tryz.underlying179
 a139:=Tryz.isAgg179
 z139:=Tryz.sizeOf179
 v139:=Tryz.zeroValue179
 g3:=by kernel_rfl
 g4:=by kernel_rfl}
def Tryz.lays145_ren:Go.Shelf.Ren:=⟨fun | 145=>112 | 220=>144 | 219=>180 | 217=>149 | 225=>211 | 224=>210 | 267=>212 | 266=>188 | 314=>224 | n=>n,fun | 9=>9 | 4=>4 | 59=>149 | 3=>3 | 5=>5 | 46=>167 | 146=>244 | 51=>194 | n=>n,fun | 1=>2 | n=>n⟩
theorem Tryz.lays145:Go.Proofs.Lays.n145 Tryz.prog Tryz.lays145_ren:={
 mixed:=by kernel_rfl
 f145:=Xt Tryz.func112
 f217:=Xt Tryz.func149
 f219:=Xt Tryz.func180
 f220:=Xt Tryz.func144
 f224:=Xt Tryz.func210
 f225:=Xt Tryz.func211
 f266:=Xt Tryz.func188
 f267:=Xt Tryz.func212
 f314:=Xt Tryz.func224
 t3:=Tryz.underlying3
 a3:=Tryz.isAgg3
 z3:=Tryz.sizeOf3
 v3:=Tryz.zeroValue3
 t4:=Tryz.underlying4
 a4:=Tryz.isAgg4
 z4:=Tryz.sizeOf4
 v4:=Tryz.zeroValue4
 t5:=Tryz.underlying5
 a5:=Tryz.isAgg5
 z5:=Tryz.sizeOf5
 v5:=Tryz.zeroValue5
 t9:=Tryz.underlying9
 a9:=Tryz.isAgg9
 z9:=Tryz.sizeOf9
 v9:=Tryz.zeroValue9
 t46:=Tryz.underlying167
 a46:=Tryz.isAgg167
 z46:=Tryz.sizeOf167
 v46:=Tryz.zeroValue167
 t51:=Tryz.underlying194
 a51:=Tryz.isAgg194
 z51:=Tryz.sizeOf194
 v51:=Tryz.zeroValue194
 t59:=Tryz.underlying149
 a59:=Tryz.isAgg149
 z59:=Tryz.sizeOf149
 v59:=Tryz.zeroValue149
 t146:=Tryz.underlying244
 a146:=Tryz.isAgg244
 z146:=Tryz.sizeOf244
 v146:=Tryz.zeroValue244
 g1:=by kernel_rfl}
def Tryz.lays146_ren:Go.Shelf.Ren:=⟨fun | 146=>113 | 221=>145 | 268=>181 | 138=>182 | 143=>150 | 195=>213 | 197=>104 | 218=>214 | 219=>180 | 260=>140 | 217=>149 | 225=>211 | 224=>210 | 267=>212 | 266=>188 | 314=>224 | n=>n,fun | 9=>9 | 31=>22 | 3=>3 | 4=>4 | 0=>0 | 105=>140 | 21=>21 | 5=>5 | 46=>167 | 119=>176 | 139=>179 | 138=>178 | 146=>244 | 51=>194 | n=>n,fun | 1=>2 | 3=>0 | 4=>1 | n=>n⟩
theorem Tryz.lays146:Go.Proofs.Lays.n146 Tryz.prog Tryz.lays146_ren:={
 mixed:=by kernel_rfl
 f138:=Xt Tryz.func182
 f143:=Xt Tryz.func150
 f146:=Xt Tryz.func113
 f195:=Xt Tryz.func213
 f197:=Xt Tryz.func104
 f217:=Xt Tryz.func149
 f218:=Xt Tryz.func214
 f219:=Xt Tryz.func180
 f221:=Xt Tryz.func145
 f224:=Xt Tryz.func210
 f225:=Xt Tryz.func211
 f260:=Xt Tryz.func140
 f266:=Xt Tryz.func188
 f267:=Xt Tryz.func212
 f268:=Xt Tryz.func181
 f314:=Xt Tryz.func224
 t0:=Tryz.underlying0
 a0:=Tryz.isAgg0
 z0:=Tryz.sizeOf0
 v0:=Tryz.zeroValue0
 t3:=Tryz.underlying3
 a3:=Tryz.isAgg3
 z3:=Tryz.sizeOf3
 v3:=Tryz.zeroValue3
 t4:=Tryz.underlying4
 a4:=Tryz.isAgg4
 z4:=Tryz.sizeOf4
 v4:=Tryz.zeroValue4
 t5:=Tryz.underlying5
 a5:=Tryz.isAgg5
 z5:=Tryz.sizeOf5
 v5:=Tryz.zeroValue5
 t9:=Tryz.underlying9
 a9:=Tryz.isAgg9
 z9:=Tryz.sizeOf9
 v9:=Tryz.zeroValue9
 t21:=Tryz.underlying21
 a21:=Tryz.isAgg21
 z21:=Tryz.sizeOf21
 v21:=Tryz.zeroValue21
 t31:=Tryz.underlying22
 a31:=Tryz.isAgg22
 z31:=Tryz.sizeOf22
 v31:=Tryz.zeroValue22
 t46:=Tryz.underlying167
 a46:=Tryz.isAgg167
 z46:=Tryz.sizeOf167
 v46:=Tryz.zeroValue167
 t51:=Tryz.underlying194
 a51:=Tryz.isAgg194
 z51:=Tryz.sizeOf194
 v51:=Tryz.zeroValue194
 t105:=Tryz.underlying140
 a105:=Tryz.isAgg140
 z105:=Tryz.sizeOf140
 v105:=Tryz.zeroValue140
 t119:=Tryz.underlying176
 a119:=Tryz.isAgg176
 z119:=Tryz.sizeOf176
 t138:=Tryz.underlying178
 a138:=Tryz.isAgg178
 z138:=Tryz.sizeOf178
 v138:=Tryz.zeroValue178
 t139:=Tryz.underlying179
 a139:=Tryz.isAgg179
 z139:=Tryz.sizeOf179
 v139:=Tryz.zeroValue179
 t146:=Tryz.underlying244
 a146:=Tryz.isAgg244
 z146:=Tryz.sizeOf244
 v146:=Tryz.zeroValue244
 g1:=by kernel_rfl
 g3:=by kernel_rfl
 g4:=by kernel_rfl}
def Tryz.lays144_ren:Go.Shelf.Ren:=⟨fun | 144=>119 | 143=>150 | 219=>180 | 217=>149 | 225=>211 | 224=>210 | 267=>212 | 266=>188 | 314=>224 | n=>n,fun | 9=>9 | 4=>4 | 3=>3 | 5=>5 | 46=>167 | 146=>244 | 51=>194 | n=>n,fun | 1=>2 | n=>n⟩
theorem Tryz.lays144:Go.Proofs.Lays.n144 Tryz.prog Tryz.lays144_ren:={
 mixed:=by kernel_rfl
 f143:=Xt Tryz.func150
 f144:=Xt Tryz.func119
 f217:=Xt Tryz.func149
 f219:=Xt Tryz.func180
 f224:=Xt Tryz.func210
 f225:=Xt Tryz.func211
 f266:=Xt Tryz.func188
 f267:=Xt Tryz.func212
 f314:=Xt Tryz.func224
 t3:=Tryz.underlying3
 a3:=Tryz.isAgg3
 z3:=Tryz.sizeOf3
 v3:=Tryz.zeroValue3
 t4:=Tryz.underlying4
 a4:=Tryz.isAgg4
 z4:=Tryz.sizeOf4
 v4:=Tryz.zeroValue4
 t5:=Tryz.underlying5
 a5:=Tryz.isAgg5
 z5:=Tryz.sizeOf5
 v5:=Tryz.zeroValue5
 t9:=Tryz.underlying9
 a9:=Tryz.isAgg9
 z9:=Tryz.sizeOf9
 v9:=Tryz.zeroValue9
 t46:=Tryz.underlying167
 a46:=Tryz.isAgg167
 z46:=Tryz.sizeOf167
 v46:=Tryz.zeroValue167
 t51:=Tryz.underlying194
 a51:=Tryz.isAgg194
 z51:=Tryz.sizeOf194
 v51:=Tryz.zeroValue194
 t146:=Tryz.underlying244
 a146:=Tryz.isAgg244
 z146:=Tryz.sizeOf244
 v146:=Tryz.zeroValue244
 g1:=by kernel_rfl}
def Tryz.lays137_ren:Go.Shelf.Ren:=⟨fun | 137=>117 | 217=>149 | 266=>188 | n=>n,fun | 9=>9 | 5=>5 | 3=>3 | n=>n,fun | n=>n⟩
theorem Tryz.lays137:Go.Proofs.Lays.n137 Tryz.prog Tryz.lays137_ren:={
 mixed:=by kernel_rfl
 f137:=Xt Tryz.func117
 f217:=Xt Tryz.func149
 f266:=Xt Tryz.func188
 t3:=Tryz.underlying3
 a3:=Tryz.isAgg3
 z3:=Tryz.sizeOf3
 v3:=Tryz.zeroValue3
 t5:=Tryz.underlying5
 a5:=Tryz.isAgg5
 z5:=Tryz.sizeOf5
 v5:=Tryz.zeroValue5
 t9:=Tryz.underlying9
 a9:=Tryz.isAgg9
 z9:=Tryz.sizeOf9
 v9:=Tryz.zeroValue9}
def Tryz.lays197_ren:Go.Shelf.Ren:=⟨fun | 197=>104 | 260=>140 | n=>n,fun | 9=>9 | 21=>21 | 3=>3 | 4=>4 | 5=>5 | 105=>140 | 119=>176 | 0=>0 | 46=>167 | 139=>179 | 138=>178 | n=>n,fun | 3=>0 | 4=>1 | n=>n⟩
theorem Tryz.lays197:Go.Proofs.Lays.n197 Tryz.prog Tryz.lays197_ren:={
 mixed:=by kernel_rfl
 f197:=Xt Tryz.func104
 f260:=Xt Tryz.func140
 t0:=Tryz.underlying0
 a0:=Tryz.isAgg0
 z0:=Tryz.sizeOf0
 v0:=Tryz.zeroValue0
 t3:=Tryz.underlying3
 a3:=Tryz.isAgg3
 z3:=Tryz.sizeOf3
 v3:=Tryz.zeroValue3
 t4:=Tryz.underlying4
 a4:=Tryz.isAgg4
 z4:=Tryz.sizeOf4
 v4:=Tryz.zeroValue4
 t5:=Tryz.underlying5
 a5:=Tryz.isAgg5
 z5:=Tryz.sizeOf5
 v5:=Tryz.zeroValue5
 t9:=Tryz.underlying9
 a9:=Tryz.isAgg9
 z9:=Tryz.sizeOf9
 v9:=Tryz.zeroValue9
 t21:=Tryz.underlying21
 a21:=Tryz.isAgg21
 z21:=Tryz.sizeOf21
 v21:=Tryz.zeroValue21
 t46:=Tryz.underlying167
 a46:=Tryz.isAgg167
 z46:=Tryz.sizeOf167
 v46:=Tryz.zeroValue167
 t105:=Tryz.underlying140
 a105:=Tryz.isAgg140
 z105:=Tryz.sizeOf140
 v105:=Tryz.zeroValue140
 t119:=Tryz.underlying176
 a119:=Tryz.isAgg176
 z119:=Tryz.sizeOf176
 t138:=Tryz.underlying178
 a138:=Tryz.isAgg178
 z138:=Tryz.sizeOf178
 v138:=Tryz.zeroValue178
 t139:=Tryz.underlying179
 a139:=Tryz.isAgg179
 z139:=Tryz.sizeOf179
 v139:=Tryz.zeroValue179
 g3:=by kernel_rfl
 g4:=by kernel_rfl}
def Tryz.lays196_ren:Go.Shelf.Ren:=⟨fun | 196=>128 | 259=>158 | n=>n,fun | 9=>9 | 4=>4 | 3=>3 | 5=>5 | 12=>12 | 119=>176 | 0=>0 | 46=>167 | 139=>179 | 138=>178 | 53=>196 | n=>n,fun | 3=>0 | 4=>1 | n=>n⟩
theorem Tryz.lays196:Go.Proofs.Lays.n196 Tryz.prog Tryz.lays196_ren:={
 mixed:=by kernel_rfl
 f196:=Xt Tryz.func128
 f259:=Xt Tryz.func158
 t0:=Tryz.underlying0
 a0:=Tryz.isAgg0
 z0:=Tryz.sizeOf0
 v0:=Tryz.zeroValue0
 t3:=Tryz.underlying3
 a3:=Tryz.isAgg3
 z3:=Tryz.sizeOf3
 v3:=Tryz.zeroValue3
 t4:=Tryz.underlying4
 a4:=Tryz.isAgg4
 z4:=Tryz.sizeOf4
 v4:=Tryz.zeroValue4
 t5:=Tryz.underlying5
 a5:=Tryz.isAgg5
 z5:=Tryz.sizeOf5
 v5:=Tryz.zeroValue5
 t9:=Tryz.underlying9
 a9:=Tryz.isAgg9
 z9:=Tryz.sizeOf9
 v9:=Tryz.zeroValue9
 t12:=Tryz.underlying12
 a12:=Tryz.isAgg12
 z12:=Tryz.sizeOf12
 v12:=Tryz.zeroValue12
 t46:=Tryz.underlying167
 a46:=Tryz.isAgg167
 z46:=Tryz.sizeOf167
 v46:=Tryz.zeroValue167
 t53:=Tryz.underlying196
 a53:=Tryz.isAgg196
 z53:=Tryz.sizeOf196
 v53:=Tryz.zeroValue196
 t119:=Tryz.underlying176
 a119:=Tryz.isAgg176
 z119:=Tryz.sizeOf176
 t138:=Tryz.underlying178
 a138:=Tryz.isAgg178
 z138:=Tryz.sizeOf178
 v138:=Tryz.zeroValue178
 t139:=Tryz.underlying179
 a139:=Tryz.isAgg179
 z139:=Tryz.sizeOf179
 v139:=Tryz.zeroValue179
 g3:=by kernel_rfl
 g4:=by kernel_rfl}
end Go.Proofs
end
section
namespace Go.Proofs
open Go.Shelf
def Tryz.lays190_ren:Go.Shelf.Ren:=⟨fun | 190=>138 | 125=>135 | 258=>177 | 128=>173 | 129=>174 | 302=>200 | 303=>201 | 304=>202 | 305=>203 | 306=>204 | 307=>205 | 308=>206 | 309=>207 | 310=>208 | 333=>220 | 329=>196 | 330=>197 | 334=>221 | 335=>222 | 336=>223 | 344=>228 | n=>n,fun | 31=>22 | 9=>9 | 3=>3 | 46=>167 | 0=>0 | 51=>194 | 53=>196 | 4=>4 | 183=>188 | 182=>187 | 131=>101 | 5=>5 | 218=>219 | 222=>223 | 228=>240 | 229=>60 | n=>n,fun | n=>n⟩
theorem Tryz.lays190:Go.Proofs.Lays.n190 Tryz.prog Tryz.lays190_ren:={
 mixed:=by kernel_rfl
 f125:=Xt Tryz.func135
 f128:=Xt Tryz.func173
 f129:=Xt Tryz.func174
 f190:=Xt Tryz.func138
 f258:=Xt Tryz.func177
 f302:=Xt Tryz.func200
 f303:=Xt Tryz.func201
 f304:=Xt Tryz.func202
 f305:=Xt Tryz.func203
 f306:=Xt Tryz.func204
 f307:=Xt Tryz.func205
 f308:=Xt Tryz.func206
 f309:=Xt Tryz.func207
 f310:=Xt Tryz.func208
 f329:=Xt Tryz.func196
 f330:=Xt Tryz.func197
 f333:=Xt Tryz.func220
 f334:=Xt Tryz.func221
 f335:=Xt Tryz.func222
 f336:=Xt Tryz.func223
 f344:=Xt Tryz.func228
 t0:=Tryz.underlying0
 a0:=Tryz.isAgg0
 z0:=Tryz.sizeOf0
 v0:=Tryz.zeroValue0
 t3:=Tryz.underlying3
 a3:=Tryz.isAgg3
 z3:=Tryz.sizeOf3
 v3:=Tryz.zeroValue3
 t4:=Tryz.underlying4
 a4:=Tryz.isAgg4
 z4:=Tryz.sizeOf4
 v4:=Tryz.zeroValue4
 t5:=Tryz.underlying5
 a5:=Tryz.isAgg5
 z5:=Tryz.sizeOf5
 v5:=Tryz.zeroValue5
 t9:=Tryz.underlying9
 a9:=Tryz.isAgg9
 z9:=Tryz.sizeOf9
 v9:=Tryz.zeroValue9
 t31:=Tryz.underlying22
 a31:=Tryz.isAgg22
 z31:=Tryz.sizeOf22
 v31:=Tryz.zeroValue22
 t46:=Tryz.underlying167
 a46:=Tryz.isAgg167
 z46:=Tryz.sizeOf167
 v46:=Tryz.zeroValue167
 t51:=Tryz.underlying194
 a51:=Tryz.isAgg194
 z51:=Tryz.sizeOf194
 v51:=Tryz.zeroValue194
 t53:=Tryz.underlying196
 a53:=Tryz.isAgg196
 z53:=Tryz.sizeOf196
 v53:=Tryz.zeroValue196
 t131:=Tryz.underlying101
 a131:=Tryz.isAgg101
 z131:=Tryz.sizeOf101
 v131:=Tryz.zeroValue101
 t182:=Tryz.underlying187
 a182:=Tryz.isAgg187
 z182:=Tryz.sizeOf187
 v182:=Tryz.zeroValue187
 t183:=Tryz.underlying188
 a183:=Tryz.isAgg188
 z183:=Tryz.sizeOf188
 v183:=Tryz.zeroValue188
 t218:=Tryz.underlying219
 a218:=Tryz.isAgg219
 z218:=Tryz.sizeOf219
 v218:=Tryz.zeroValue219
 t222:=Tryz.underlying223
 a222:=Tryz.isAgg223
 z222:=Tryz.sizeOf223
 v222:=Tryz.zeroValue223
 t228:=Tryz.underlying240
 a228:=Tryz.isAgg240
 z228:=Tryz.sizeOf240
 v228:=Tryz.zeroValue240
 t229:=Tryz.underlying60
 a229:=Tryz.isAgg60
 z229:=Tryz.sizeOf60
 v229:=Tryz.zeroValue60}
def Tryz.lays194_ren:Go.Shelf.Ren:=⟨fun | 194=>102 | n=>n,fun | 31=>22 | 9=>9 | 3=>3 | 4=>4 | 0=>0 | n=>n,fun | n=>n⟩
theorem Tryz.lays194:Go.Proofs.Lays.n194 Tryz.prog Tryz.lays194_ren:={
 mixed:=by kernel_rfl
 f194:=Xt Tryz.func102
 t0:=Tryz.underlying0
 a0:=Tryz.isAgg0
 z0:=Tryz.sizeOf0
 v0:=Tryz.zeroValue0
 t3:=Tryz.underlying3
 a3:=Tryz.isAgg3
 z3:=Tryz.sizeOf3
 v3:=Tryz.zeroValue3
 t4:=Tryz.underlying4
 a4:=Tryz.isAgg4
 z4:=Tryz.sizeOf4
 v4:=Tryz.zeroValue4
 t9:=Tryz.underlying9
 a9:=Tryz.isAgg9
 z9:=Tryz.sizeOf9
 v9:=Tryz.zeroValue9
 t31:=Tryz.underlying22
 a31:=Tryz.isAgg22
 z31:=Tryz.sizeOf22
 v31:=Tryz.zeroValue22}
def Tryz.lays172_ren:Go.Shelf.Ren:=⟨fun | 172=>115 | 244=>146 | 245=>147 | 247=>183 | 279=>184 | 280=>185 | 281=>186 | 282=>187 | 287=>215 | 316=>216 | 171=>218 | 205=>217 | 321=>225 | 322=>226 | 243=>227 | 246=>229 | 283=>230 | 284=>231 | 285=>232 | 286=>233 | 129=>174 | 317=>234 | 318=>235 | 319=>236 | 320=>237 | 337=>238 | 338=>239 | n=>n,fun | 9=>9 | 3=>3 | 75=>154 | 76=>155 | 4=>4 | 5=>5 | 167=>201 | 37=>158 | 0=>0 | 85=>202 | 2=>2 | 168=>204 | 53=>196 | 175=>233 | 46=>167 | 210=>237 | 127=>247 | 145=>250 | 143=>248 | 21=>21 | 171=>253 | 173=>255 | 212=>258 | 51=>194 | 20=>20 | 213=>259 | 232=>261 | 233=>262 | 80=>263 | n=>n,fun | 15=>3 | 16=>4 | 17=>5 | 18=>6 | 19=>7 | n=>n⟩
theorem Tryz.lays172:Go.Proofs.Lays.n172 Tryz.prog Tryz.lays172_ren:={
 mixed:=by kernel_rfl
 f129:=Xt Tryz.func174
 f171:=Xt Tryz.func218
 f172:=Xt Tryz.func115
 f205:=Xt Tryz.func217
 f243:=Xt Tryz.func227
 f244:=Xt Tryz.func146
 f245:=Xt Tryz.func147
 f246:=Xt Tryz.func229
 f247:=Xt Tryz.func183
 f279:=Xt Tryz.func184
 f280:=Xt Tryz.func185
 f281:=Xt Tryz.func186
 f282:=Xt Tryz.func187
 f283:=Xt Tryz.func230
 f284:=Xt Tryz.func231
 f285:=Xt Tryz.func232
 f286:=Xt Tryz.func233
 f287:=Xt Tryz.func215
 f316:=Xt Tryz.func216
 f317:=Xt Tryz.func234
 f318:=Xt Tryz.func235
 f319:=Xt Tryz.func236
 f320:=Xt Tryz.func237
 f321:=Xt Tryz.func225
 f322:=Xt Tryz.func226
 f337:=Xt Tryz.func238
 f338:=Xt Tryz.func239
 t0:=Tryz.underlying0
 a0:=Tryz.isAgg0
 z0:=Tryz.sizeOf0
 v0:=Tryz.zeroValue0
 t2:=Tryz.underlying2
 a2:=Tryz.isAgg2
 z2:=Tryz.sizeOf2
 v2:=Tryz.zeroValue2
 t3:=Tryz.underlying3
 a3:=Tryz.isAgg3
 z3:=Tryz.sizeOf3
 v3:=Tryz.zeroValue3
 t4:=Tryz.underlying4
 a4:=Tryz.isAgg4
 z4:=Tryz.sizeOf4
 v4:=Tryz.zeroValue4
 t5:=Tryz.underlying5
 a5:=Tryz.isAgg5
 z5:=Tryz.sizeOf5
 v5:=Tryz.zeroValue5
 t9:=Tryz.underlying9
 a9:=Tryz.isAgg9
 z9:=Tryz.sizeOf9
 v9:=Tryz.zeroValue9
 t20:=Tryz.underlying20
 a20:=Tryz.isAgg20
 z20:=Tryz.sizeOf20
 v20:=Tryz.zeroValue20
 t21:=Tryz.underlying21
 a21:=Tryz.isAgg21
 z21:=Tryz.sizeOf21
 v21:=Tryz.zeroValue21
 t37:=Tryz.underlying158
 a37:=Tryz.isAgg158
 z37:=Tryz.sizeOf158
 v37:=Tryz.zeroValue158
 t46:=Tryz.underlying167
 a46:=Tryz.isAgg167
 z46:=Tryz.sizeOf167
 v46:=Tryz.zeroValue167
 t51:=Tryz.underlying194
 a51:=Tryz.isAgg194
 z51:=Tryz.sizeOf194
 v51:=Tryz.zeroValue194
 t53:=Tryz.underlying196
 a53:=Tryz.isAgg196
 z53:=Tryz.sizeOf196
 v53:=Tryz.zeroValue196
 t75:=Tryz.underlying154
 a75:=Tryz.isAgg154
 z75:=Tryz.sizeOf154
 v75:=Tryz.zeroValue154
 t76:=Tryz.underlying155
 a76:=Tryz.isAgg155
 z76:=Tryz.sizeOf155
 v76:=Tryz.zeroValue155
 t85:=Tryz.underlying202
 a85:=Tryz.isAgg202
 z85:=Tryz.sizeOf202
 v85:=Tryz.zeroValue202
 t127:=Tryz.underlying247
 a127:=Tryz.isAgg247
 z127:=Tryz.sizeOf247
 v127:=Tryz.zeroValue247
 t143:=Tryz.underlying248
 a143:=Tryz.isAgg248
 z143:=Tryz.sizeOf248
 v143:=Tryz.zeroValue248
 t145:=Tryz.underlying250
 a145:=Tryz.isAgg250
 z145:=Tryz.sizeOf250
 v145:=Tryz.zeroValue250
 t167:=Tryz.underlying201
 a167:=Tryz.isAgg201
 z167:=Tryz.sizeOf201
 v167:=Tryz.zeroValue201
 t168:=Tryz.underlying204
 a168:=Tryz.isAgg204
 z168:=Tryz.sizeOf204
 v168:=Tryz.zeroValue204
 t171:=Tryz.underlying253
 a171:=Tryz.isAgg253
 z171:=Tryz.sizeOf253
 v171:=Tryz.zeroValue253
 t173:=Tryz.underlying255
 a173:=Tryz.isAgg255
 z173:=Tryz.sizeOf255
 v173:=Tryz.zeroValue255
 t175:=Tryz.underlying233
 a175:=Tryz.isAgg233
 z175:=Tryz.sizeOf233
 v175:=Tryz.zeroValue233
 t210:=Tryz.underlying237
 a210:=Tryz.isAgg237
 z210:=Tryz.sizeOf237
 v210:=Tryz.zeroValue237
 t212:=Tryz.underlying258
 a212:=Tryz.isAgg258
 z212:=Tryz.sizeOf258
 v212:=Tryz.zeroValue258
 t213:=Tryz.underlying259
 a213:=Tryz.isAgg259
 z213:=Tryz.sizeOf259
 t232:=Tryz.underlying261
 a232:=Tryz.isAgg261
 z232:=Tryz.sizeOf261
 v232:=Tryz.zeroValue261
 t233:=Tryz.underlying262
 a233:=Tryz.isAgg262
 z233:=Tryz.sizeOf262
 v233:=Tryz.zeroValue262
 g15:=by kernel_rfl
 g16:=by kernel_rfl
 g17:=by kernel_rfl
 g18:=by kernel_rfl
 g19:=by kernel_rfl}
def Tryz.sorted200_ren:Go.Shelf.Ren:=⟨fun | 6=>100 | 8=>137 | 9=>138 | 11=>176 | 13=>135 | 12=>177 | 23=>173 | 24=>174 | 14=>200 | 15=>201 | 16=>202 | 17=>203 | 18=>204 | 19=>205 | 20=>206 | 21=>207 | 22=>208 | 25=>220 | 26=>196 | 27=>197 | 28=>221 | 29=>222 | 30=>223 | 31=>228 | n=>n,fun | 26=>9 | 28=>136 | 24=>22 | 0=>0 | 3=>3 | 37=>167 | 48=>194 | 50=>196 | 4=>4 | 40=>188 | 39=>187 | 45=>101 | 5=>5 | 9=>9 | 51=>219 | 55=>223 | 57=>240 | 58=>60 | 33=>98 | n=>n,fun | n=>n⟩
theorem Tryz.sorted200:Go.Proofs.SlLaysZ.n6 Tryz.prog Tryz.sorted200_ren:={
 mixed:=by kernel_rfl
 f6:=⟨Tryz.f100.name,by decide,Xt Tryz.func100⟩
 f8:=⟨Tryz.f137.name,by decide,Xt Tryz.func137⟩
 f11:=⟨Tryz.f176.name,by decide,Xt Tryz.func176⟩
 t0:=Tryz.underlying0
 a0:=Tryz.isAgg0
 z0:=Tryz.sizeOf0
 v0:=Tryz.zeroValue0
 t24:=Tryz.underlying22
 a24:=Tryz.isAgg22
 z24:=Tryz.sizeOf22
 v24:=Tryz.zeroValue22
 t26:=Tryz.underlying9
 a26:=Tryz.isAgg9
 z26:=Tryz.sizeOf9
 v26:=Tryz.zeroValue9
 t28:=Tryz.underlying136
 a28:=Tryz.isAgg136
 z28:=Tryz.sizeOf136
 v28:=Tryz.zeroValue136
 i26:=by kernel_rfl}
def Tryz.lays106_ren:Go.Shelf.Ren:=⟨fun | 106=>99 | 213=>136 | 265=>175 | n=>n,fun | 9=>9 | 3=>3 | n=>n,fun | n=>n⟩
theorem Tryz.lays106:Go.Proofs.Lays.n106 Tryz.prog Tryz.lays106_ren:={
 mixed:=by kernel_rfl
 f106:=Xt Tryz.func99
 f213:=Xt Tryz.func136
 f265:=Xt Tryz.func175
 t3:=Tryz.underlying3
 a3:=Tryz.isAgg3
 z3:=Tryz.sizeOf3
 v3:=Tryz.zeroValue3
 t9:=Tryz.underlying9
 a9:=Tryz.isAgg9
 z9:=Tryz.sizeOf9
 v9:=Tryz.zeroValue9}
def Tryz.sortf61_ren:Go.Shelf.Ren:=⟨fun | 6=>97 | 15=>135 | 14=>134 | 28=>173 | 29=>174 | 20=>165 | 21=>166 | 22=>167 | 23=>168 | 24=>169 | 25=>170 | 26=>171 | 27=>172 | 46=>195 | 47=>196 | 48=>197 | 49=>198 | 50=>199 | 57=>219 | n=>n,fun | 22=>88 | 24=>3 | 25=>133 | 3=>3 | 39=>167 | 0=>0 | 53=>194 | 55=>196 | 4=>4 | 46=>188 | 45=>187 | 50=>101 | 5=>5 | 9=>9 | 66=>219 | 70=>223 | 76=>240 | 77=>60 | n=>n,fun | n=>n⟩
theorem Tryz.sortf61:Go.Proofs.SlLaysF.n6 Tryz.prog Tryz.sortf61_ren:={
 mixed:=by kernel_rfl
 f6:=⟨Tryz.f97.name,by decide,Xt Tryz.func97⟩
 f14:=⟨Tryz.f134.name,by decide,Xt Tryz.func134⟩
 f15:=Xt Tryz.func135
 f20:=⟨Tryz.f165.name,by decide,Xt Tryz.func165⟩
 f21:=⟨Tryz.f166.name,by decide,Xt Tryz.func166⟩
 f22:=⟨Tryz.f167.name,by decide,Xt Tryz.func167⟩
 f23:=⟨Tryz.f168.name,by decide,Xt Tryz.func168⟩
 f24:=⟨Tryz.f169.name,by decide,Xt Tryz.func169⟩
 f25:=⟨Tryz.f170.name,by decide,Xt Tryz.func170⟩
 f26:=⟨Tryz.f171.name,by decide,Xt Tryz.func171⟩
 f27:=⟨Tryz.f172.name,by decide,Xt Tryz.func172⟩
 f28:=Xt Tryz.func173
 f29:=Xt Tryz.func174
 f46:=⟨Tryz.f195.name,by decide,Xt Tryz.func195⟩
 f47:=Xt Tryz.func196
 f48:=Xt Tryz.func197
 f49:=⟨Tryz.f198.name,by decide,Xt Tryz.func198⟩
 f50:=⟨Tryz.f199.name,by decide,Xt Tryz.func199⟩
 f57:=⟨Tryz.f219.name,by decide,Xt Tryz.func219⟩
 t0:=Tryz.underlying0
 a0:=Tryz.isAgg0
 z0:=Tryz.sizeOf0
 v0:=Tryz.zeroValue0
 t3:=Tryz.underlying3
 a3:=Tryz.isAgg3
 z3:=Tryz.sizeOf3
 v3:=Tryz.zeroValue3
 t4:=Tryz.underlying4
 a4:=Tryz.isAgg4
 z4:=Tryz.sizeOf4
 v4:=Tryz.zeroValue4
 t5:=Tryz.underlying5
 a5:=Tryz.isAgg5
 z5:=Tryz.sizeOf5
 v5:=Tryz.zeroValue5
 t9:=Tryz.underlying9
 a9:=Tryz.isAgg9
 z9:=Tryz.sizeOf9
 v9:=Tryz.zeroValue9
 t22:=Tryz.underlying88
 a22:=Tryz.isAgg88
 z22:=Tryz.sizeOf88
 v22:=Tryz.zeroValue88
 a24:=Tryz.isAgg3
 z24:=Tryz.sizeOf3
 t25:=Tryz.underlying133
 a25:=Tryz.isAgg133
 z25:=Tryz.sizeOf133
 v25:=Tryz.zeroValue133
 t39:=Tryz.underlying167
 a39:=Tryz.isAgg167
 z39:=Tryz.sizeOf167
 v39:=Tryz.zeroValue167
 t45:=Tryz.underlying187
 a45:=Tryz.isAgg187
 z45:=Tryz.sizeOf187
 v45:=Tryz.zeroValue187
 t46:=Tryz.underlying188
 a46:=Tryz.isAgg188
 z46:=Tryz.sizeOf188
 v46:=Tryz.zeroValue188
 t50:=Tryz.underlying101
 a50:=Tryz.isAgg101
 z50:=Tryz.sizeOf101
 v50:=Tryz.zeroValue101
 t53:=Tryz.underlying194
 a53:=Tryz.isAgg194
 z53:=Tryz.sizeOf194
 v53:=Tryz.zeroValue194
 t55:=Tryz.underlying196
 a55:=Tryz.isAgg196
 z55:=Tryz.sizeOf196
 v55:=Tryz.zeroValue196
 t66:=Tryz.underlying219
 a66:=Tryz.isAgg219
 z66:=Tryz.sizeOf219
 v66:=Tryz.zeroValue219
 t70:=Tryz.underlying223
 a70:=Tryz.isAgg223
 z70:=Tryz.sizeOf223
 v70:=Tryz.zeroValue223
 t76:=Tryz.underlying240
 a76:=Tryz.isAgg240
 z76:=Tryz.sizeOf240
 v76:=Tryz.zeroValue240
 t77:=Tryz.underlying60
 a77:=Tryz.isAgg60
 z77:=Tryz.sizeOf60
 v77:=Tryz.zeroValue60}
end Go.Proofs
end
section
namespace Go.Proofs
open Go.RowKit Go.Shelf Go.AL
variable [Tabs]
attribute [local go_sem] Oper.semAt_some
set_option maxRecDepth 100000 in
set_option maxHeartbeats 2000000 in
theorem Tryz.values1 (F:Fence) (n:Nat) (h7:F.fn 139) (hro:F.round=none) (hn:1<=n) (l Bs Bo b off len cap:Nat) (zs:List Str) (hreach:len<=maxLen) (J:List Str→World→Prop) (hBl:∀pre W,J pre W→W.cell? ⟨Bs,Bo,none⟩=some (.slice (some ⟨b,off,none⟩) len cap)/\∀j,j < len→W.cell? ⟨b,off+j,none⟩=some (encStr (zs[j]?.getD [])))
  (hY:∀pre x W,J pre W→pre.length < len→YieldAt F (n - 1) Tryz.prog l #[encStr x] W fun e W'=>e=.returned (.bool true)/\J (pre++[x]) W')
  (W:World) (h0:J [] W) :
  CallsIn F n Tryz.prog 139 #[.func (.yield l) #[] #[],.pointer (some ⟨Bs,Bo,none⟩)] W fun e W'=>(∃v,e=.returned v)/\∃ys,ys=qJ (fun j=>zs[j]?.getD []) len/\J ys W':=by
 obtain ⟨hBs,hc⟩:=hBl _ _ h0
 refine callsIn_of_wp Tryz.func139 rfl h7 ?_ hro
 simp only [Tryz.ntmps139,List.size_toArray,List.length_cons,List.length_nil,Nat.reduceAdd,Nat.reduceSub,Array.replicate_succ,Array.replicate_zero,List.push_toArray,List.append_toArray,List.nil_append,List.cons_append]
 gi_wp2
 gi_loopw [7] (fun i wr=>∃k:Nat,k<=len/\i=.int .i64 k/\J (qJ (fun j=>zs[j]?.getD []) k) wr)
  (fun i _=>len - (intOf i).toNat)
 case atStart=>exact ⟨0,Nat.zero_le _,rfl,h0⟩
 case round=>
  obtain ⟨k,hk,rfl,hJs⟩:=hrel
  have hcx:k < len→wr.cell? ⟨b,off+k,none⟩=some (encStr (zs[k]?.getD [])):=fun h=>(hBl _ _ hJs).2 k h
  by_cases hlt:k < len
  ·obtain ⟨fn,tmps,assign,body,hy,hR⟩:=hY _ (zs[k]?.getD []) wr hJs (by rw [uR];exact hlt)
   have hcx':=hcx hlt
   have hsmall:(k:Int)+1<=9223372036854775807:=by unfold maxLen at hreach;omega
   gi_wp2
   refine hR.mono ?_
   rintro e W3 ⟨rfl,hJ3⟩
   gi_wp2
   go_roundw
   case rel=>exact ⟨k+1,by omega,by simp,by rw [Am];exact hJ3⟩
   case measure=>simp [intOf];omega
  ·obtain rfl:k=len:=by omega
   gi_wp2
   go_end0
   exact ⟨⟨_,rfl⟩,_,rfl,hJs⟩
set_option maxRecDepth 100000 in
set_option maxHeartbeats 1000000 in
theorem Tryz.values1_nil (F:Fence) (n:Nat) (h7:F.fn 139) (hro:F.round=none) (l Bs Bo cap:Nat) (a:Option Addr) (J:List Str→World→Prop) (W:World) (hBs:W.cell? ⟨Bs,Bo,none⟩=some (.slice a 0 cap)) (h0:J [] W) :
  CallsIn F n Tryz.prog 139 #[.func (.yield l) #[] #[],.pointer (some ⟨Bs,Bo,none⟩)] W fun e W'=>(∃v,e=.returned v)/\J [] W':=by
 refine callsIn_of_wp Tryz.func139 rfl h7 ?_ hro
 simp only [Tryz.ntmps139,List.size_toArray,List.length_cons,List.length_nil,Nat.reduceAdd,Nat.reduceSub,Array.replicate_succ,Array.replicate_zero,List.push_toArray,List.append_toArray,List.nil_append,List.cons_append]
 gi_wp2
 gi_loopw [7] (fun i wr=>i=.int .i64 0/\J [] wr) (fun _ _=>0)
 case atStart=>exact ⟨rfl,h0⟩
 case round=>
  obtain ⟨rfl,hJs⟩:=hrel
  gi_wp2
  go_end0
  exact ⟨⟨_,rfl⟩,hJs⟩
theorem Tryz.valuesL:tj Tryz.prog 139:=by
 intro w b o sv zs hz hc hs l J W a1 a2 a3 a4 a5
 have hb:=b8 hc
 rcases hs with ⟨⟨a,cap,rfl⟩,rfl⟩ | ⟨g,off,cap,rfl,hg,hcs⟩
 ·refine (Tryz.values1_nil Fence.wide 2 trivial rfl l b o cap a J W ((a1.cell (p:=⟨b,o,none⟩) hb).trans hc) a5).mono ?_
  rintro e W' ⟨h1,h2⟩
  exact ⟨h1,[],rfl,h2⟩
 ·refine (Tryz.values1 Fence.wide 2 trivial rfl (by omega) l b o g off zs.length cap zs hz J (fun pre W1 hJ=>⟨((a3 _ _ hJ).cell (p:=⟨b,o,none⟩) hb).trans hc,fun j hj=>((a3 _ _ hJ).cell (p:=⟨g,off+j,none⟩) hg).trans (hcs j hj)⟩)
   (fun pre x W1 h1 h2=>(a4 pre x W1 h1 h2).mono fun e W' h=>⟨h.1,h.2.1⟩) W a5).mono ?_
  rintro e W' ⟨h1,ys,h2,h3⟩
  exact ⟨h1,ys,by rw [h2,Cx],h3⟩
end Go.Proofs
end
section
namespace Go.AL.Seat
open Go Go.AL Go.Proofs Go.Shelf Go.Pd
variable [Tabs]
theorem FY:SortL Tryz.prog Tryz.sorted200_ren:=
 ⟨Tryz.sorted200,⟨fun blk off cap ss W hH hblk hsz=>callsIn_wide.2 (Any.slices_Sort_string Tryz.lays190 blk off cap ss W hH hblk hsz),fun p cap W=>callsIn_wide.2 (Any.slices_Sort_string_none Tryz.lays190 p cap W)⟩,enters_of Tryz.func138 (by kernel_rfl) rfl⟩
theorem l9:aj Tryz.prog 100 (ez 139):=
 qL FY rfl (enters_of Tryz.func139 (by kernel_rfl) rfl) Tryz.valuesL (aF.mk' Tryz.func100 (by kernel_rfl))
theorem jU:aj Tryz.prog 102 eA:=qM Tryz.lays194 rfl (aF.mk' Tryz.func102 (by kernel_rfl))
theorem CH:aj Tryz.prog 115 (p1 .str fun t=>⟨some (nB t),none,.tup [.int .i64 (kP t),.nilif],[]⟩):=xz Tryz.lays172 rfl (aF.mk' Tryz.func115 (by kernel_rfl))
end Go.AL.Seat
end
section
namespace Go.AL.Seat
open Go Go.AL Go.Proofs Go.Shelf Go.Pd
class SeatLaid [Tabs]:Prop where
 max:∃m:Int,Tabs.tab 2 0 (.int .i64 m)
 utf:lO 0 1
variable [Tabs] [SeatLaid]
theorem CI:aj Tryz.prog 70 (p2 .str .str fun a b=>⟨some (b=pK),none,.str (pL a),[]⟩):=xA Tryz.lays160 (by kernel_rfl) rfl (aF.mk' Tryz.func70 (by kernel_rfl))
theorem El:aj Tryz.prog 112 (p2 .str .str fun a b=>⟨some (b=[45]/\a.length < 4294967281),none,.tup [.str (ik a),.str (l8 a),.bool (mI a)],[]⟩):=
 let ⟨_,hm⟩:=SeatLaid.max;Au Tryz.lays145 hm rfl (aF.mk' Tryz.func112 (by kernel_rfl))
theorem Av:aj Tryz.prog 113 (p2 .str .str fun a b=>⟨some (b=[46]/\a.length < 4294967281),none,.lst .str (splitB 46 a) none,[]⟩):=
 let ⟨_,hm⟩:=SeatLaid.max;vd Tryz.lays146 (by kernel_rfl) hm rfl (aF.mk' Tryz.func113 (by kernel_rfl))
theorem tu:aj Tryz.prog 119 (p2 .str .str fun a b=>⟨some (b.length=1),none,.bool (decide (b.getD 0 0∈a)),[]⟩):=pO Tryz.lays144 rfl (aF.mk' Tryz.func119 (by kernel_rfl))
theorem qR:aj Tryz.prog 117 (p2 .str (.int .u8) fun a c=>.ret (.int .i64 (CB a c))):=nX Tryz.lays137 rfl (aF.mk' Tryz.func117 (by kernel_rfl))
theorem pR:aj Tryz.prog 104 (p1 .str fun s=>.ret (.tup [.int .i32 ((jg s).1:Int),.int .i64 ((jg s).2:Int)])):=mJ Tryz.lays197 SeatLaid.utf rfl (aF.mk' Tryz.func104 (by kernel_rfl))
theorem Aw:aj Tryz.prog 128 (p1 .str fun s=>.ret (.bool (pJ s).isNone)):=vf Tryz.lays196 SeatLaid.utf rfl (aF.mk' Tryz.func128 (by kernel_rfl))
end Go.AL.Seat
end
section
namespace Go.Proofs.YtpngcclngehaiaaGreatDoor.Join
open Go.AL Go.AL.Seat Go.ChangeShapes Go.WideShapes Go.RowKit Go.Lib Go.Shelf
set_option maxRecDepth 1000000
theorem own:ownKnob Tryz.prog.godebug=none:=by kernel_rfl
theorem Em:laidOutB Tryz.prog=true:=by kernel_rfl
theorem undB:Tryz.prog.underlying 4=some .bool:=by kernel_rfl
theorem undI:Tryz.prog.underlying 3=some (.int .i64):=by kernel_rfl
theorem tv:ShapeAt Tryz.prog 34:=⟨_,_,_,_,_,9,Tryz.underlying34,by kernel_rfl,⟨rfl,rfl,rfl,rfl,rfl⟩,⟨by kernel_rfl,by kernel_rfl,by kernel_rfl,by kernel_rfl,by kernel_rfl⟩,by kernel_rfl,by kernel_rfl,by kernel_rfl,by kernel_rfl,by kernel_rfl,by kernel_rfl,by kernel_rfl⟩
theorem Fo:BindAt Tryz.prog 42:=⟨_,_,_,Tryz.underlying42,by kernel_rfl,⟨rfl,rfl,rfl⟩,⟨by kernel_rfl,by kernel_rfl,by kernel_rfl⟩,by kernel_rfl,by kernel_rfl,tv⟩
theorem FZ:EnvAt Tryz.prog 29:=⟨_,_,_,_,42,Tryz.underlying29,by kernel_rfl,⟨rfl,rfl,rfl,rfl⟩,⟨by kernel_rfl,by kernel_rfl,by kernel_rfl,by kernel_rfl⟩,by kernel_rfl,⟨by kernel_rfl,by kernel_rfl,by kernel_rfl⟩,Fo⟩
theorem G0:Tryz.prog.readableRec 29=true:=by kernel_rfl
theorem dJ:40 < Tryz.prog.types.size:=Xo (by kernel_rfl)
def laid:List (String × DataW Unit):=Rows.synthWeakerRow.laid
theorem G1:(Rows.laid_unicode_utf8_acceptRanges:DataW Unit)=acceptData:=by kernel_rfl
theorem G2 {W:World} (h:W.ShapedOpen Tryz.prog):∃m,W.cell? ⟨2,0,none⟩=some (.int .i64 m):=
 cell_of_shapedOpen_int (t:=3) (zero:=#[.int .i64 0]) h (Xo (by kernel_rfl)) (by kernel_rfl) rfl (by kernel_rfl) (by kernel_rfl) undI
theorem G3 {W:World} (h:laidMet Tryz.prog laid W):Utf8Tabs 0 1 W:=
 utf8Tabs_of_readsT (ρ:=Tryz.lays196_ren) (U8Types.of196 Tryz.lays196) ⟨by kernel_rfl,by kernel_rfl,by kernel_rfl,by kernel_rfl,by kernel_rfl,by kernel_rfl,by kernel_rfl⟩
  (Pinned.utf8First_eq ▸ laidMet.reads h (by simp [laid,Rows.synthWeakerRow,Rows.laid_unicode_utf8_first])) (G1 ▸ laidMet.reads h (by simp [laid,Rows.synthWeakerRow]))
theorem CJ {W:World} (h:laidMet Tryz.prog laid W) (hs:W.ShapedOpen Tryz.prog):@SeatLaid (pD W):=by
 letI:Tabs:=pD W
 obtain ⟨m,hm⟩:=G2 hs
 obtain ⟨u1,u2⟩:=G3 h
 exact ⟨⟨m,by decide,hm⟩,fun c hc=>⟨by decide,u1 c hc⟩,fun i hi=>⟨⟨by decide,(u2 i hi).1⟩,by decide,(u2 i hi).2⟩⟩
def z32:List Int:=[0,1,28,2,29,14,24,3,30,22,20,15,25,17,4,8,31,27,13,23,21,19,16,7,26,12,18,6,11,5,10,9]
def z64:List Int:=[0,1,56,2,57,49,28,3,61,58,42,50,38,29,17,4,62,47,59,36,45,43,51,22,53,39,33,30,24,18,12,5,63,55,48,27,60,41,37,16,46,35,44,21,52,32,23,11,54,26,40,15,34,20,31,10,25,14,19,9,13,8,7,6]
def zPow:List Int:=[1,10,100,1000,10000,100000,1000000,10000000,100000000,1000000000,10000000000,100000000000,1000000000000,10000000000000,100000000000000,1000000000000000,10000000000000000,100000000000000000,1000000000000000000,10000000000000000000]
def zAcc:List Int:=[128,191,160,191,128,159,144,191,128,143,0,0,0,0,0,0,0,0,0,0,0,0,0,0,0,0,0,0,0,0,0,0]
def Fp:List Int:=List.map Int.ofNat Pinned.utf8FirstZ
noncomputable def kq (os:Os):World:=
 let N:=(World.settled Tryz.prog os).heap.size
 let w0:=World.holding Tryz.prog os ⟨#[.cells #[.string ⟨#[118,97,108,117,101,32,111,117,116,32,111,102,32,114,97,110,103,101]⟩] 250,.cells #[.string ⟨#[105,110,118,97,108,105,100,32,115,121,110,116,97,120]⟩] 250],#[],[]⟩
 let put (h:Array Obj) (g:Nat) (cs:Array Value):Array Obj:=h.modify g fun
  | .cells _ t frozen=>.cells cs t frozen
  | o=>o
 let h0:=put (put w0.heap 3 #[.iface 248 (.pointer (some ⟨N+1,0,none⟩))]) 4 #[.iface 248 (.pointer (some ⟨N,0,none⟩))]
 let h1:=put (put (put h0 5 (zPow.map (Value.int .u64)).toArray) 6 (z32.map (Value.int .u8)).toArray) 7 (z64.map (Value.int .u8)).toArray
 let h2:=put (put h1 0 (Fp.map (Value.int .u8)).toArray) 1 (zAcc.map (Value.int .u8)).toArray
 {w0 with heap:=h2}
noncomputable abbrev N0:Nat:=(World.settled Tryz.prog default).heap.size
theorem Fq (os:Os) (args:Array Value):LaidIn Tryz.prog ((kq os).forCall (fun _ _=>0) ⟨#[],args,[]⟩).memory laid [6,7,5,1,4,N0,3,N0+1,0]:=
 LaidIn.of_run [6,7,5,1,4,N0,3,N0+1,0] 10 (by kernel_rfl) (by kernel_rfl) (by kernel_rfl) (by kernel_rfl)
theorem CK (os:Os) (args:Array Value):laidMet Tryz.prog laid ((kq os).forCall (fun _ _=>0) ⟨#[],args,[]⟩).memory:=(Fq os args).met
end Go.Proofs.YtpngcclngehaiaaGreatDoor.Join
end
section
namespace Go.Pd
open Go.AL
def fh (b:UInt8):Bool:=!(decide (bI b < 32) && !decide (bI b=10) && !decide (bI b=9))
def pS (s:Str):Bool:=s.all fh && (pJ s).isNone
def cn (s:Shape):Bool:=decide (aq s=0) && allS bw s
def gd (t:Trm) (n v s p:Nat):Bool:=decide (t.names.length=n) && decide (t.vars.length=v) && decide (t.shapes.length=s) && decide (t.parts.length=p)
def hD (t:Trm):Bool:=decide (0<=t.pos) && (decide (t.n=0) || decide (t.kind=1)) && (decide (t.pkg=[]) || decide (t.kind=5)) && t.shapes.all cn
def tw (l:List Str):Bool:=l.all ba && decide l.Nodup
def zr (t:Trm):Bool:=
 if t.kind=1 then decide (t.name=[]) && decide (0<=t.n) && decide (t.n<=999999999999999) && gd t 0 0 0 0
 else if t.kind=2 then pS t.name && gd t 0 0 0 0
 else if t.kind=3∨t.kind=4 then decide (t.name=[]) && gd t 0 0 0 0
 else if t.kind=5 then ba t.name && (decide (t.pkg=[]) || ba t.pkg) && gd t 0 0 0 0
 else if t.kind=6 then decide (t.name=[]) && decide (t.names.length<=4096) && tw t.names && gd t t.names.length 0 t.names.length 1
 else if t.kind=7 then decide (t.name=[]) && decide (0 < t.parts.length) && gd t 0 0 0 t.parts.length
 else if t.kind=8 then decide (t.name=[]) && tw t.names && gd t t.names.length 0 0 t.names.length
 else if t.kind=9∨t.kind=10 then ba t.name && gd t 0 0 0 1
 else if t.kind=11 then decide (t.name=[]) && gd t 0 0 1 t.parts.length
 else if t.kind=12 then decide (t.name=[]) && gd t 0 0 1 3
 else if t.kind=13 then decide (t.name=[]) && tw t.names && t.vars.all ba && gd t t.names.length t.names.length (t.names.length+1) (t.names.length+1)
 else if t.kind=14 then ba t.name && gd t 0 0 0 2
 else if t.kind=15 then decide (t.name=[]) && gd t 0 0 1 1
 else if t.kind=16∨t.kind=17 then fc t.name && gd t 0 0 0 1
 else false
def ak (t:Trm):Bool:=hD t && zr t
mutual
def allT (f:Trm→Bool):Trm→Bool
 | ⟨k,g,q,z,ns,vs,ss,ps,pp⟩=>f ⟨k,g,q,z,ns,vs,ss,ps,pp⟩ && allTL f ps
def allTL (f:Trm→Bool):List Trm→Bool
 | []=>true
 | p ::r=>allT f p && allTL f r
end
theorem allT_eq (f:Trm→Bool) (t:Trm):allT f t=(f t && allTL f t.parts):=by cases t;rw [allT]
theorem allTL_all (f:Trm→Bool):∀l:List Trm,allTL f l=l.all (allT f)
 | []=>rfl
 | p ::r=>by rw [List.all_cons,←allTL_all f r];rw [allTL]
def fewT (t:Trm):Bool:=allT (fun x=>decide (x.names.length<=8796093022208)) t
theorem Ax {t x:Trm} (h:fewT t=true) (hx:x∈t.parts):fewT x=true:=by
 unfold fewT at h ⊢
 rw [allT_eq,Bool.and_eq_true,allTL_all] at h
 exact List.all_eq_true.1 h.2 x hx
theorem xC {t:Trm} (h:fewT t=true):t.names.length<=8796093022208:=by
 unfold fewT at h
 rw [allT_eq,Bool.and_eq_true] at h
 exact Xo h.1
def dA (t:Trm):Int:=
 if 4096 < (countT t 4096).1 then 3 else if 40 < (countT t 4096).2 then 91 else if allT ak t=true then 0 else 80
end Go.Pd
namespace Go.Pd
open Go.AL
theorem dnZ (n:Nat):decide ((n:Int)=0)=decide (n=0):=decide_eq_decide.2 (by omega)
theorem dn1 (n:Nat):decide ((n:Int)=1)=decide (n=1):=decide_eq_decide.2 (by omega)
theorem dn2 (n:Nat):decide ((n:Int)=2)=decide (n=2):=decide_eq_decide.2 (by omega)
theorem dn3 (n:Nat):decide ((n:Int)=3)=decide (n=3):=decide_eq_decide.2 (by omega)
theorem dnN (n m:Nat):decide ((n:Int)=(m:Int))=decide (n=m):=decide_eq_decide.2 (by omega)
theorem dnS (n m:Nat):decide ((n:Int)=(m:Int)+1)=decide (n=m+1):=decide_eq_decide.2 (by omega)
theorem dnL (n:Nat):decide ((n:Int)<=4096)=decide (n<=4096):=decide_eq_decide.2 (by omega)
theorem dnP (n:Nat):decide ((0:Int) < (n:Int))=decide (0 < n):=decide_eq_decide.2 (by omega)
theorem vg (s:Str) (k:Nat) (h:k < s.length):(bq s).getD k (dfl (Ty.int IntKind.u8))=bI (s.getD k 0):=by
 unfold bq
 simp [List.getD_eq_getElem?_getD,h,bI]
theorem Ay (b:UInt8):fh b=false↔(bI b < 32/\bI b≠10/\bI b≠9):=by
 unfold fh
 simp only [Bool.not_eq_false',Bool.and_eq_true,decide_eq_true_eq,Bool.not_eq_true',decide_eq_false_iff_not]
 omega
end Go.Pd
end
noncomputable section
namespace Go.AL
open Go.ChangeShapes Go.WideShapes Go.RowKit
variable [Tabs]
structure GoodR {H:Type} (P:Program) (N M:Nat) (g:TypeId→DataW H→Prop):Prop where
 str:∀t s,P.underlying t=some .string→g t (.lit (.string s))→s.length<=M
 len:∀t e es sp,P.underlying t=some (.slice e)→g t (.slice es sp)→P.bytesOf e=16→es.length<=N
 el:∀t e es sp,P.underlying t=some (.slice e)→g t (.slice es sp)→∀x∈es,g e x
 part:∀t fs ps,P.underlying t=some (.struct fs)→g t (.agg ps)→∀(i:Nat) (f:Field) p,fs[i]?=some f→ps[i]?=some p→g f.type p
variable {H:Type} {enc:TypeId × Value→H} {P:Program} {w:World} {base:Nat} {held:Bool}
theorem Fs {N M:Nat} {g:TypeId→DataW H→Prop} (hb:GoodR P N M g) {t e:TypeId} {τ:Ty} {Q:den τ→Prop} {fuel:Nat} {cs:List Value} {x:DataW H × List MemPlace} (ht:P.underlying t=some (.slice e)) (hc:P.cellsOf e=ah τ) (h:DataW.trod enc P w base (fun _=>true) held fuel t cs=some x) (hg:g t x.1)
  (hel:∀(n:Nat) (ds:List Value) (y:DataW H × List MemPlace),fuel=n+1→DataW.trod enc P w base (fun _=>true) held n e ds=some y→g e y.1→∃z:den τ,VL (Om0 w) (cells τ z) ds/\Q z)
  (hsp:∀a len cap,cs=[.slice (some a) len cap]→a.spot=none):∃(l:List (den τ)) (v:Value),cs=[v]/\V (Om0 w) (.lst τ l none) v/\(P.bytesOf e=16→l.length<=N)/\∀z∈l,Q z:=by
 rcases DataW.trod_slice ht h with ⟨rfl,_⟩ | ⟨a,len,cap,elems,rest,n,hfu,rfl,hx,_,hlc,hcm,hlen,hels,_,_⟩
 ·exact ⟨[],_,rfl,.lstNil τ none (fun id hid=>by cases hid),fun _=>Nat.zero_le _,fun z hz=>by cases hz⟩
 ·have hs:=hsp a len cap rfl
  obtain ⟨bl,off,spot⟩:=a
  simp only at hs
  subst hs
  have each:∀i,i < len→∃z:den τ,∃ds:List Value,ds.length=ah τ/\(∀j,j < ah τ→w.cell? ⟨bl,off+(i *ah τ+j),none⟩=ds[j]?)/\VL (Om0 w) (cells τ z) ds/\Q z:=by
   intro i hi
   have h1:=hels i hi
   obtain ⟨y,hy⟩:∃y,elems[i]?=some y:=⟨_,List.getElem?_eq_getElem (by omega)⟩
   rw [hy,hc,Option.bind_eq_some_iff] at h1
   obtain ⟨ds,hd,hy'⟩:=h1
   obtain ⟨_,hdl,hdc⟩:=World.cells?_some hd
   obtain ⟨z,hz,hq⟩:=hel n ds y hfu hy' (by
    rw [hx] at hg
    exact hb.el _ _ _ _ ht hg _ (List.mem_map_of_mem (List.mem_of_getElem? hy)))
   refine ⟨z,ds,hdl,fun j hj=>?_,hz,hq⟩
   have:=hdc j hj
   have ha:∀(o n:Nat),(⟨bl,o,none⟩:Addr).add n=⟨bl,o+n,none⟩:=by
    intro o n
    unfold Addr.add
    by_cases h0:n=0
    ·subst h0;rfl
    ·rw [if_neg h0]
   rw [ha,ha,Nat.add_assoc] at this
   exact this
  have hz:∃l:List (den τ),l.length=len/\∀i z,l[i]?=some z→∃ds:List Value,ds.length=ah τ/\(∀j,j < ah τ→w.cell? ⟨bl,off+(i *ah τ+j),none⟩=ds[j]?)/\VL (Om0 w) (cells τ z) ds/\Q z:=by
   refine ⟨(List.range len).attach.map fun i=>(each i.1 (List.mem_range.1 i.2)).choose,by simp,fun i z hi=>?_⟩
   have hil:i < len:=by
    have:=(List.getElem?_eq_some_iff.1 hi).1
    simpa using this
   simp only [List.getElem?_map,Option.map_eq_some_iff] at hi
   obtain ⟨⟨k,hk⟩,h1,h2⟩:=hi
   have hki:k=i:=by
    have:=List.getElem?_eq_some_iff.1 h1
    obtain ⟨_,e⟩:=this
    have:=congrArg Subtype.val e
    simpa using this.symm
   subst hki
   rw [←h2]
   exact (each k (List.mem_range.1 hk)).choose_spec
  obtain ⟨l,hll,hle⟩:=hz
  have hQ:∀z∈l,Q z:=fun z hz=>by
   obtain ⟨i,hi⟩:=List.getElem?_of_mem hz
   obtain ⟨_,_,_,_,hq⟩:=hle i z hi
   exact hq
  have hL:P.bytesOf e=16→l.length<=N:=fun h16=>by
   rw [hx] at hg
   rw [hll,←hlen]
   have:=hb.len _ _ _ _ ht hg h16
   rwa [List.length_map] at this
  refine ⟨l,_,rfl,?_,hL,hQ⟩
  have key:=V.lst (Ω:=Om0 w) τ l none bl off cap (fun i j=>(w.cell? ⟨bl,off+(i *ah τ+j),none⟩).getD undef) (by omega) (by unfold maxLen at hcm;unfold bE;omega) (fun id hid=>by cases hid) (fun i z hz j c hj=>?_) (fun i z hz j c hj=>?_)
  ·rw [hll] at key
   exact key
  ·obtain ⟨ds,d1,d2,d3,_⟩:=hle i z hz
   have hjw:j < ah τ:=by
    rw [←b5 τ z]
    exact (List.getElem?_eq_some_iff.1 hj).1
   have hv:w.cell? ⟨bl,off+(i *ah τ+j),none⟩=some ds[j]:=by rw [d2 j hjw];exact List.getElem?_eq_getElem (by omega)
   refine ⟨⟨_,hv⟩,?_⟩
   show w.cell? _=_
   rw [hv];rfl
  ·obtain ⟨ds,d1,d2,d3,_⟩:=hle i z hz
   have hjw:j < ah τ:=by
    rw [←b5 τ z]
    exact (List.getElem?_eq_some_iff.1 hj).1
   have hd:ds[j]?=some ds[j]:=List.getElem?_eq_getElem (by omega)
   rw [d2 j hjw,hd]
   exact d3.2 j c ds[j] hj hd
theorem zt {N M:Nat} {g:TypeId→DataW H→Prop} (hb:GoodR P N M g) {t e:TypeId} {τ:Ty} {Q:den τ→Prop} {fuel:Nat} {cs:List Value} {x:DataW H × List MemPlace} (ht:P.underlying t=some (.slice e)) (hc:P.cellsOf e=ah τ) (hw:0 < ah τ)
  (h:DataW.trod enc P w base (fun _=>true) held fuel t cs=some x) (hg:g t x.1)
  (hel:∀(n:Nat) (ds:List Value) (y:DataW H × List MemPlace),fuel=n+1→DataW.trod enc P w base (fun _=>true) held n e ds=some y→g e y.1→∃z:den τ,VL (Om0 w) (cells τ z) ds/\Q z) :
  ∃(l:List (den τ)) (v:Value),cs=[v]/\V (Om0 w) (.lst τ l none) v/\(P.bytesOf e=16→l.length<=N)/\∀z∈l,Q z:=by
 have h0:=h
 rcases DataW.trod_slice ht h with ⟨rfl,_⟩ | ⟨a,len,cap,elems,rest,n,hfu,rfl,_,_,hlc,hcm,hlen,hels,hrest,_⟩
 ·exact ⟨[],_,rfl,.lstNil τ none (fun id hid=>by cases hid),fun _=>Nat.zero_le _,fun z hz=>by cases hz⟩
 ·by_cases hcap:cap=0
  ·have:len=0:=by omega
   subst hcap this
   exact ⟨[],_,rfl,.lstVoid τ a,fun _=>Nat.zero_le _,fun z hz=>by cases hz⟩
  ·refine Fs hb ht hc h0 hg hel fun a' len' cap' e'=>?_
   simp only [List.cons.injEq,Value.slice.injEq,Xs,and_true] at e'
   obtain ⟨rfl,rfl,rfl⟩:=e'
   have hr:∃(ad:Addr) (y:DataW H × List MemPlace),ad=a/\(w.cells? base ad (P.cellsOf e)).bind (DataW.trod enc P w base (fun _=>true) held n e)=some y:=by
    by_cases hl:len=0
    ·obtain ⟨r1,r2⟩:=hrest rfl
     have:=r2 0 (by omega)
     rw [hl] at this
     refine ⟨_,_,?_,this.trans (List.getElem?_eq_getElem (by omega))⟩
     simp [Addr.add]
    ·have:=hels 0 (by omega)
     refine ⟨_,_,?_,this.trans (List.getElem?_eq_getElem (by omega))⟩
     simp [Addr.add]
   obtain ⟨ad,y,rfl,hy⟩:=hr
   rw [Option.bind_eq_some_iff] at hy
   obtain ⟨ds,hd,_⟩:=hy
   obtain ⟨_,hdl,hdc⟩:=World.cells?_some hd
   have:=hdc 0 (by rw [hc];exact hw)
   have ha:ad.add 0=ad:=by simp [Addr.add]
   rw [ha,List.getElem?_eq_getElem (by rw [hdl,hc];exact hw)] at this
   unfold World.cell? at this
   split at this
   ·split at this
    ·cases this
    ·rename_i hs
     cases hsp:ad.spot
     ·rfl
     ·rw [hsp] at hs;exact absurd rfl hs
   ·cases this
theorem CL {N M:Nat} {g:TypeId→DataW H→Prop} (hb:GoodR P N M g) {sp:Nat→Bool} {t:TypeId} {fs:Array Field} {fuel:Nat} {cs:List Value} {x:DataW H × List MemPlace} (ht:P.underlying t=some (.struct fs)) (h:DataW.trod enc P w base sp held fuel t cs=some x) (hg:g t x.1) :
  ∃n,fuel=n+1/\cs.length=P.cellsOf t/\∀(i:Nat) (f:Field),fs[i]?=some f→∃y,DataW.trod enc P w base sp held n f.type ((cs.drop f.offset).take (P.cellsOf f.type))=some y/\g f.type y.1:=by
 obtain ⟨xs,n,hn,hx,hl,hs,hf⟩:=DataW.trod_struct ht h
 refine ⟨n,hn,hl,fun i f hif=>?_⟩
 have hi:i < xs.length:=by
  rw [hs]
  rcases Nat.lt_or_ge i fs.size with k | k
  ·exact k
  ·rw [Array.getElem?_eq_none k] at hif;cases hif
 refine ⟨xs[i],by rw [hf i f hif];exact List.getElem?_eq_getElem hi,?_⟩
 rw [hx] at hg
 exact hb.part _ _ _ ht hg i f _ hif (by rw [List.getElem?_map,List.getElem?_eq_getElem hi];rfl)
theorem Ft {N M:Nat} {g:TypeId→DataW H→Prop} (hb:GoodR P N M g) {sp:Nat→Bool} {t:TypeId} {fuel:Nat} {cs:List Value} {x:DataW H × List MemPlace} (ht:P.underlying t=some .string) (h:DataW.trod enc P w base sp held fuel t cs=some x) (hg:g t x.1) :
  ∃(s:Str) (v:Value),cs=[v]/\V (Om0 w) (.str s) v/\s.length<=M:=by
 obtain ⟨s,rfl,hx,hw⟩:=DataW.trod_string ht h
 refine ⟨s.data.toList,_,rfl,?_,by rw [hx] at hg;exact hb.str _ _ ht hg⟩
 have e:s=⟨s.data.toList.toArray⟩:=by cases s;simp
 have hl:s.data.toList.length<=bE:=by
  have:s.data.size=s.size:=rfl
  unfold maxLen at hw
  unfold bE
  simp only [Array.length_toList,this]
  omega
 have:=V.str (Ω:=Om0 w) s.data.toList hl
 rw [←e] at this
 exact this
structure TermAt (P:Program) (t:TypeId):Prop where
 ex:∃(f0 f1 f2 f3 f4 f5 f6 f7 f8:Field) (e g:TypeId),P.underlying t=some (.struct #[f0,f1,f2,f3,f4,f5,f6,f7,f8])/\P.cellsOf t=9/\
  (f0.offset=0/\f1.offset=1/\f2.offset=2/\f3.offset=3/\f4.offset=4/\f5.offset=5/\f6.offset=6/\f7.offset=7/\f8.offset=8)/\
  (P.cellsOf f0.type=1/\P.cellsOf f1.type=1/\P.cellsOf f2.type=1/\P.cellsOf f3.type=1/\P.cellsOf f4.type=1/\P.cellsOf f5.type=1/\P.cellsOf f6.type=1/\P.cellsOf f7.type=1/\P.cellsOf f8.type=1)/\
  (P.underlying f0.type=some (.int .i64)/\P.underlying f1.type=some .string/\P.underlying f2.type=some .string/\P.underlying f3.type=some (.int .i64)/\P.underlying f4.type=some (.slice e)/\P.underlying f5.type=some (.slice e)/\
   P.underlying f6.type=some (.slice g)/\P.underlying f7.type=some (.slice t)/\P.underlying f8.type=some (.int .i64))/\(P.underlying e=some .string/\P.cellsOf e=1/\P.bytesOf e=16)/\ShapeAt P g
def mK (N M:Nat) (x:Trm):Bool:=decide (x.names.length<=N) && decide (x.name.length<=M)
theorem Fu {N M:Nat} {g:TypeId→DataW H→Prop} (hb:GoodR P N M g) {t:TypeId} (hs:TermAt P t):∀(fuel:Nat) (cs:List Value) (x:DataW H × List MemPlace),DataW.trod enc P w base (fun _=>true) held fuel t cs=some x→g t x.1→
  ∃s:Trm,VL (Om0 w) (cells (.st .term) s) cs/\Pd.allT (mK N M) s=true:=by
 obtain ⟨f0,f1,f2,f3,f4,f5,f6,f7,f8,e,e6,ht,hc,⟨o0,o1,o2,o3,o4,o5,o6,o7,o8⟩,⟨c0,c1,c2,c3,c4,c5,c6,c7,c8⟩,⟨u0,u1,u2,u3,u4,u5,u6,u7,u8⟩,⟨us,ce,b16⟩,hg⟩:=hs
 have cg:P.cellsOf e6=ah (.st .shape):=by obtain ⟨_,_,_,_,_,_,_,hc,_⟩:=hg;rw [hc];rfl
 intro fuel
 induction fuel using Nat.strongRecOn with
 | _ fuel ih=>
 intro cs x h hN
 obtain ⟨n,hn,hl,hf⟩:=CL hb ht h hN
 rw [hc] at hl
 obtain ⟨y0,h0,_⟩:=hf 0 f0 rfl
 obtain ⟨y1,h1,_⟩:=hf 1 f1 rfl
 obtain ⟨y2,h2,b2⟩:=hf 2 f2 rfl
 obtain ⟨y3,h3,_⟩:=hf 3 f3 rfl
 obtain ⟨y4,h4,b4⟩:=hf 4 f4 rfl
 obtain ⟨y5,h5,_⟩:=hf 5 f5 rfl
 obtain ⟨y6,h6,_⟩:=hf 6 f6 rfl
 obtain ⟨y7,h7,b7⟩:=hf 7 f7 rfl
 obtain ⟨y8,h8,_⟩:=hf 8 f8 rfl
 match cs,hl with
 | [a0,a1,a2,a3,a4,a5,a6,a7,a8],_=>
  rw [o0,c0] at h0
  rw [o1,c1] at h1
  rw [o2,c2] at h2
  rw [o3,c3] at h3
  rw [o4,c4] at h4
  rw [o5,c5] at h5
  rw [o6,c6] at h6
  rw [o7,c7] at h7
  rw [o8,c8] at h8
  simp only [List.drop_zero,List.drop_succ_cons,List.take_succ_cons,List.take_zero] at h0 h1 h2 h3 h4 h5 h6 h7 h8
  obtain ⟨k,e0,v0⟩:=zo u0 h0
  obtain ⟨p,w1,e1,v1⟩:=nz u1 h1
  obtain ⟨m,w2,e2,v2,l2⟩:=Ft hb u2 h2 b2
  obtain ⟨z,e3,v3⟩:=zo u3 h3
  have strs:∀(n:Nat) (ds:List Value) (y:DataW H × List MemPlace),DataW.trod enc P w base (fun _=>true) held n e ds=some y→∃z:den .str,VL (Om0 w) (cells .str z) ds:=fun n ds y hy=>by
   obtain ⟨s,v,rfl,hv⟩:=nz us hy
   exact ⟨s,VL.cons hv .nil⟩
  obtain ⟨ns,w4,e4,v4,l4,_⟩:=zt (τ:=.str) (Q:=fun _=>True) hb u4 ce (by decide) h4 b4 (fun n ds y _ hy _=>by obtain ⟨z,hz⟩:=strs n ds y hy;exact ⟨z,hz,trivial⟩)
  obtain ⟨vs,w5,e5,v5⟩:=l0 (τ:=.str) u5 ce (by decide) h5 (fun n ds y _ hy=>strs n ds y hy)
  obtain ⟨ss,w6,e6,v6⟩:=l0 (τ:=.st .shape) u6 cg (by decide) h6 (fun n ds y _ hy=>te hg n ds y hy)
  obtain ⟨ps,w7,e7,v7,_,q7⟩:=zt (τ:=.st .term) (Q:=fun s=>Pd.allT (mK N M) s=true) hb u7 (by rw [hc];rfl) (by decide) h7 b7 (fun k ds y hk hy hle=>ih k (by omega) ds y hy hle)
  obtain ⟨at_,e8,v8⟩:=zo u8 h8
  simp only [List.cons.injEq,and_true] at e0 e1 e2 e3 e4 e5 e6 e7 e8
  subst e0 e1 e2 e3 e4 e5 e6 e7 e8
  refine ⟨⟨k,p,m,z,ns,vs,ss,ps,at_⟩,VL.cons v0 (VL.cons v1 (VL.cons v2 (VL.cons v3 (VL.cons v4 (VL.cons v5 (VL.cons v6 (VL.cons v7 (VL.cons v8 .nil)))))))),?_⟩
  rw [Pd.allT_eq,Bool.and_eq_true,Pd.allTL_all,List.all_eq_true]
  refine ⟨?_,q7⟩
  unfold mK
  rw [Xd (show ns.length<=N from l4 b16),Xd (show m.length<=M from l2)]
  rfl
theorem Az {N M:Nat} {g:TypeId→DataW H→Prop} (hb:GoodR P N M g) {t:TypeId} (hs:TermAt P t) {r:Reach} {b0:Nat} {v:Value} {d:DataW H} {ps:List MemPlace} (hv:Value.okWide P w r b0 t v) (h:DataW.Trod enc P w base (fun _=>true) held t v d ps) (hg:g t d):∃s:Trm,V (Om0 w) (.st .term s) v/\Pd.allT (mK N M) s=true:=by
 obtain ⟨fu,h⟩:=h
 obtain ⟨s,hs',hq⟩:=Fu hb hs _ _ _ h hg
 refine ⟨s,.st .term s v ?_,hq⟩
 have hl:=hs'.1
 have hc:(cells (.st .term) s).length=9:=rfl
 rw [hc] at hl
 cases v with
 | agg vs=>
  have:=V.of_agg hs'
  simpa [Value.cells] using this
 | _=>simp [Value.cells] at hl
def Fv (P:Program) (t:TypeId) (d:DataW H):Prop:=∀n∈d.weights P t,n<=reachBytes
theorem nG {P:Program} {e:TypeId}:∀{ds:List (DataW H)} {x:DataW H},x∈ds→∀n∈x.weights P e,n∈DataW.weightsAll P e ds
 | d ::r,x,hx,n,hn=>by
  unfold DataW.weightsAll
  rcases List.mem_cons.1 hx with rfl | hx
  ·exact List.mem_append.2 (.inl hn)
  ·exact List.mem_append.2 (.inr (nG hx n hn))
theorem jh {P:Program}:∀{ts:List TypeId} {ds:List (DataW H)} {i:Nat} {t:TypeId} {x:DataW H},ts[i]?=some t→ds[i]?=some x→∀n∈x.weights P t,n∈DataW.weightsEach P ts ds
 | [],_,i,t,x,h,_,_,_=>by simp at h
 | _ ::_,[],i,t,x,_,h,_,_=>by simp at h
 | t' ::ts,d ::ds,0,t,x,h,g,n,hn=>by
  simp only [List.getElem?_cons_zero,Xs] at h g
  subst h g
  unfold DataW.weightsEach
  exact List.mem_append.2 (.inl hn)
 | t' ::ts,d ::ds,i+1,t,x,h,g,n,hn=>by
  simp only [List.getElem?_cons_succ] at h g
  unfold DataW.weightsEach
  exact List.mem_append.2 (.inr (jh h g n hn))
theorem xD (P:Program):GoodR (H:=H) P 8796093022208 140737488355328 (Fv P) where
 str t s ht h:=by
  have:=h s.length (by unfold DataW.weights;exact .head _)
  unfold reachBytes at this
  omega
 len t e es sp ht h h16:=by
  have:=h ((es.length+sp.length) *P.bytesOf e) (by unfold DataW.weights;rw [ht];exact .head _)
  rw [h16] at this
  unfold reachBytes at this
  omega
 el t e es sp ht h x hx n hn:=h n (by
  unfold DataW.weights
  rw [ht]
  exact .tail _ (List.mem_append.2 (.inl (nG hx n hn))))
 part t fs ps ht h i f p hf hp n hn:=h n (by
  unfold DataW.weights
  rw [ht]
  refine jh (i:=i) (t:=f.type) ?_ hp n hn
  rw [List.getElem?_map,Array.getElem?_toList,hf]
  rfl)
theorem rG {M:Nat}:∀(n:Nat) (s:Trm),Pd.szT s<=n→Pd.allT (mK 8796093022208 M) s=true→Pd.fewT s=true
 | 0,s,h,_=>by have:=Pd.szT_pos s;omega
 | n+1,s,h,ha=>by
  unfold Pd.fewT
  rw [Pd.allT_eq,Bool.and_eq_true,Pd.allTL_all,List.all_eq_true] at ha ⊢
  refine ⟨?_,fun x hx=>?_⟩
  ·have:=ha.1
   unfold mK at this
   rw [Bool.and_eq_true] at this
   exact this.1
  ·have h1:=Pd.szT_mem hx
   have h2:=Pd.szT_eq s
   exact rG n x (by omega) (ha.2 x hx)
end Go.AL
end
noncomputable section
namespace Go.AL
open Go.ChangeShapes Go.WideShapes Go.RowKit
variable [Tabs]
variable {H:Type} {enc:TypeId × Value→H} {P:Program} {w:World} {base:Nat} {held:Bool}
theorem CM {t e:TypeId} (ht:P.underlying t=some (.slice e)) (hi:ShapeAt P e) {r:Reach} {b0 fuel:Nat} {v:Value} {x:DataW H × List MemPlace} (hv:Value.okWide P w r b0 t v)
  (h:DataW.trod enc P w base (fun _=>true) held fuel t v.cells.toList=some x):∃l:List Shape,V (Om0 w) (.lst (.st .shape) l none) v:=by
 obtain ⟨l,u,e',hl⟩:=EV (τ:=.st .shape) ht (by obtain ⟨_,_,_,_,_,_,_,hc,_⟩:=hi;rw [hc];rfl) h (fun n ds y _ hy=>te hi n ds y hy) (Cu ht hv)
 rw [Ef ht hv] at e'
 simp only [List.cons.injEq,and_true] at e'
 subst e'
 exact ⟨l,hl⟩
end Go.AL
end
section
namespace Go.Proofs.YtpngcclngehaiaaGreatDoor.Join
open Go.AL Go.AL.Seat Go.ChangeShapes Go.WideShapes Go.RowKit Go.Lib Go.Shelf
set_option maxRecDepth 1000000
theorem Fw:TermAt Tryz.prog 26:=⟨_,_,_,_,_,_,_,_,_,9,34,Tryz.underlying26,by kernel_rfl,⟨rfl,rfl,rfl,rfl,rfl,rfl,rfl,rfl,rfl⟩,⟨by kernel_rfl,by kernel_rfl,by kernel_rfl,by kernel_rfl,by kernel_rfl,by kernel_rfl,by kernel_rfl,by kernel_rfl,by kernel_rfl⟩,
 ⟨by kernel_rfl,by kernel_rfl,by kernel_rfl,by kernel_rfl,by kernel_rfl,by kernel_rfl,by kernel_rfl,by kernel_rfl,by kernel_rfl⟩,⟨by kernel_rfl,by kernel_rfl,by kernel_rfl⟩,tv⟩
theorem G4:Tryz.prog.underlying 23=some (.slice 34):=by kernel_rfl
theorem Fx:Tryz.prog.readableRec 23=true:=by kernel_rfl
theorem G5:Tryz.prog.readableRec 26=true:=by kernel_rfl
end Go.Proofs.YtpngcclngehaiaaGreatDoor.Join
end
section
open Go Go.AL Go.Proofs
namespace Go.AL.Seat
variable [Tabs]
def r1:TR:=⟨.other,1,8,[.undef],none⟩
def r2:TR:=⟨.int .i64,1,8,[.int .i64 0],some (.int .i64)⟩
def r5:TR:=⟨.int .u8,1,1,[.int .u8 0],some (.int .u8)⟩
def r7:TR:=⟨.strct true [(0,2),(1,3),(2,4),(3,6)],4,24,[.int .i64 0,.int .i64 0,.bool false,.int .u8 0],none⟩
def r9:TR:=⟨.str,1,16,[.str []],some .str⟩
def r12:TR:=⟨.int .u64,1,8,[.int .u64 0],some (.int .u64)⟩
def r13:TR:=⟨.strct false [(0,9),(1,12)],2,24,[.str [],.int .u64 0],none⟩
def r18:TR:=⟨.strct false [(0,17)],1,8,[.nilp],none⟩
def r20:TR:=⟨.iface,1,16,[.nilif],none⟩
def r21:TR:=⟨.int .i32,1,4,[.int .i32 0],some (.int .i32)⟩
def r69:TR:=⟨.strct true [(0,9),(1,3)],2,24,[.str [],.int .i64 0],none⟩
def r71:TR:=⟨.strct false [(0,70),(2,53),(3,37)],5,64,[.str [],.int .i64 0,.nils,.int .i64 0,.int .i64 0],none⟩
def r94:TR:=⟨.strct false [],0,0,[],none⟩
def r120:TR:=⟨.strct true [(0,3),(1,3),(2,3),(3,3)],4,32,[.int .i64 0,.int .i64 0,.int .i64 0,.int .i64 0],none⟩
def r177:TR:=⟨.strct true [(0,5),(1,5)],2,2,[.int .u8 0,.int .u8 0],none⟩
def r208:TR:=⟨.strct false [(0,207)],1,8,[.undef],none⟩
def r216:TR:=⟨.strct false [(0,215)],1,8,[.nilm],none⟩
def r236:TR:=⟨.strct false [(0,9),(1,9),(2,154)],3,48,[.str [],.str [],.nilif],none⟩
def r249:TR:=⟨.strct true [(0,9)],1,16,[.str []],none⟩
def r264:TR:=⟨.strct false [(0,17),(1,17),(2,17),(3,9)],4,40,[.nilp,.nilp,.nilp,.str []],none⟩
def r275:TR:=⟨.strct false [(0,12),(1,12),(2,194),(3,270),(4,5),(5,5),(6,271),(7,272),(8,247),(9,273),(10,274)],11,48,[.int .u64 0,.int .u64 0,.int .u32 0,.int .u8 0,.int .u8 0,.int .u8 0,.int .u8 0,.undef,.nilp,.int .i32 0,.int .i32 0],none⟩
def tbl:List (Nat × TR):=[(1,r1),
 (2,r2),
 (3,r2),
 (4,⟨.bool,1,1,[.bool false],some .bool⟩),
 (5,r5),
 (6,r5),
 (7,r7),
 (8,r7),
 (9,r9),
 (10,r9),
 (11,r9),
 (12,r12),
 (13,r13),
 (14,r13),
 (15,⟨.ptr 265,1,8,[.nilp],none⟩),
 (16,⟨.ptr 268,1,8,[.nilp],none⟩),
 (17,⟨.ptr 276,1,8,[.nilp],none⟩),
 (18,r18),
 (19,r18),
 (20,r20),
 (21,r21),
 (22,⟨.slice 9,1,24,[.nils],some (.lst .str)⟩),
 (23,⟨.slice 34,1,24,[.nils],some (.lst (.st .shape))⟩),
 (24,⟨.slice 26,1,24,[.nils],some (.lst (.st .term))⟩),
 (25,⟨.strct false [(0,3),(1,9),(2,9),(3,3),(4,22),(5,22),(6,23),(7,24),(8,3)],9,152,[.int .i64 0,.str [],.str [],.int .i64 0,.nils,.nils,.nils,.nils,.int .i64 0],none⟩),
 (26,⟨.strct false [(0,3),(1,9),(2,9),(3,3),(4,22),(5,22),(6,23),(7,24),(8,3)],9,152,[.int .i64 0,.str [],.str [],.int .i64 0,.nils,.nils,.nils,.nils,.int .i64 0],some (.st .term)⟩),
 (27,⟨.slice 42,1,24,[.nils],some (.lst (.st .bind))⟩),
 (28,⟨.strct false [(0,9),(1,27),(2,27),(3,27)],4,88,[.str [],.nils,.nils,.nils],none⟩),
 (29,⟨.strct false [(0,9),(1,27),(2,27),(3,27)],4,88,[.str [],.nils,.nils,.nils],some (.st .env)⟩),
 (30,r1),
 (31,r1),
 (32,r1),
 (33,⟨.strct false [(0,3),(1,9),(2,9),(3,22),(4,23)],5,88,[.int .i64 0,.str [],.str [],.nils,.nils],none⟩),
 (34,⟨.strct false [(0,3),(1,9),(2,9),(3,22),(4,23)],5,88,[.int .i64 0,.str [],.str [],.nils,.nils],some (.st .shape)⟩),
 (35,r2),
 (36,⟨.strct true [(0,35),(1,3)],2,16,[.int .i64 0,.int .i64 0],none⟩),
 (37,⟨.strct true [(0,35),(1,3)],2,16,[.int .i64 0,.int .i64 0],some (.st .fault)⟩),
 (39,r1),
 (40,r1),
 (41,⟨.strct false [(0,9),(1,9),(2,34)],7,120,[.str [],.str [],.int .i64 0,.str [],.str [],.nils,.nils],none⟩),
 (42,⟨.strct false [(0,9),(1,9),(2,34)],7,120,[.str [],.str [],.int .i64 0,.str [],.str [],.nils,.nils],some (.st .bind)⟩),
 (43,r1),
 (44,r1),
 (45,r1),
 (47,r1),
 (48,r1),
 (49,r1),
 (50,r1),
 (51,r1),
 (52,r1),
 (53,⟨.slice 78,1,24,[.nils],some (.lst (.st .token))⟩),
 (55,r1),
 (57,r1),
 (58,r1),
 (59,r1),
 (61,r1),
 (62,r1),
 (64,r1),
 (65,r1),
 (66,r1),
 (67,r1),
 (68,⟨.ptr 72,1,8,[.nilp],none⟩),
 (69,r69),
 (70,r69),
 (71,r71),
 (72,r71),
 (73,r1),
 (74,r1),
 (75,r1),
 (76,r1),
 (77,⟨.strct true [(0,3),(1,9),(2,3)],3,32,[.int .i64 0,.str [],.int .i64 0],none⟩),
 (78,⟨.strct true [(0,3),(1,9),(2,3)],3,32,[.int .i64 0,.str [],.int .i64 0],some (.st .token)⟩),
 (79,⟨.ptr 84,1,8,[.nilp],none⟩),
 (80,r1),
 (81,⟨.strct false [(0,53),(1,3),(2,37)],4,48,[.nils,.int .i64 0,.int .i64 0,.int .i64 0],none⟩),
 (82,⟨.strct false [(0,53),(1,3),(2,37)],4,48,[.nils,.int .i64 0,.int .i64 0,.int .i64 0],some (.st .par)⟩),
 (83,⟨.strct false [(0,82)],4,48,[.nils,.int .i64 0,.int .i64 0,.int .i64 0],none⟩),
 (84,⟨.strct false [(0,82)],4,48,[.nils,.int .i64 0,.int .i64 0,.int .i64 0],some (.st .par)⟩),
 (85,r1),
 (86,r1),
 (87,r1),
 (88,⟨.slice 3,1,24,[.nils],some (.lst (.int .i64))⟩),
 (89,r1),
 (90,r1),
 (92,r1),
 (93,r1),
 (94,r94),
 (95,r94),
 (97,r1),
 (98,r1),
 (99,⟨.map 9 3,1,8,[.nilm],none⟩),
 (100,r1),
 (102,⟨.ptr 70,1,8,[.nilp],none⟩),
 (104,r1),
 (105,r1),
 (106,r1),
 (107,r1),
 (108,⟨.strct true [(0,3),(1,3),(2,3),(3,9)],4,40,[.int .i64 0,.int .i64 0,.int .i64 0,.str []],none⟩),
 (109,⟨.strct true [(0,3),(1,3),(2,3),(3,9)],4,40,[.int .i64 0,.int .i64 0,.int .i64 0,.str []],some (.st .version)⟩),
 (111,r1),
 (113,r1),
 (114,⟨.ptr 82,1,8,[.nilp],none⟩),
 (115,r1),
 (116,r1),
 (117,r1),
 (118,r1),
 (119,r1),
 (120,r120),
 (121,r120),
 (122,r1),
 (123,r1),
 (124,r1),
 (125,r1),
 (126,r1),
 (127,r1),
 (128,r1),
 (130,r1),
 (131,r1),
 (132,r1),
 (133,r1),
 (134,r1),
 (135,r1),
 (136,r1),
 (137,r1),
 (138,r1),
 (139,r1),
 (141,r1),
 (142,r1),
 (146,r1),
 (147,r1),
 (148,⟨.ptr 144,1,8,[.nilp],none⟩),
 (150,r1),
 (151,r1),
 (152,⟨.arr 3 3,3,24,[.int .i64 0,.int .i64 0,.int .i64 0],none⟩),
 (153,r20),
 (154,r20),
 (156,r1),
 (157,r1),
 (158,⟨.slice 5,1,24,[.nils],some (.lst (.int .u8))⟩),
 (159,r1),
 (160,r1),
 (161,r1),
 (162,r1),
 (164,r1),
 (165,r1),
 (166,r1),
 (167,r12),
 (168,r1),
 (169,r1),
 (170,r1),
 (171,r1),
 (172,r1),
 (173,r1),
 (174,r1),
 (175,r1),
 (177,r177),
 (178,r177),
 (180,r1),
 (181,⟨.ptr 209,1,8,[.nilp],none⟩),
 (182,r1),
 (183,r1),
 (184,⟨.ptr 217,1,8,[.nilp],none⟩),
 (185,r1),
 (186,r1),
 (187,r2),
 (189,r1),
 (190,r1),
 (191,r1),
 (192,r1),
 (193,r1),
 (194,⟨.int .u32,1,4,[.int .u32 0],some (.int .u32)⟩),
 (195,r1),
 (196,r12),
 (197,r1),
 (198,r1),
 (199,r1),
 (200,r1),
 (201,r2),
 (203,r1),
 (204,⟨.ptr 237,1,8,[.nilp],none⟩),
 (205,r1),
 (206,r1),
 (207,r1),
 (208,r208),
 (209,r208),
 (210,⟨.ptr 34,1,8,[.nilp],none⟩),
 (211,r1),
 (212,r1),
 (213,⟨.strct true [(0,9),(1,9)],2,32,[.str [],.str []],none⟩),
 (214,⟨.strct true [(0,9),(1,9)],2,32,[.str [],.str []],some (.st .nm)⟩),
 (215,⟨.map 214 34,1,8,[.nilm],none⟩),
 (216,r216),
 (217,r216),
 (218,r1),
 (219,r12),
 (220,r1),
 (221,r1),
 (222,r1),
 (223,⟨.ptr 3,1,8,[.nilp],none⟩),
 (224,r1),
 (225,r1),
 (226,r1),
 (227,r1),
 (228,r1),
 (229,r1),
 (230,r1),
 (231,r1),
 (232,r1),
 (234,r1),
 (235,r1),
 (236,r236),
 (237,r236),
 (238,r1),
 (239,r1),
 (240,⟨.ptr 219,1,8,[.nilp],none⟩),
 (241,r1),
 (242,r1),
 (243,r1),
 (245,r1),
 (246,r1),
 (247,⟨.ptr 5,1,8,[.nilp],none⟩),
 (248,⟨.ptr 250,1,8,[.nilp],none⟩),
 (249,r249),
 (250,r249),
 (251,r1),
 (252,r1),
 (254,r1),
 (256,r1),
 (257,r1),
 (260,r1),
 (263,r1),
 (264,r264),
 (265,r264),
 (269,r1),
 (270,r5),
 (271,r5),
 (272,r1),
 (273,r21),
 (274,r21),
 (275,r275),
 (276,r275)]
theorem tk {t:Nat} {r:TR} (h1:(Tryz.prog.info? t).map (fun i=>(i.size,i.bytes,i.zero.map fun z=>z.cells.toList.map bX))=some (r.size,r.bytes,some r.zero):=by kernel_rfl)
  (h2:(Tryz.prog.underlying t).map (aV Tryz.prog r.ti)=some true:=by kernel_rfl)
  (h3:(eL r.zero r.size && (Nat.beq r.size 0 || Nat.blt 0 r.bytes) && (match r.ty with | some τ=>Nat.beq (ah τ) r.size && (DT τ ==r.isAgg) | none=>true))=true:=by kernel_rfl)
  (h8:(Tryz.prog.info? t).map (fun i=>i.zero.map fun z=>wQ z ==r.isAgg)=some (some true):=by kernel_rfl)
  (h9:(match r.ti with | .strct true _=>!Tryz.prog.stoodInHeld t && !Tryz.prog.eqGuardType Tryz.prog.depth t | _=>true)=true:=by kernel_rfl):TRok Tryz.prog t r:=TRok.mk' h1 h2 h3 h8 h9
theorem pT:bj Tryz.prog tbl:=
 .cons tk (.cons tk (.cons tk (.cons tk (.cons tk (.cons tk (.cons tk (.cons tk (.cons tk (.cons tk (.cons tk (.cons tk (.cons tk (.cons tk (.cons tk (.cons tk (.cons tk (.cons tk (.cons tk (.cons tk (.cons tk (.cons tk (.cons tk (.cons tk (.cons tk (.cons tk (.cons tk (.cons tk (.cons tk (.cons tk (.cons tk (.cons tk (.cons tk (.cons tk (.cons tk (.cons tk (.cons tk (.cons tk (.cons tk (.cons tk (.cons tk (.cons tk (.cons tk (.cons tk (.cons tk (.cons tk (.cons tk (.cons tk (.cons tk (.cons tk (.cons tk (.cons tk (.cons tk (.cons tk (.cons tk (.cons tk (.cons tk (.cons tk (.cons tk (.cons tk (.cons tk (.cons tk (.cons tk (.cons tk (.cons tk (.cons tk (.cons tk (.cons tk (.cons tk (.cons tk (.cons tk (.cons tk (.cons tk (.cons tk (.cons tk (.cons tk (.cons tk (.cons tk (.cons tk (.cons tk (.cons tk (.cons tk (.cons tk (.cons tk (.cons tk (.cons tk (.cons tk (.cons tk (.cons tk (.cons tk (.cons tk (.cons tk (.cons tk (.cons tk (.cons tk (.cons tk (.cons tk (.cons tk (.cons tk (.cons tk (.cons tk (.cons tk (.cons tk (.cons tk (.cons tk (.cons tk (.cons tk (.cons tk (.cons tk (.cons tk (.cons tk (.cons tk (.cons tk (.cons tk (.cons tk (.cons tk (.cons tk (.cons tk (.cons tk (.cons tk (.cons tk (.cons tk (.cons tk (.cons tk (.cons tk (.cons tk (.cons tk (.cons tk (.cons tk (.cons tk (.cons tk (.cons tk (.cons tk (.cons tk (.cons tk (.cons tk (.cons tk (.cons tk (.cons tk (.cons tk (.cons tk (.cons tk (.cons tk (.cons tk (.cons tk (.cons tk (.cons tk (.cons tk (.cons tk (.cons tk (.cons tk (.cons tk (.cons tk (.cons tk (.cons tk (.cons tk (.cons tk (.cons tk (.cons tk (.cons tk (.cons tk (.cons tk (.cons tk (.cons tk (.cons tk (.cons tk (.cons tk (.cons tk (.cons tk (.cons tk (.cons tk (.cons tk (.cons tk (.cons tk (.cons tk (.cons tk (.cons tk (.cons tk (.cons tk (.cons tk (.cons tk (.cons tk (.cons tk (.cons tk (.cons tk (.cons tk (.cons tk (.cons tk (.cons tk (.cons tk (.cons tk (.cons tk (.cons tk (.cons tk (.cons tk (.cons tk (.cons tk (.cons tk (.cons tk (.cons tk (.cons tk (.cons tk (.cons tk (.cons tk (.cons tk (.cons tk (.cons tk (.cons tk (.cons tk (.cons tk (.cons tk (.cons tk (.cons tk (.cons tk (.cons tk (.cons tk (.cons tk (.cons tk (.cons tk (.cons tk (.cons tk (.cons tk (.cons tk (.cons tk (.cons tk (.cons tk (.cons tk (.cons tk (.cons tk (.cons tk (.cons tk (.cons tk (.cons tk (.cons tk (.cons tk (.cons tk (.cons tk (.cons tk (.cons tk (.cons tk (.cons tk (.nil)))))))))))))))))))))))))))))))))))))))))))))))))))))))))))))))))))))))))))))))))))))))))))))))))))))))))))))))))))))))))))))))))))))))))))))))))))))))))))))))))))))))))))))))))))))))))))))))))))))))))))))))))))))))))))))))))))))))))))))))))
theorem mixed:Tryz.prog.follows .mixedOrders=true:=by kernel_rfl
end Go.AL.Seat
end
noncomputable section
namespace Go.AL
variable [Tabs]
def Fy:AV→Bool
 | .ptr k 0=>bF k
 | _=>false
def ptrIn (ks:List Nat):AV→Bool
 | .ptr k _=>ks.contains k
 | _=>false
def En (ks:List Nat) (t:List (Nat × AV)):List (Nat × AV):=t.map fun x=>(x.1,if ptrIn ks x.2 then x.2 else .undef)
structure RC where
 r0:Code
 rest:Code
 crest:Code
 t5:Nat
 caps:List Operand
 t6:Nat
 t3:Nat
def Fz (g:Nat) (c cc:Code):Option RC:=
 match c,cc with
 | .seq r0 (.seq (.region _ o1 false) rest),.seq (.region _ o2 false) crest=>
  match o1.toList,o2.toList with
  | [⟨some t5,.makeFunc (.func g') fst caps,_,_,_,none⟩,⟨none,.defer ⟨.value (.tmp t5'),asx,_⟩,_,_,_,none⟩],
   [⟨some t6,.call ⟨.builtin .recover,as2,_⟩,_,_,_,none⟩,⟨some t3,.assign (.tmp t6'),_,_,_,none⟩]=>
   if Nat.beq g' g && Nat.beq t5' t5 && Nat.beq t6' t6 && fst.isEmpty && asx.isEmpty && as2.isEmpty then some ⟨r0,rest,crest,t5,caps.toList,t6,t3⟩ else none
  | _,_=>none
 | _,_=>none
def CN (C:Cfg) (rs:List ResultVar) (L:List dx) (s1:St) (S1:List (Nat × SObj)) (S:List (Nat × SObj)) (A:Ans) (t2:List (Nat × AV)) (s3:St):Prop:=
 match bh (aT s3.b) && (aT S1).all (fun k=>(aT s3.b).contains k) with
 | true=>
  match jr C.tbl ⟨En (aT S1) t2,s3.b⟩ rs with
  | some l=>
   (match jo (ax s1.b) L 998 (ga S1 s3.b),mapVs (mZ L 998) (fZ L 998) (fZ L 998) l with
   | some u',some l'=>eR ⟨[],cv s1.b u'⟩ fun s4=>rl (some l') s4 A.val (cv S A.upd)
   | _,_=>False)
  | none=>False
 | false=>False
def vh (C:Cfg) (annC:An) (clo:Func) (R:RC) (caps:List AV) (v:AV) (s2:St) (fin:St→Prop):Prop:=
 gT (List.range clo.ntmps) fun keep=>eR ⟨iP (da 0 caps) R.t3 v,s2.b⟩ fun s=>swp C keep annC R.crest s fun
  | .exit _,_=>False
  | .pan _,_=>False
  | _,s3=>fin s3
def fwpR (C:Cfg) (ann annC:An) (fn:Func) (g:Nat) (clo:Func) (args:List AV) (S:List (Nat × SObj)) (A:Ans):Prop:=
 match fn.body,clo.body,A.pan with
 | some c,some cc,none=>
  match Fz g c cc with
  | none=>False
  | some R=>
   match bM fn.ntmps c && bM clo.ntmps cc && Nat.blt R.t5 fn.ntmps && kF args fn.ntmps && (aT S).all bF && clo.results.isEmpty && kF R.caps clo.ntmps && kF R.caps R.t6 with
   | false=>False
   | true=>gT ((List.range fn.ntmps)) fun keep=>eR ⟨da 0 args,S⟩ fun i=>swp C keep ann R.r0 i fun
    | .normal,s1=>
     (match (aT s1.b).map (fun i=>(i,(none:Option (Nat × Nat)))) with
     | L=>
      (match bh (L.map (·.1)) && Nat.ble L.length 100,mapVs (toP L) (toI L) (toI L) ((List.range fn.ntmps).map (bg s1.t)),mapVs (toP L) (toI L) (toI L) (R.caps.map (opd (bg s1.t))),lv (ax s1.b) L L 900 with
      | true,some as1,some caps,some S1=>
       (match caps.all Fy with
       | true=>eR ⟨iP (da 0 as1) R.t5 .undef,S1⟩ fun i=>swp C keep ann R.rest i fun
        | .exit _,_=>False
        | .pan v,s2=>vh C annC clo R caps v s2 (CN C fn.results.toList L s1 S1 S A s2.t)
        | _,s2=>vh C annC clo R caps .nilif s2 (CN C fn.results.toList L s1 S1 S A s2.t)
       | false=>False)
      | _,_,_,_=>False))
    | _,_=>False
 | _,_,_=>False
theorem mL:∀(u S:List (Nat × SObj)) (i:Nat),bh (u.map (·.1))=true→ax (cv S u) i=(ax u i).or (ax S i)
 | [],S,i,_=>by simp [cv,aZ,aU]
 | (j,o) ::r,S,i,h=>by
  simp only [List.map_cons,bh,Bool.and_eq_true,Bool.not_eq_true'] at h
  simp only [cv]
  rw [mL r _ i h.2,gy]
  simp only [aZ,aU]
  by_cases e:j=i
  ·subst e
   have:ax r j=none:=by
    cases hb:ax r j with
    | none=>rfl
    | some o'=>
     have:=cJ r j o' hb
     have h1:=h.1
     simp only [List.contains_eq_mem,decide_eq_false_iff_not,List.mem_map,not_exists,not_and] at h1
     exact absurd rfl (h1 _ this)
   simp [this]
  ·simp [e]
section
variable {P:Program} {C:Cfg}
theorem V.pinned {e0 e:Nat→Option CObj} {w0 w:World} {p0 p:Nat→Nat→Prop} (hk:∀id c,e0 id=some c→∃c',e id=some c'/\CLe c c') {a:AV} {v:Value} (ha:Fy a=true) (h:V ⟨e0,w0,p0⟩ a v):V ⟨e,w,p⟩ a v:=by
 cases h with
 | ptr i o b q len he=>
  obtain ⟨c',h1,h2⟩:=hk i _ he
  have:=h2.box
  subst this
  exact .ptr i o b q len h1
 | _=>simp [Fy] at ha
theorem Holds.retmp' {F:Fr} {s:AS} {a a':Act} {Ω:Om} (h:Holds F s a Ω) {n:Nat} {ds:List Deferred} {T:Nat→AV} (hT:∀i,V Ω (T i) (a'.tmps.getD i undef)) (hs:a'.tmps.size=n) (hd:a'.defers=ds) :
  Holds ⟨F.w0,F.pub0,n,F.e0,F.dom0,ds,F.tab0⟩ ⟨T,s.B⟩ a' Ω:=
 ⟨hT,hs,hd,h.slots,h.dom,h.inj,h.pubok,h.keep,⟨h.frame.os,h.frame.tape,h.frame.output,h.frame.size,h.frame.block,h.frame.cell,h.frame.kind,h.frame.pub,h.frame.old,h.frame.pcell⟩⟩
inductive Rcv:FrameMode→AV→Om→Value→FrameMode→Prop
 | ret (Ω:Om):Rcv .returning .nilif Ω .nilIface .returning
 | pan (Ω:Om) (a:AV) (v:Value):V Ω a v→Rcv (.panicking [{v,recovered:=false}]) a Ω v (.panicking [{v,recovered:=true}])
structure RCcode (g:Nat) (R:RC) (c cc:Code):Prop where
 code:∃i1 i2 ty1 ps1 af1 ty2 ps2 af2 ts2 ty3 ps3 af3 ts3 ty4 ps4 af4,
  c=.seq R.r0 (.seq (.region i1 #[⟨some R.t5,.makeFunc (.func g) #[] R.caps.toArray,ty1,ps1,af1,none⟩,⟨none,.defer ⟨.value (.tmp R.t5),#[],ts2⟩,ty2,ps2,af2,none⟩] false) R.rest)/\
  cc=.seq (.region i2 #[⟨some R.t6,.call ⟨.builtin .recover,#[],ts3⟩,ty3,ps3,af3,none⟩,⟨some R.t3,.assign (.tmp R.t6),ty4,ps4,af4,none⟩] false) R.crest
theorem CO {g:Nat} {c cc:Code} {R:RC} (h:Fz g c cc=some R):RCcode g R c cc:=by
 unfold Fz at h
 split at h
 ·rename_i r0 i1 o1 rest i2 o2 crest
  split at h
  ·rename_i h1 h2
   split at h
   ·rename_i hc
    simp only [Bool.and_eq_true,Nat.beq_eq,Array.isEmpty_iff] at hc
    obtain ⟨⟨⟨⟨⟨rfl,rfl⟩,rfl⟩,rfl⟩,rfl⟩,rfl⟩:=hc
    simp only [Xs] at h
    subst h
    have e1:=congrArg List.toArray h1
    have e2:=congrArg List.toArray h2
    simp only [Array.toArray_toList] at e1 e2
    subst e1 e2
    exact ⟨_,_,_,_,_,_,_,_,_,_,_,_,_,_,_,_,rfl,rfl⟩
   ·cases h
  ·cases h
 ·cases h
theorem nH {ts:Array Nat} {d:Option Nat} {ty:Nat} {ps:String} {af:Array Edge} {ρ:Operand→Value} {w:World} :
  (execOp ρ ⟨d,.call ⟨.builtin .recover,#[],ts⟩,ty,ps,af,none⟩).run P w=.ok .recover w:=by
 simp [execOp,resolve,invoke,builtin]
theorem xE (hm:P.follows .mixedOrders=true) (hT:bj P C.tbl) (hS:bY P C.spec) {g:Nat} {clo:Func} {c cc:Code} {R:RC} (hR:RCcode g R c cc) (hg:P.funcs[g]?=some clo) (hb:clo.body=some cc)
  (hd:bM clo.ntmps cc=true) (hres:clo.results=#[]) {caps:List AV} (hcl:caps.length<=clo.ntmps) (hc6:caps.length<=R.t6) {F:Fr} {s2:St} {a2:Act} {Ω2:Om} (h:Holds F s2.abs a2 Ω2) {vs:List Value} (hv:VL Ω2 caps vs)
  {u u':FrameMode} {av:AV} {v:Value} (hrc:Rcv u av Ω2 v u') {annC:An} {fin:St→Prop} (hc:vh C annC clo R caps av s2 fin) :
  CallsD P g vs.toArray u Ω2.w fun en u2 w'=>u2=u'/\en=.returned (.tuple #[])/\∃s3 Ω3 a3 T,Ω3.w=w'/\fin s3/\Holds ⟨F.w0,F.pub0,clo.ntmps,F.e0,F.dom0,[],F.tab0⟩ ⟨T,ax s3.b⟩ a3 Ω3:=by
 obtain ⟨i1,i2,ty1,ps1,af1,ty2,ps2,af2,ts2,ty3,ps3,af3,ts3,ty4,ps4,af4,_,rfl⟩:=hR
 refine callsD_of_wpS hg hb (fun c₀ cs hu=>?_)
 apply wpS_seq
 apply wpS_region
 simp only [bM,Bool.and_eq_true,List.all_cons,List.all_nil,Bool.and_true,Nat.blt_eq] at hd
 obtain ⟨⟨hd6,hd3⟩,hdc⟩:=hd
 have hvs:vs.length<=clo.ntmps:=by rw [←hv.1];exact hcl
 have hbase:Holds ⟨F.w0,F.pub0,clo.ntmps,F.e0,F.dom0,[],F.tab0⟩ ⟨bg (da 0 caps),ax s2.b⟩ {tmps:=vs.toArray++Array.replicate (clo.ntmps - vs.toArray.size) undef,defers:=[]} Ω2:=
  h.retmp' (fun i=>iI _ hv i) (by simp;omega) rfl
 have key:∃cs',(∃c1,cs'=c1 ::cs/\c1={c₀ with mode:=u'})/\∀Q':Exit→Act→List Frame→World→Prop,Q' .normal (({tmps:=vs.toArray++Array.replicate (clo.ntmps - vs.toArray.size) undef,defers:=[]}:Act).put (some R.t6) v |>.put (some R.t3) v) cs' Ω2.w→
   wpOpsS P #[⟨some R.t6,.call ⟨.builtin .recover,#[],ts3⟩,ty3,ps3,af3,none⟩,⟨some R.t3,.assign (.tmp R.t6),ty4,ps4,af4,none⟩] Q' [0,1] {tmps:=vs.toArray++Array.replicate (clo.ntmps - vs.toArray.size) undef,defers:=[]} (c₀ ::cs) Ω2.w:=by
  have two:∀(cs':List Frame) (Q':Exit→Act→List Frame→World→Prop),Q' .normal (({tmps:=vs.toArray++Array.replicate (clo.ntmps - vs.toArray.size) undef,defers:=[]}:Act).put (some R.t6) v |>.put (some R.t3) v) cs' Ω2.w→
    wpOpsS P #[⟨some R.t6,.call ⟨.builtin .recover,#[],ts3⟩,ty3,ps3,af3,none⟩,⟨some R.t3,.assign (.tmp R.t6),ty4,ps4,af4,none⟩] Q' [1] (({tmps:=vs.toArray++Array.replicate (clo.ntmps - vs.toArray.size) undef,defers:=[]}:Act).put (some R.t6) v) cs' Ω2.w:=by
   intro cs' Q' hq
   have he:(({tmps:=vs.toArray++Array.replicate (clo.ntmps - vs.toArray.size) undef,defers:=[]}:Act).put (some R.t6) v).eval (.tmp R.t6)=v:=by
    show (Act.put _ (some R.t6) v).tmps.getD R.t6 undef=v
    rw [cC hbase.size hd6,if_pos rfl]
   unfold wpOpsS
   simp only [List.getElem?_toArray,List.getElem?_cons_succ,List.getElem?_cons_zero,Region.wanted,if_true]
   have hr:(execOp (({tmps:=vs.toArray++Array.replicate (clo.ntmps - vs.toArray.size) undef,defers:=[]}:Act).put (some R.t6) v).eval ⟨some R.t3,.assign (.tmp R.t6),ty4,ps4,af4,none⟩).run P Ω2.w=.ok (.value v) Ω2.w:=by
    show (pure (Next.value (Act.eval _ (.tmp R.t6))):Sem Next).run P Ω2.w=_
    rw [he]
    rfl
   rw [hr]
   simp only [Oper.upon]
   exact hq
  cases hrc with
  | ret=>
   refine ⟨_,⟨c₀,rfl,by cases c₀;simp only at hu;subst hu;rfl⟩,fun Q' hq=>?_⟩
   unfold wpOpsS
   simp only [List.getElem?_toArray,List.getElem?_cons_zero,Region.wanted,if_true]
   rw [nH]
   simp only [recoverD,hu]
   exact two _ Q' hq
  | pan _ _ hv'=>
   refine ⟨_,⟨_,rfl,rfl⟩,fun Q' hq=>?_⟩
   unfold wpOpsS
   simp only [List.getElem?_toArray,List.getElem?_cons_zero,Region.wanted,if_true]
   rw [nH]
   simp only [recoverD,hu]
   exact two _ Q' hq
 obtain ⟨cs',⟨c1,rfl,hc1⟩,key⟩:=key
 refine key _ ?_
 refine wpS_of_wp ?_
 unfold vh at hc
 rw [gM,dz] at hc
 have hav:V Ω2 av v:=by
  cases hrc <;> first | exact .nilif | assumption
 have h1:=(hbase.pure (dst:=some R.t6) (val:=.undef) (v:=v) (.undef v) (fun d e=>by cases e;exact hd6)).pure (dst:=some R.t3) (val:=av) (v:=v) hav (fun d e=>by cases e;exact hd3)
 have h2:Holds ⟨F.w0,F.pub0,clo.ntmps,F.e0,F.dom0,[],F.tab0⟩ (St.abs ⟨iP (da 0 caps) R.t3 av,s2.b⟩) _ Ω2:=h1.weak (s':=St.abs ⟨iP (da 0 caps) R.t3 av,s2.b⟩) (fun i=>by
  simp only [St.abs,fy,cm]
  by_cases e3:R.t3=i
  ·right;simp [e3]
  ·by_cases e6:R.t6=i
   ·left
    subst e6
    rw [if_neg e3,fB,if_pos (Nat.zero_le _),Nat.sub_zero]
    simp [List.getD_eq_getElem?_getD,List.getElem?_eq_none hc6]
   ·right;simp [e3,e6]) rfl
 refine wp_mono (ko hm hT hS _ annC R.crest _ _ _ Ω2 hc hdc h2) ?_
 intro e a' w' hq
 obtain ⟨z,s3,Ω3,q1,q2,q3,q4⟩:=hq
 have fin3:fin s3→bodyPostS P clo c₀ cs (fun en u2 w'=>u2=u'/\en=.returned (.tuple #[])/\∃s3 Ω3 a3 T,Ω3.w=w'/\fin s3/\Holds ⟨F.w0,F.pub0,clo.ntmps,F.e0,F.dom0,[],F.tab0⟩ ⟨T,ax s3.b⟩ a3 Ω3) .ret a' (c1 ::cs) w':=by
  intro hf
  refine ⟨q3.defers,u',by rw [hc1],.tuple #[],by simp [results,hres],rfl,rfl,s3,Ω3,a',_,q2,hf,q3⟩
 cases z with
 | normal=>cases q1;exact fin3 q4
 | ret=>cases q1;exact fin3 q4
 | exit id=>exact q4.elim
 | pan v=>exact q4.elim
theorem AA {w:World} {pub:Nat→Nat→Prop} {e:Nat→Option CObj} {n:Nat} {hl:∀id c,e id=some c→bF id=true} {ds:List Deferred} {ht:gH w pub e} {T:Nat→AV} {t:List (Nat × AV)} {b b':List (Nat × SObj)} {a:Act} {Ω:Om} {l:List AV} {us:List Value} {val:AV}
  (hh:Holds ⟨w,pub,n,e,hl,ds,ht⟩ ⟨T,ax b⟩ a Ω) (k2:VL Ω l us) (hend:rl (some l) ⟨t,b⟩ val b') :
  ∃pub' e',V ⟨e',Ω.w,pub'⟩ val (if h:us.toArray.size=1 then us.toArray[0] else .tuple us.toArray)/\After w pub e (ax b') Ω.w pub' e':=by
 unfold rl at hend
 split at hend
 ·rename_i x hres
  cases hres
  obtain ⟨u,rfl⟩:=iJ (by rw [←k2.1];rfl)
  have h1:=hh.retmp' (T:=bg (da 0 [x])) (a':={tmps:=[u].toArray++Array.replicate 0 undef,defers:=[]}) (n:=1) (ds:=[]) (fun i=>iI 0 k2 i) (by simp) rfl
  obtain ⟨Ω2,e2,hh2⟩:=dL (s:=⟨[(0,x)],b⟩) h1 (gh hend)
  refine ⟨Ω2.pub,Ω2.e,?_,?_⟩
  ·have:=hh2.tmps 0
   rw [←e2]
   exact this
  ·rw [←e2]
   exact gN hh2
 ·rename_i l' hne hres
  cases hres
  split at hend
  ·rename_i rs
   split at hend
   ·rename_i hln
    have hl2:=bT _ _ hln
    have h1:=hh.retmp' (T:=bg (da 0 l)) (a':={tmps:=us.toArray++Array.replicate 0 undef,defers:=[]}) (n:=us.length) (ds:=[]) (fun i=>iI 0 k2 i) (by simp) rfl
    obtain ⟨Ω2,e2,hh2⟩:=dL (s:=⟨da 0 l,b⟩) h1 (gh hend)
    have hsz:¬us.toArray.size=1:=by
     intro h1
     obtain ⟨x,hx⟩:=iJ (l:=l) (by rw [k2.1];simpa using h1)
     exact hne x hx
    rw [dif_neg hsz]
    refine ⟨Ω2.pub,Ω2.e,?_,?_⟩
    ·refine .tup rs us (by rw [←k2.1,←hl2]) (fun j c v hc hv=>?_)
     have:=hh2.tmps j
     simp only [St.abs,fB,Nat.zero_le,if_true,Nat.sub_zero,List.getD_eq_getElem?_getD,hc,Option.getD_some] at this
     have e3:(us.toArray++Array.replicate 0 undef).getD j undef=v:=by
      simp [Array.getD_eq_getD_getElem?,hv]
     rw [e3] at this
     rw [←e2]
     exact this
    ·rw [←e2]
     exact gN hh2
   ·exact hend.elim
  ·exact hend.elim
 ·rename_i h;cases h
theorem CLe.to_box {c:CObj} {b o l:Nat} (h:CLe c (.box b o l)):c=.box b o l:=by
 cases c <;> simp [CLe] at h
 obtain ⟨rfl,rfl,rfl⟩:=h
 rfl
theorem V.ptrIn {F:Fr} {Ω2 Ω3:Om} {ks:List Nat} (h2:∀id c,F.e0 id=some c→∃c',Ω2.e id=some c'/\CLe c c') (h3:∀id c,F.e0 id=some c→∃c',Ω3.e id=some c'/\CLe c c')
  (hk:∀k∈ks,∃c,F.e0 k=some c) {a:AV} {v:Value} (h:V Ω2 a v):V Ω3 (if AL.ptrIn ks a=true then a else .undef) v:=by
 split
 ·rename_i hp
  cases h with
  | ptr i o b q len he=>
   simp only [AL.ptrIn,List.contains_eq_mem,decide_eq_true_eq] at hp
   obtain ⟨c,hc⟩:=hk i hp
   obtain ⟨c2,e2,l2⟩:=h2 i c hc
   rw [he] at e2
   cases e2
   have:=l2.to_box
   subst this
   obtain ⟨c3,e3,l3⟩:=h3 i _ hc
   have:=l3.box
   subst this
   exact .ptr i o b q len e3
  | _=>simp [AL.ptrIn] at hp
 ·exact .undef v
theorem AB (hT:bj P C.tbl) {w:World} {pub:Nat→Nat→Prop} {e:Nat→Option CObj} {n n1:Nat} {hl:∀id c,e id=some c→bF id=true} {ht:gH w pub e} {s1:St} {a1:Act} {Ω1:Om} {L:List dx} {ht1:gH Ω1.w Ω1.pub (cZ L Ω1.e)} (h3:Holds ⟨w,pub,n,e,hl,[],ht⟩ s1.abs a1 Ω1)
  (hdist:bh (L.map (·.1))=true) {S1:List (Nat × SObj)} (hS1:lv (ax s1.b) L L 900=some S1) {hl1:∀id c,cZ L Ω1.e id=some c→bF id=true} (hk1:∀k∈aT S1,∃c,cZ L Ω1.e k=some c)
  {ds:List Deferred} {s2:St} {a2:Act} {Ω2:Om} (q3:Holds ⟨Ω1.w,Ω1.pub,n,cZ L Ω1.e,hl1,ds,ht1⟩ s2.abs a2 Ω2) {s3:St} {a3:Act} {Ω3:Om} {T:Nat→AV} (h5:Holds ⟨Ω1.w,Ω1.pub,n1,cZ L Ω1.e,hl1,[],ht1⟩ ⟨T,ax s3.b⟩ a3 Ω3)
  {fn:Func} {S:List (Nat × SObj)} {A:Ans} (hpan:A.pan=none) (hf:CN C fn.results.toList L s1 S1 S A s2.t s3) :
  ∃v,(results fn a2.tmps).run P Ω3.w=.ok v Ω3.w/\∃pub' e',(∀b pv u,A.pan=some (b,pv,u)→b=false)/\V ⟨e',Ω3.w,pub'⟩ A.val v/\After w pub e (ax (cv S A.upd)) Ω3.w pub' e':=by
 unfold CN at hf
 split at hf
 ·rename_i hck
  simp only [Bool.and_eq_true,List.all_eq_true] at hck
  obtain ⟨hd3,hin⟩:=hck
  split at hf
  ·rename_i l hres
   split at hf
   ·rename_i u' l' hu' hl'
    rw [dz] at hf
    have hR:Holds ⟨Ω1.w,Ω1.pub,n,cZ L Ω1.e,hl1,ds,ht1⟩ (St.abs ⟨En (aT S1) s2.t,s3.b⟩) a2 Ω3:=by
     have:=h5.retmp' (T:=bg (En (aT S1) s2.t)) (a':=a2) (n:=n) (ds:=ds) (fun i=>by
      rw [show bg (En (aT S1) s2.t) i=if ptrIn (aT S1) (bg s2.t i)=true then bg s2.t i else .undef from lI (fun x=>if ptrIn (aT S1) x=true then x else .undef) (by simp [ptrIn]) s2.t i]
      exact V.ptrIn (F:=⟨Ω1.w,Ω1.pub,n,cZ L Ω1.e,hl1,ds,ht1⟩) q3.keep h5.keep hk1 (q3.tmps i)) q3.size q3.defers
     exact this
    obtain ⟨us,k1,k2⟩:=eJ hT hR _ _ hres
    have hmap:(results fn a2.tmps).run P Ω3.w=.ok (if h:us.toArray.size=1 then us.toArray[0] else .tuple us.toArray) Ω3.w:=by
     rw [kZ,←Array.toArray_toList (xs:=fn.results),List.mapM_toArray]
     simp only [Sem.run_bind,Sem.run_map,k1,Result.andThen_ok,Sem.run_pure]
    have hB:ax (cv S1 s3.b)=ax s3.b:=by
     funext i
     rw [mL _ _ _ hd3]
     cases h:ax s3.b i with
     | some o=>rfl
     | none=>
      cases h':ax S1 i with
      | none=>rfl
      | some o=>
       have:=hin i (List.mem_map.2 ⟨(i,o),cJ _ _ _ h',rfl⟩)
       simp only [List.contains_eq_mem,decide_eq_true_eq] at this
       exact absurd this (iH _ _ h)
    have hA:After Ω1.w Ω1.pub (cZ L Ω1.e) (ax (cv S1 s3.b)) Ω3.w Ω3.pub Ω3.e:=by
     rw [hB]
     exact gN (h5.retmp' (T:=T) (a':=a3) (n:=n1) (ds:=[]) h5.tmps h5.size h5.defers)
    obtain ⟨Ω',w1,w2,w3⟩:=mz h3 (d:=998) (by omega) hdist hS1 hd3 hu' (val:=.tup l) (val':=.tup l') (by simp only [mapV,hl']) (v:=.tuple us.toArray) (V.of_tup k2) hA
    obtain ⟨us',e1,k3⟩:=w2.tup_inv
    have e2:us=us':=by
     have:=congrArg Array.toList (Value.tuple.inj e1)
     simpa using this
    subst e2
    rw [show s1.abs.B=ax s1.b from rfl,←iG] at w3
    obtain ⟨pub',e',p1,p2⟩:=AA (T:=s1.abs.T) (b:=cv s1.b u') (t:=[]) w3 k3 hf
    rw [w1] at p1 p2
    exact ⟨_,hmap,pub',e',(fun b pv u h=>by rw [hpan] at h;cases h),p1,p2⟩
   ·exact hf.elim
  ·exact hf.elim
 ·exact hf.elim
theorem fwpR_sound (hm:P.follows .mixedOrders=true) (hT:bj P C.tbl) (hS:bY P C.spec) {ann annC:An} {f g:Nat} {fn clo:Func} (hf:P.funcs[f]?=some fn) (hg:P.funcs[g]?=some clo)
  (eg:∀args w,(callFunc g args).run P w=.ok (.enter g args) w) {args:List AV} {S:List (Nat × SObj)} {A:Ans} (h:fwpR C ann annC fn g clo args S A):aB P f args S A:=by
 intro w pub e vs hp ht hv hs hdom hinj
 unfold fwpR at h
 split at h
 ·rename_i c cc hb hcb hpan
  split at h
  ·exact h.elim
  ·rename_i R hR
   split at h
   ·exact h.elim
   ·rename_i hck
    simp only [Bool.and_eq_true,List.all_eq_true,Array.isEmpty_iff,Nat.blt_eq] at hck
    obtain ⟨⟨⟨⟨⟨⟨⟨hk1,hk2⟩,hk5⟩,hk3⟩,hk4⟩,hres⟩,hcl⟩,hc6⟩:=hck
    have hlen:=dP _ _ hk3
    have hcl:=dP _ _ hcl
    have hc6:=dP _ _ hc6
    rw [gM,dz] at h
    have hlent:∀id c,e id=some c→bF id=true:=by
     intro id c hc
     cases hg:ax S id with
     | none=>rw [hdom id hg] at hc;cases hc
     | some o=>exact hk4 id (List.mem_map.2 ⟨(id,o),cJ _ _ _ hg,rfl⟩)
    have hRc:=CO hR
    obtain ⟨i1,i2,ty1,ps1,af1,ty2,ps2,af2,ts2,ty3,ps3,af3,ts3,ty4,ps4,af4,rfl,_⟩:=id hRc
    refine calls_of_wp_defers hf hb ?_
    have hh:=jd (n:=fn.ntmps) hp ht hv hlen hs hdom hinj hlent
    have hdr:bM fn.ntmps R.r0=true/\bM fn.ntmps R.rest=true:=by
     simp only [bM,Bool.and_eq_true] at hk1
     exact ⟨hk1.1,hk1.2.2⟩
    refine wp_seq (wp_mono (ko (F:=⟨w,pub,fn.ntmps,e,hlent,[],ht⟩) hm hT hS _ ann R.r0 _ _ _ _ h hdr.1 hh) ?_)
    intro en a1 w1 hq
    obtain ⟨z,s1,Ω1,q1,rfl,h3,h4⟩:=hq
    cases z with
    | exit id=>exact h4.elim
    | ret=>exact h4.elim
    | pan pv=>exact h4.elim
    | normal=>
     cases q1
     simp only at h4
     generalize hLL:(aT s1.b).map (fun i=>(i,(none:Option (Nat × Nat))))=L at h4
     split at h4
     ·rename_i as1 caps S1 hdl has hcaps hS1
      simp only [Bool.and_eq_true,Nat.ble_eq] at hdl
      obtain ⟨hdist,hL100⟩:=hdl
      split at h4
      ·rename_i hcp
       rw [dz] at h4
       obtain ⟨k1,k2,k3⟩:=gx L 900 S1 hS1
       refine wp_seq (wp_region ?_)
       show wpOps P _ _ [0,1] a1 Ω1.w
       refine cK (o:=⟨some R.t5,.makeFunc (.func g) #[] R.caps.toArray,ty1,ps1,af1,none⟩) rfl rfl (aN (v:=.func (.func g) #[] (R.caps.toArray.map a1.eval)) (w':=Ω1.w) (by simp [execOp,Instr.makeFunc]) ?_)
       have he5:(a1.put (some R.t5) (.func (.func g) #[] (R.caps.toArray.map a1.eval))).eval (.tmp R.t5)=.func (.func g) #[] (R.caps.toArray.map a1.eval):=by
        show (Act.put a1 (some R.t5) _).tmps.getD R.t5 undef=_
        rw [cC h3.size hk5,if_pos rfl]
       refine cK (o:=⟨none,.defer ⟨.value (.tmp R.t5),#[],ts2⟩,ty2,ps2,af2,none⟩) rfl rfl ?_
       have hrun:(execOp (a1.put (some R.t5) (.func (.func g) #[] (R.caps.toArray.map a1.eval))).eval ⟨none,.defer ⟨.value (.tmp R.t5),#[],ts2⟩,ty2,ps2,af2,none⟩).run P Ω1.w=.ok (.defer {target:=.fn (.func g) (R.caps.toArray.map a1.eval),args:=#[]}) Ω1.w:=by
        have he5':=he5
        simp only [List.map_toArray] at he5'
        simp [execOp,resolve,he5',Deferred.ofValue]
       unfold Oper.wp
       rw [hrun]
       have hcv:R.caps.toArray.map a1.eval=(R.caps.map a1.eval).toArray:=by simp
       have hdef0:a1.defers=[]:=h3.defers
       have hvl1:VL Ω1 ((List.range fn.ntmps).map (bg s1.t)) a1.tmps.toList:=by
        have hz:a1.tmps.size=fn.ntmps:=h3.size
        refine ⟨by simp;omega,fun j c v hc hv=>?_⟩
        simp only [List.getElem?_map,Option.map_eq_some_iff] at hc
        obtain ⟨q,hq,rfl⟩:=hc
        have hqj:q=j:=by
         have:=List.getElem?_eq_some_iff.1 hq
         obtain ⟨_,e⟩:=this
         simpa using e.symm
        subst hqj
        have:=h3.tmps q
        rw [Array.getElem?_toList] at hv
        simp only [Array.getD_eq_getD_getElem?,hv,Option.getD_some] at this
        exact this
       have hvc1:VL Ω1 (R.caps.map (opd (bg s1.t))) (R.caps.map a1.eval):=by
        refine ⟨by simp,fun j c v hc hv=>?_⟩
        simp only [List.getElem?_map,Option.map_eq_some_iff] at hc hv
        obtain ⟨x,hx,rfl⟩:=hc
        obtain ⟨y,hy,rfl⟩:=hv
        rw [hx] at hy
        cases hy
        exact bu h3 x
       have hvl:=hvl1.mapVs (jG L Ω1.e) has
       have hvc:=hvc1.mapVs (jG L Ω1.e) hcaps
       have hlent1:∀k i r,bn L k=some (i,r)→∃o o',s1.abs.B i=some o/\eM L r o=some o'/\ax S1 k=some o':=by
        intro k i r hk
        obtain ⟨h1,h2⟩:=eI hk
        obtain ⟨o,o',q1,q2,q3⟩:=k2 _ i r h2
        rw [show 900+(k - 900)=k by omega] at q3
        exact ⟨o,o',q1,q2,q3⟩
       have hLs:∀q i r,nth L q=some (i,r)→∃o o',s1.abs.B i=some o/\eM L r o=some o':=fun q i r hq=>let ⟨o,o',q1,q2,_⟩:=k2 q i r hq;⟨o,o',q1,q2⟩
       have hslots:∀id o,ax S1 id=some o→bz ⟨cZ L Ω1.e,Ω1.w,Ω1.pub⟩ (fun _ _=>True) id o:=fun id o' ho'=>by
        obtain ⟨q,i,r,o2,e1,e2,e3,e4⟩:=k1 id o' ho'
        subst e1
        exact uH (cG (kl L i 900 q r hdist e2)) (h3.slots i o2 e3) e4
       have hdom1:∀id,ax S1 id=none→cZ L Ω1.e id=none:=fun id hid=>by
        unfold cZ
        cases hl:bn L id with
        | none=>rfl
        | some x=>
         obtain ⟨o1,o2,_,_,q3⟩:=hlent1 id x.1 x.2 hl
         rw [hid] at q3
         cases q3
       have hinj1:Inj (cZ L Ω1.e):=fun i j c c' b oo hi hj ho1 ho2=>by
        obtain ⟨i1,r1,c1,p1,p2,p3⟩:=iF h3.slots hLs hi
        obtain ⟨i2,r2,c2,p4,p5,p6⟩:=iF h3.slots hLs hj
        have:=h3.inj i1 i2 c1 c2 b oo p2 p5 (p3 b oo ho1) (p6 b oo ho2)
        subst this
        have a1:=dj hdist p1
        have a2:=dj hdist p4
        rw [a1] at a2
        simp at a2
        exact a2.1
       have hpin:∀id c,cZ L Ω1.e id=some c→bF id=true:=by
        intro id c hc
        cases hg:ax S1 id with
        | none=>rw [hdom1 id hg] at hc;cases hc
        | some o=>
         have:=k3 (id,o) (cJ _ _ _ hg)
         simp only [bF,Bool.and_eq_true,Nat.ble_eq,Nat.blt_eq]
         simp only at this
         omega
       have hkS:∀k∈aT S1,∃c,cZ L Ω1.e k=some c:=by
        intro k hk
        obtain ⟨x,hx,rfl⟩:=List.mem_map.1 hk
        cases hg:ax S1 x.1 with
        | none=>exact absurd (List.mem_map.2 ⟨x,hx,rfl⟩) (iH _ _ hg)
        | some o=>
         have hso:=hslots x.1 o hg
         cases o with
         | box c=>obtain ⟨_,_,e1,_⟩:=hso;exact ⟨_,e1⟩
         | tail τ n=>obtain ⟨_,_,e1,_⟩:=hso;exact ⟨_,e1⟩
         | map κ τ m=>obtain ⟨_,e1,_⟩:=hso;exact ⟨_,e1⟩
         | bld t u l=>obtain ⟨_,_,e1,_⟩:=hso;exact ⟨_,e1⟩
         | tailp τ n x=>obtain ⟨_,_,e1,_⟩:=hso;exact ⟨_,e1⟩
       have hlen1:as1.length<=fn.ntmps:=by
        have:=hvl.1
        rw [this,Array.length_toList,h3.size]
        exact Nat.le_refl _
       have hi1:=jd (n:=fn.ntmps) h3.pubok (h3.tabsC hLs) hvl hlen1 hslots hdom1 hinj1 hpin
       have hi2:=hi1.retmp' (T:=bg (da 0 as1)) (a':={tmps:=a1.tmps,defers:=[{target:=.fn (.func g) (R.caps.toArray.map a1.eval),args:=#[]}]}) (n:=fn.ntmps) (ds:=[{target:=.fn (.func g) (R.caps.toArray.map a1.eval),args:=#[]}])
        (fun i=>by
         have:=hi1.tmps i
         have e0:(a1.tmps.toList.toArray++Array.replicate (fn.ntmps - a1.tmps.toList.toArray.size) undef)=a1.tmps:=by
          have hz:a1.tmps.size=fn.ntmps:=h3.size
          apply Array.ext'
          simp [hz]
         rw [e0] at this
         exact this) h3.size rfl
       have hi3:=hi2.pure (dst:=some R.t5) (val:=.undef) (v:=.func (.func g) #[] (R.caps.toArray.map a1.eval)) (.undef _) (fun d e=>by cases e;exact hk5)
       have hi4:=hi3.weak (s':=St.abs ⟨iP (da 0 as1) R.t5 .undef,S1⟩) (fun i=>by
        simp only [St.abs,fy,cm]
        by_cases e5:R.t5=i
        ·left;simp [e5]
        ·right;simp [e5]) rfl
       have hact:(({tmps:=a1.tmps,defers:=[{target:=.fn (.func g) (R.caps.toArray.map a1.eval),args:=#[]}]}:Act).put (some R.t5) (.func (.func g) #[] (R.caps.toArray.map a1.eval)))=
         ({(a1.put (some R.t5) (.func (.func g) #[] (R.caps.toArray.map a1.eval))) with defers:={target:=.fn (.func g) (R.caps.toArray.map a1.eval),args:=#[]} ::(a1.put (some R.t5) (.func (.func g) #[] (R.caps.toArray.map a1.eval))).defers}:Act).put none undef:=by
        simp [Act.put,hdef0]
       show Code.wp P R.rest _ (({(a1.put (some R.t5) (.func (.func g) #[] (R.caps.toArray.map a1.eval))) with defers:={target:=.fn (.func g) (R.caps.toArray.map a1.eval),args:=#[]} ::(a1.put (some R.t5) (.func (.func g) #[] (R.caps.toArray.map a1.eval))).defers}:Act).put none undef) Ω1.w
       rw [←hact]
       refine wp_mono (ko hm hT hS _ ann R.rest _ _ _ ⟨cZ L Ω1.e,Ω1.w,Ω1.pub⟩ h4 hdr.2 hi4) ?_
       intro en a2 w2 hq
       obtain ⟨z,s2,Ω2,g1,rfl,g3,g4⟩:=hq
       have hcv2:VL Ω2 caps (R.caps.map a1.eval):=by
        refine ⟨hvc.1,fun j c v hc hv=>?_⟩
        exact V.pinned g3.keep (List.all_eq_true.1 hcp c (List.mem_of_getElem? hc)) (hvc.2 j c v hc hv)
       have hcl':caps.length<=clo.ntmps:=by rw [hvc.1,List.length_map];exact hcl
       have hc6':caps.length<=R.t6:=by rw [hvc.1,List.length_map];exact hc6
       have close:∀(u u':FrameMode) (av:AV) (v:Value),u≠.run→settle u'=.returning→Rcv u av Ω2 v u'→vh C annC clo R caps av s2 (CN C fn.results.toList L s1 S1 S A s2.t)→
         Leaves P fn a2.tmps (fun en w'=>∃pub' e',match en with
          | .returned v=>(∀b pv u,A.pan=some (b,pv,u)→b=false)/\V ⟨e',w',pub'⟩ A.val v/\After w pub e (ax (cv S A.upd)) w' pub' e'
          | .panicked ch=>∃pv u v,A.pan=some (true,pv,u)/\ch=[{v,recovered:=false}]/\V ⟨e',w',pub'⟩ pv v/\After w pub e (ax (cv S u)) w' pub' e'
          | .outgrown=>False) [{target:=.fn (.func g) (R.caps.toArray.map a1.eval),args:=#[]}] u Ω2.w:=by
        intro u u' av v hu hse hrc hcr
        refine leaves_cons (f:=g) (args:=(R.caps.map a1.eval).toArray) hu (by simp [invoke,eg]) ?_
        refine (xE hm hT hS hRc hg hcb hk2 hres hcl' hc6' g3 hcv2 hrc hcr).mono ?_
        rintro en u2 w3 ⟨rfl,rfl,s3,Ω3,a3,T3,rfl,hfin,h5⟩
        simp only [hse,Leaves]
        obtain ⟨v,r1,pub',e',r2,r3,r4⟩:=AB hT h3 hdist hS1 hkS g3 h5 hpan hfin
        exact ⟨v,r1,pub',e',r2,r3,r4⟩
       have hds:a2.defers=[{target:=.fn (.func g) (R.caps.toArray.map a1.eval),args:=#[]}]:=g3.defers
       cases z with
       | normal=>cases g1;show Leaves P fn a2.tmps _ a2.defers .returning Ω2.w;rw [hds];exact close .returning .returning .nilif .nilIface (by simp) rfl (.ret Ω2) g4
       | ret=>cases g1;show Leaves P fn a2.tmps _ a2.defers .returning Ω2.w;rw [hds];exact close .returning .returning .nilif .nilIface (by simp) rfl (.ret Ω2) g4
       | exit id=>exact g4.elim
       | pan pv=>
        obtain ⟨v,rfl,hv⟩:=g1
        show Leaves P fn a2.tmps _ a2.defers (.panicking [{v,recovered:=false}]) Ω2.w
        rw [hds]
        exact close _ (.panicking [{v,recovered:=true}]) pv v (by simp) (by simp [settle]) (.pan Ω2 pv v hv) g4
      ·exact h4.elim
     ·exact h4.elim
 ·exact h.elim
end
end Go.AL
end
section
open Go Go.AL Go.Pd
namespace Go.AL.Seat
theorem Eo (c:Int) (hc:0<=c/\c<=400) :
  inR IntKind.i64 (c+(1:Int))/\if decide ((400:Int) < c+(1:Int))=true then decide ((400:Int) < c+(1:Int))=true/\c+(1:Int)=c+(1:Int)/\True else decide ((400:Int) < c+(1:Int))=false/\c+(1:Int)=c+(1:Int)/\True:=by
 refine ⟨bN (by omega) (by omega),ab (fun h=>?_) (fun h=>?_)⟩
 ·exact ⟨h,rfl,trivial⟩
 ·exact ⟨by simpa using h,rfl,trivial⟩
theorem Ep (n:Nat) (s:Shape) (l c:Int) (hs:Wf (.st .shape) s) (hn:sz s<=n+1) (hc:0<=c/\c<=400/\1<=l/\l<=c+1) :
  ((0:Int)<=c/\c<=(400:Int))/\if decide ((400:Int) < c+(1:Int))=true then decide ((400:Int) < c+(↑(sz s):Int))=true/\c+(1:Int)=(401:Int)/\True else (∃(x:Nat × Int),(x.1<=List.length s.parts/\c+(1:Int)+(↑(szL (List.take x.1 s.parts)):Int)<=(400:Int)/\deepL (List.drop x.1 s.parts) (l+(1:Int)) x.2=deepS s l)/\l=x.2/\(0:Int)=(↑x.1:Int)/\s=s/\l=l/\(0:Int)=(0:Int)/\s.parts=s.parts/\(↑(List.length s.parts):Int)=(↑(List.length s.parts):Int)/\c+(1:Int)=c+(1:Int)+(↑(szL (List.take x.1 s.parts)):Int)/\s=s/\True)/\∀(x:Nat × Int),x.1<=List.length s.parts/\c+(1:Int)+(↑(szL (List.take x.1 s.parts)):Int)<=(400:Int)/\deepL (List.drop x.1 s.parts) (l+(1:Int)) x.2=deepS s l→if decide ((↑x.1:Int) < (↑(List.length s.parts):Int))=true then ((0:Int)<=(↑x.1:Int)/\(↑x.1:Int) < (↑(List.length s.parts):Int))/\inR IntKind.i64 (l+(1:Int))/\(sz (List.getD s.parts (Int.toNat (↑x.1:Int)) (dfl (Ty.st SN.shape)))<=n/\(0:Int)<=c+(1:Int)+(↑(szL (List.take x.1 s.parts)):Int)/\c+(1:Int)+(↑(szL (List.take x.1 s.parts)):Int)<=(400:Int)/\(1:Int)<=l+(1:Int)/\l+(1:Int)<=c+(1:Int)+(↑(szL (List.take x.1 s.parts)):Int)+(1:Int))/\if decide ((400:Int) < c+(1:Int)+(↑(szL (List.take x.1 s.parts)):Int)+(↑(sz (List.getD s.parts (Int.toNat (↑x.1:Int)) (dfl (Ty.st SN.shape)))):Int))=true then decide ((400:Int) < c+(↑(sz s):Int))=true/\(401:Int)=(401:Int)/\True else inR IntKind.i64 ((↑x.1:Int)+(1:Int))/\∃(y:Nat × Int),(y.1<=List.length s.parts/\c+(1:Int)+(↑(szL (List.take y.1 s.parts)):Int)<=(400:Int)/\deepL (List.drop y.1 s.parts) (l+(1:Int)) y.2=deepS s l)/\List.length s.parts - y.1 < List.length s.parts - x.1/\max x.2 (deepS (List.getD s.parts (Int.toNat (↑x.1:Int)) (dfl (Ty.st SN.shape))) (l+(1:Int)))=y.2/\(↑x.1:Int)+(1:Int)=(↑y.1:Int)/\s=s/\l=l/\(0:Int)=(0:Int)/\s.parts=s.parts/\(↑(List.length s.parts):Int)=(↑(List.length s.parts):Int)/\c+(1:Int)+(↑(szL (List.take x.1 s.parts)):Int)+(↑(sz (List.getD s.parts (Int.toNat (↑x.1:Int)) (dfl (Ty.st SN.shape)))):Int)=c+(1:Int)+(↑(szL (List.take y.1 s.parts)):Int)/\s=s/\True else decide ((400:Int) < c+(↑(sz s):Int))=false/\x.2=deepS s l/\c+(1:Int)+(↑(szL (List.take x.1 s.parts)):Int)=c+(↑(sz s):Int)/\True:=by
 have ln:=hs.parts.len
 have hz:=dT s
 refine ⟨⟨hc.1,hc.2.1⟩,ab (fun h=>?_) (fun h=>?_)⟩
 ·replace h:=Xo h
  have:=dU s
  exact ⟨Xd (by omega),by omega,trivial⟩
 replace h:¬(400:Int) < c+1:=fun e=>h (Xd e)
 have hd0:deepL s.parts (l+1) l=deepS s l:=by cases s;rfl
 refine ⟨⟨(0,l),⟨Nat.zero_le _,by simp [szL];omega,by simpa using hd0⟩,rfl,rfl,rfl,rfl,rfl,rfl,rfl,by simp [szL],rfl,trivial⟩,?_⟩
 rintro ⟨k,d⟩ ⟨h1,h2,h3⟩
 simp only [Int.toNat_natCast] at h1 h2 h3 ⊢
 have hc0:(0:Int)<=(szL (s.parts.take k):Int):=by omega
 refine ab (fun hk=>?_) (fun hk=>?_)
 ·replace hk:=Xo hk
  have hk:k < s.parts.length:=by omega
  have hs1:=kO s.parts k (dfl (.st .shape)) hk
  have hm:=bP (getD_mem s.parts k (dfl (.st .shape)) hk)
  rw [aC s.parts k (dfl (.st .shape)) hk] at h3
  simp only [deepL] at h3
  have ht:=uW s.parts (k+1)
  refine ⟨by omega,bN (by omega) (by omega),⟨by omega,by omega,h2,by omega,by omega⟩,ab (fun h=>?_) (fun h=>?_)⟩
  ·replace h:=Xo h
   exact ⟨Xd (by omega),by trivial,by trivial⟩
  ·replace h:=fun e=>h (Xd e)
   replace h:¬(400:Int) < c+1+(szL (s.parts.take k):Int)+(sz (s.parts.getD k (dfl (.st .shape))):Int):=h
   exact ⟨bc hk ln,(k+1,_),⟨by omega,by simp only;omega,h3⟩,by simp only;omega,rfl,by simp only;omega,by trivial,by trivial,by trivial,by trivial,by trivial,by simp only;omega,by trivial,by trivial⟩
 ·replace hk:¬((k:Int) < (s.parts.length:Int)):=fun e=>hk (Xd e)
  have e:k=s.parts.length:=by omega
  subst e
  rw [List.take_length] at h2 ⊢
  rw [List.drop_length] at h3
  exact ⟨Xf (by omega),h3,by omega,trivial⟩
theorem CP (s:Shape) (hs:Wf (.st .shape) s) :
  (sz s<=sz s/\(0:Int)<=(0:Int)/\(0:Int)<=(400:Int)/\(1:Int)<=(1:Int)/\(1:Int)<=(0:Int)+(1:Int))/\if decide ((400:Int) < (0:Int)+(↑(sz s):Int))=true then ((401:Int)=if sz s<=(400:Nat) then (↑(sz s):Int) else (401:Int))/\((0:Int)=if sz s<=(400:Nat) then deepS s (1:Int) else (0:Int))/\false=decide (sz s<=(400:Nat))/\True else ((0:Int)+(↑(sz s):Int)=if sz s<=(400:Nat) then (↑(sz s):Int) else (401:Int))/\(deepS s (1:Int)=if sz s<=(400:Nat) then deepS s (1:Int) else (0:Int))/\true=decide (sz s<=(400:Nat))/\True:=by
 refine ⟨by simp,ab (fun h=>?_) (fun h=>?_)⟩
 ·replace h:=Xo h
  have h':¬sz s<=400:=by omega
  rw [if_neg h',if_neg h']
  exact ⟨rfl,rfl,by simp [h'],trivial⟩
 ·replace h:¬(400:Int) < 0+(sz s:Int):=fun e=>h (Xd e)
  have h':sz s<=400:=by omega
  rw [if_pos h',if_pos h']
  exact ⟨by omega,by trivial,by simp [h'],trivial⟩
end Go.AL.Seat
end
section
namespace Go.Pd
open Go.AL
mutual
def sizeF:Shape→Int→Int
 | ⟨_,_,_,_,ps⟩,m=>sizeL ps 1 m
def sizeL:List Shape→Int→Int→Int
 | [],n,_=>n
 | p ::r,n,m=>if n<=m then sizeL r (n+sizeF p (m - n)) m else n
end
mutual
theorem sizeF_bd:∀(s:Shape) (m:Int),0<=m→1<=sizeF s m/\sizeF s m<=m+1
 | ⟨_,_,_,_,ps⟩,m,h=>by
  simp only [sizeF]
  exact sizeL_bd ps 1 m (by omega) (by omega)
theorem sizeL_bd:∀(l:List Shape) (n m:Int),1<=n→n<=m+1→1<=sizeL l n m/\sizeL l n m<=m+1
 | [],n,m,h1,h2=>by simp only [sizeL];omega
 | p ::r,n,m,h1,h2=>by
  simp only [sizeL]
  split
  ·have:=sizeF_bd p (m - n) (by omega)
   exact sizeL_bd r _ m (by omega) (by omega)
  ·omega
end
mutual
def deepF:Shape→Nat
 | ⟨_,_,_,_,ps⟩=>maxDeep ps+1
def maxDeep:List Shape→Nat
 | []=>0
 | p ::r=>max (deepF p) (maxDeep r)
end
mutual
theorem deepS_F:∀(s:Shape) (l:Int),deepS s l=l+deepF s - 1
 | ⟨_,_,_,_,ps⟩,l=>by
  simp only [deepS,deepF]
  rw [deepL_F ps (l+1) l (by omega)]
  omega
theorem deepL_F:∀(ps:List Shape) (m d:Int),m - 1<=d→deepL ps m d=max d (m+maxDeep ps - 1)
 | [],m,d,h=>by simp only [deepL,maxDeep];omega
 | p ::r,m,d,h=>by
  simp only [deepL,maxDeep]
  rw [deepL_F r m _ (by omega),deepS_F p m]
  omega
end
end Go.Pd
end
section
namespace Go.Pd
open Go.AL
theorem CQ {K V:Type} [DecidableEq K]:∀(m:List (K × V)) (k k':K) (v:V),ck (dX m k v) k'=if k'=k then some v else ck m k'
 | [],k,k',v=>by simp [dX,ck]
 | (a,u) ::r,k,k',v=>by
  simp only [dX]
  by_cases h:k=a
  ·subst h
   rw [if_pos rfl]
   by_cases h':k'=k <;> simp [ck,h']
  ·rw [if_neg h]
   simp only [ck,CQ r k k' v]
   by_cases h1:k'=a
   ·subst h1
    simp [Ne.symm h]
   ·simp [h1]
def aM:List Str→Int→List (Str × Int)→List (Str × Int)
 | [],_,m=>m
 | n ::r,i,m=>aM r (i+1) (dX m n i)
def cO:List Str→List Shape→Str→Option Shape
 | n ::r,p ::q,name=>if n=name then some p else cO r q name
 | _,_,_=>none
def aE (s:Shape) (name:Str):Option Shape:=cO s.names s.parts name
def aD (F:Shape→Shape→Bool) (others:Shape):List Str→List Shape→Bool
 | n ::r,p ::q=>(match aE others n with | none=>false | some x=>F p x) && aD F others r q
 | _,_=>true
def bD (F:Shape→Shape→Bool):List Shape→List Shape→Bool
 | [],[]=>true
 | [p],[q]=>F p q
 | p ::r,q ::s=>F q p && bD F r s
 | _,_=>false
def au:Nat→Shape→Shape→Bool
 | 0,_,_=>false
 | n+1,a,b=>
  decide (a.kind=b.kind) && decide (a.pkg=b.pkg) && decide (a.name=b.name) &&
   (if a.kind=6 then aD (fun p x=>au n x p) a b.names b.parts
   else if a.kind=7 then aD (au n) b a.names a.parts
   else bD (au n) a.parts b.parts)
def bH (a b:Shape):Bool:=decide (aq a=0) && decide (aq b=0) && au 800 a b
theorem gP:∀(l:List Str) (i:Int) (m:List (Str × Int)) (n:Str),l.Nodup→ck (aM l i m) n=if n∈l then some (i+(l.findIdx (fun x=>decide (x=n)):Int)) else ck m n
 | [],i,m,n,_=>by simp [aM]
 | a ::r,i,m,n,h=>by
  obtain ⟨h1,h2⟩:=List.nodup_cons.1 h
  simp only [aM]
  rw [gP r (i+1) (dX m a i) n h2,CQ,List.findIdx_cons]
  by_cases e:a=n
  ·subst e
   simp [h1]
  ·by_cases hn:n∈r
   ·simp [hn,e,Ne.symm e];omega
   ·simp [hn,Ne.symm e]
theorem jV:∀(ns:List Str) (ps:List Shape) (n:Str),ns.length=ps.length→(cO ns ps n=none↔n∉ns)
 | [],ps,n,_=>by cases ps <;> simp [cO]
 | a ::r,[],n,h=>by simp at h
 | a ::r,p ::q,n,h=>by
  simp only [cO,List.mem_cons,not_or]
  by_cases e:a=n
  ·simp [e]
  ·rw [if_neg e,jV r q n (by simpa using h)]
   simp [Ne.symm e]
theorem jW:∀(ns:List Str) (ps:List Shape) (n:Str) (d:Shape),ns.length=ps.length→n∈ns→cO ns ps n=some (ps.getD (ns.findIdx (fun x=>decide (x=n))) d)
 | [],ps,n,d,_,h=>by simp at h
 | a ::r,[],n,d,h,_=>by simp at h
 | a ::r,p ::q,n,d,h,hm=>by
  simp only [cO,List.findIdx_cons]
  by_cases e:a=n
  ·simp [e]
  ·rw [if_neg e]
   have hm':n∈r:=by
    rcases List.mem_cons.1 hm with h | h
    ·exact absurd h.symm e
    ·exact h
   rw [jW r q n d (by simpa using h) hm']
   simp [e]
theorem ld:∀{ns:List Str} {ps:List Shape} {n:Str} {p:Shape},cO ns ps n=some p→p∈ps
 | [],ps,n,p,h=>by cases ps <;> simp [cO] at h
 | a ::r,[],n,p,h=>by simp [cO] at h
 | a ::r,b ::q,n,p,h=>by
  simp only [cO] at h
  split at h
  ·simp at h;subst h;simp
  ·exact List.mem_cons_of_mem _ (ld h)
theorem il {F G:Shape→Shape→Bool} (o:Shape):∀(ns:List Str) (ps:List Shape),(∀p∈ps,∀x∈o.parts,F p x=G p x)→aD F o ns ps=aD G o ns ps
 | [],ps,_=>by cases ps <;> rfl
 | n ::r,[],_=>rfl
 | n ::r,p ::q,h=>by
  simp only [aD]
  rw [il o r q fun p hp x hx=>h p (List.mem_cons_of_mem _ hp) x hx]
  cases hp:aE o n with
  | none=>rfl
  | some x=>simp only [h p (by simp) x (ld hp)]
theorem pU {F G:Shape→Shape→Bool}:∀(us vs:List Shape),(∀p∈us,∀q∈vs,F p q=G p q/\F q p=G q p)→bD F us vs=bD G us vs
 | [],[],_=>rfl
 | [],_ ::_,_=>rfl
 | [p],[q],h=>by simp only [bD];exact (h p (by simp) q (by simp)).1
 | [p],[],_=>rfl
 | p ::p' ::r,[],_=>rfl
 | [p],q ::q' ::s,h=>by
  simp only [bD]
  rw [(h p (by simp) q (by simp)).2]
 | p ::p' ::r,[q],h=>by
  simp only [bD]
  rw [(h p (by simp) q (by simp)).2]
 | p ::p' ::r,q ::q' ::s,h=>by
  simp only [bD]
  rw [(h p (by simp) q (by simp)).2,pU (p' ::r) (q' ::s) fun x hx y hy=>h x (List.mem_cons_of_mem _ hx) y (List.mem_cons_of_mem _ hy)]
theorem ji:∀(n m:Nat) (a b:Shape),sz a+sz b<=n→sz a+sz b<=m→au n a b=au m a b
 | 0,m,a,b,h,_=>absurd (dU a) (by omega)
 | n+1,0,a,b,_,h=>absurd (dU a) (by omega)
 | n+1,m+1,a,b,h,k=>by
  have ea:=dT a
  have eb:=dT b
  have le:∀p∈a.parts,∀q∈b.parts,au n p q=au m p q/\au n q p=au m q p:=fun p hp q hq=>by
   have h1:=bP hp
   have h2:=bP hq
   exact ⟨ji n m p q (by omega) (by omega),ji n m q p (by omega) (by omega)⟩
  simp only [au]
  rw [il (F:=fun p x=>au n x p) (G:=fun p x=>au m x p) a b.names b.parts fun p hp x hx=>(le x hx p hp).1,
   il b a.names a.parts fun p hp x hx=>(le p hp x hx).1,pU a.parts b.parts le]
theorem bJ {s:Shape} (h:ai s=true) (hk:s.kind=6∨s.kind=7):s.names.length=s.parts.length/\s.names.Nodup/\s.pkg=[]/\s.name=[]/\∀n∈s.names,ba n=true:=by
 unfold ai at h
 simp only at h
 rw [if_neg (by omega),if_neg (by omega),if_pos hk] at h
 simp only [cw,Bool.and_eq_true,decide_eq_true_eq,List.all_eq_true] at h
 exact ⟨h.2.1.1,h.2.2,h.1.1,h.1.2,h.2.1.2⟩
theorem rH {s:Shape} (h:ai s=true) (hk:s.kind=5):s.parts.length=1/\s.names=[]/\s.pkg=[]/\s.name=[]:=by
 unfold ai at h
 simp only at h
 rw [if_neg (by omega),if_pos hk] at h
 simp only [Bool.and_eq_true,decide_eq_true_eq] at h
 exact ⟨h.2,h.1.2,h.1.1.1,h.1.1.2⟩
theorem pV {s:Shape} (h:ai s=true) (hk:s.kind=8):0 < s.parts.length/\s.names=[]/\s.pkg=[]/\s.name=[]:=by
 unfold ai at h
 simp only at h
 rw [if_neg (by omega),if_neg (by omega),if_neg (by omega),if_pos hk] at h
 simp only [Bool.and_eq_true,decide_eq_true_eq,Bool.not_eq_true',decide_eq_false_iff_not] at h
 exact ⟨List.length_pos_iff.2 h.2,h.1.2,h.1.1.1,h.1.1.2⟩
theorem rI {s:Shape} (h:ai s=true) (hk:s.kind=1∨s.kind=2∨s.kind=3∨s.kind=4):s.parts=[]/\s.names=[]/\s.pkg=[]/\s.name=[]:=by
 unfold ai at h
 simp only at h
 rw [if_pos hk] at h
 simp only [Bool.and_eq_true,decide_eq_true_eq] at h
 exact ⟨h.2,h.1.2,h.1.1.1,h.1.1.2⟩
theorem vi {s:Shape} (h:ai s=true) (hk:s.kind=9∨s.kind=10):s.parts=[]/\s.names=[]:=by
 unfold ai at h
 simp only at h
 rw [if_neg (by omega),if_neg (by omega),if_neg (by omega),if_neg (by omega)] at h
 rcases hk with hk | hk
 ·rw [if_pos hk] at h
  simp only [Bool.and_eq_true,decide_eq_true_eq] at h
  exact ⟨h.2,h.1.2⟩
 ·rw [if_neg (by omega),if_pos hk] at h
  simp only [Bool.and_eq_true,decide_eq_true_eq] at h
  exact ⟨h.2,h.1.2⟩
theorem AD {s:Shape} (h:ai s=true):1<=s.kind/\s.kind<=10:=by
 unfold ai at h
 simp only at h
 repeat' (split at h)
 all_goals first | omega | cases h
theorem cD {f:Shape→Bool} {s:Shape} (h:allS f s=true):f s=true/\allL f s.parts=true:=by
 rw [fJ,Bool.and_eq_true] at h
 exact h
def fK (F:Shape→Shape→Bool):List Shape→List Shape→Bool
 | p ::r,q ::s=>F q p && fK F r s
 | _,_=>true
theorem vj {F:Shape→Shape→Bool}:∀{us vs:List Shape},us.length≠vs.length→bD F us vs=false
 | [],[],h=>absurd rfl h
 | [],_ ::_,_=>rfl
 | [_],[],_=>rfl
 | _ ::_ ::_,[],_=>rfl
 | [p],[q],h=>absurd rfl h
 | [p],q ::q' ::s,_=>by simp [bD]
 | p ::p' ::r,[q],_=>by simp [bD]
 | p ::p' ::r,q ::q' ::s,h=>by
  simp only [bD]
  rw [vj (us:=p' ::r) (vs:=q' ::s) (by simpa using h),Bool.and_false]
theorem tx {F:Shape→Shape→Bool}:∀(us vs:List Shape) (d:Shape),us.length=vs.length→0 < us.length→
  bD F us vs=(F (us.getD (us.length - 1) d) (vs.getD (us.length - 1) d) && fK F (us.take (us.length - 1)) (vs.take (us.length - 1)))
 | [p],[q],d,_,_=>by simp [bD,fK]
 | p ::p' ::r,[],d,h,_=>by simp at h
 | p ::p' ::r,[q],d,h,_=>by simp at h
 | p ::p' ::r,q ::q' ::s,d,h,_=>by
  have:=tx (F:=F) (p' ::r) (q' ::s) d (by simpa using h) (by simp)
  simp only [bD]
  rw [this]
  simp only [List.length_cons,Nat.add_sub_cancel,List.getD_cons_succ,List.take_succ_cons,fK]
  cases F q p <;> simp
end Go.Pd
end
section
namespace Go.Pd
open Go.AL
def p0 (A:Ans):Pat
 | [],[]=>some A
 | _,_=>none
theorem EZ [Tabs] {P:Program} {f:Nat} {A:Ans} (he:aF P f) (h:aB P f [] [] A):aj P f (p0 A):=by
 intro args S A' hA _ _
 unfold p0 at hA
 split at hA
 ·simp only [Xs] at hA
  subst hA
  exact ⟨he,h⟩
 ·cases hA
end Go.Pd
end
section
namespace Go.Pd
open Go.AL
mutual
theorem eqS_refl:∀a:Shape,eqS a a=true
 | ⟨k,p,n,ns,ps⟩=>by simp [eqS,eqL_refl ps]
theorem eqL_refl:∀a:List Shape,eqL a a=true
 | []=>rfl
 | a ::r=>by simp [eqL,eqS_refl a,eqL_refl r]
end
end Go.Pd
end
section
namespace Go.Pd
open Go.AL
def nI:List Bndg→Bool
 | []=>true
 | b ::r=>if 800 < sizeF b.shape 800 then false else nI r
def gQ (l:List Bndg):Bool:=if 60 < (l.length:Int) then false else nI l
def jj (e:Envt):Bool:=gQ e.types && gQ e.values && gQ e.own
theorem CR {l:List Bndg} (h:gQ l=true):l.length<=60:=by
 unfold gQ at h
 split at h
 ·cases h
 ·omega
def bL (env:Envt) (b:List Bndg):Envt:=⟨env.self,env.types,env.values++b,env.own⟩
def szB:List Bndg→Nat
 | []=>0
 | b ::r=>sz b.shape+szB r
theorem CS:∀(l:List Bndg),∀x∈l,sz x.shape<=szB l
 | [],x,h=>by cases h
 | b ::r,x,h=>by
  rcases List.mem_cons.1 h with rfl | h
  ·rw [szB];omega
  ·have:=CS r x h;rw [szB];omega
end Go.Pd
end
section
open Go Go.AL Go.Pd
namespace Go.AL.Seat
theorem AE (l:List Bndg) (hl:Wf (.lst (.st .bind)) l) (ho:l.length *120<=140737488355328) :
  ∀(b:Bool),(b=true→l=[])→if b=true then True/\l=[]/\List.length l=(0:Nat)/\True else (List.length ([]:List Bndg)=List.length ([]:List Bndg)/\(List.length ([]:List Bndg)+List.length l) *(120:Nat)<=(140737488355328:Nat))/\True/\[]++l=l/\List.length ([]++l)=List.length l/\True:=by
 intro b hb
 refine ab (fun h=>?_) (fun h=>?_)
 ·have:=hb h
  exact ⟨trivial,this,by rw [this];rfl,trivial⟩
 ·exact ⟨⟨rfl,by simp only [List.length_nil];omega⟩,trivial,rfl,rfl,trivial⟩
end Go.AL.Seat
end
section
open Go Go.AL Go.Proofs Go.Shelf Go.Pd
namespace Go.AL.Seat
variable [Tabs]
def nn:Nat→Bool:=fun _=>false
def cf (k:Nat→Bool) (l:Nat→List (Option Nat)) (p r m:Nat→Bool) (s:Nat→List AV→List (Nat × SObj)→Option Ans):Cfg:=⟨tbl,s,k,l,p,r,m⟩
def a0:An:=⟨[],[],[]⟩
theorem g1 (k:Nat→Bool) (l:Nat→List (Option Nat)) (p r m:Nat→Bool) {s:Nat→List AV→List (Nat × SObj)→Option Ans} (hS:bY Tryz.prog s) (a:An) {f:Nat} {fn:Func} (hf:Tryz.prog.funcs[f]?=some fn)
  {args:List AV} {S:List (Nat × SObj)} {A:Ans} {Q:Prop} (q:Q) (h:fwp (cf k l p r m s) a fn args S A=Q:=by kernel_rfl):aB Tryz.prog f args S A:=Cs (C:=cf k l p r m s) mixed pT hS hf q h
theorem g0 {s:Nat→List AV→List (Nat × SObj)→Option Ans} (hS:bY Tryz.prog s) (a:An) {f:Nat} {fn:Func} (hf:Tryz.prog.funcs[f]?=some fn)
  {args:List AV} {S:List (Nat × SObj)} {A:Ans} {Q:Prop} (q:Q) (h:fwp (cf nn (fun _=>[]) nn nn nn s) a fn args S A=Q:=by kernel_rfl):aB Tryz.prog f args S A:=Cs (C:=cf nn (fun _=>[]) nn nn nn s) mixed pT hS hf q h
theorem sc {f:Nat} {g:Pat} {l:List (Nat × Pat)} (h:aj Tryz.prog f g) (hl:bY Tryz.prog (gZ l)):bY Tryz.prog (gZ ((f,g) ::l)):=pC h hl
theorem sn:bY Tryz.prog (gZ []):=rD
theorem ee {f:Nat} {fn:Func} (h:Tryz.prog.funcs[f]?=some fn) (e:(fn.body.isNone || (fn.name == "runtime.NumGoroutine"))=false:=by kernel_rfl):aF Tryz.prog f:=aF.mk' h e
theorem CT:aj Tryz.prog 55 (tn 95):=
 xx (ee Tryz.func55) fun c hc=>g0 sn a0 Tryz.func55 (Eo c hc)
theorem zu:aF Tryz.prog 54:=ee Tryz.func54
theorem xF (n:Nat) (s:AL.Shape) (l c:Int) (hs:Wf (.st .shape) s) (hn:sz s<=n+1) (hc:0<=c/\c<=400/\1<=l/\l<=c+1) (hA:aj Tryz.prog 54 (om 95 55 n)):aB Tryz.prog 54 [.st .shape s,.int .i64 l,.fn 55 [.ptr 900 0]] [(900,.box (.int .i64 c))] (Cy 95 s l c (sz s<=n+1)):=
 g0 (sc CT (sc (hA) sn)) ⟨[(4,fun S0=>⟨Nat × Int,fun x=>x.1<=s.parts.length/\c+1+(szL (s.parts.take x.1):Int)<=400/\deepL (s.parts.drop x.1) (l+1) x.2=deepS s l,fun x=>[(7,.int .i64 x.2),(16,.int .i64 x.1)],fun x=>[(900,.box (.int .i64 (c+1+(szL (s.parts.take x.1):Int))))],fun x=>s.parts.length - x.1⟩)],[],[]⟩ Tryz.func54 (Ep n s l c hs hn hc)
theorem CU:∀n:Nat,aj Tryz.prog 54 (om 95 55 n):=by
 intro n
 induction n with
 | zero=>exact pH zu fun s l c hs hn hc=>absurd hn (by have:=dU s;omega)
 | succ n ih=>exact pH zu fun s l c hs hn hc=>xF n s l c hs hn hc ih
theorem vk (s:AL.Shape) (hs:Wf (.st .shape) s) :aB Tryz.prog 28 [.st .shape s] [] (.ret (.tup [.int .i64 (if sz s<=400 then (sz s:Int) else 401),.int .i64 (if sz s<=400 then deepS s 1 else 0),.bool (decide (sz s<=400))])):=
 fwpR_sound (C:=⟨tbl,_,fun _=>false,fun _=>[],fun _=>false,fun _=>false,fun _=>false⟩) (ann:=⟨[],[],[]⟩) (annC:=⟨[],[],[]⟩) mixed pT (pC (CU (sz s)) (rD)) Tryz.func28 Tryz.func53 (enters_of Tryz.func53 (by kernel_rfl) rfl) (@Eq.mpr _ _ (by kernel_rfl) (CP s hs))
theorem rJ:aj Tryz.prog 28 (p1 (.st .shape) fun s=>.ret (.tup [.int .i64 (if sz s<=400 then (sz s:Int) else 401),.int .i64 (if sz s<=400 then deepS s 1 else 0),.bool (decide (sz s<=400))])):=
 cu (ee Tryz.func28) fun s hs _=>vk s hs
theorem pW:aj Tryz.prog 95 (p1 (.lst (.st .bind)) fun l=>⟨some (l.length *120<=140737488355328),none,.lst (.st .bind) l (some 5),[(5,.tail (.st .bind) l.length)]⟩):=
 cu (ee Tryz.func95) fun l hl ho=>g0 sn a0 Tryz.func95 (AE l hl (ho _ rfl))
end Go.AL.Seat
end
section
namespace Go.Proofs
open Go.RowKit Go.Shelf Go.AL
theorem Tryz.compare (a b:ByteArray) (w:World):Calls Tryz.prog 99 #[.string a,.string b] w fun e w'=>e=.returned (.int .i64 (Lib.compareBytes a.data.toList b.data.toList))/\w'=w:=Any.strings_Compare Tryz.lays106 a b w
set_option maxRecDepth 100000 in
set_option maxHeartbeats 2000000 in
theorem Tryz.cmp62 (W:World) (b o g off cap len i j:Nat) (si sj:Str) (h1:W.cell? ⟨b,o+3,none⟩=some (.slice (some ⟨g,off,none⟩) len cap)) (hi:i < len) (hj:j < len) (ci:W.cell? ⟨g,off+i,none⟩=some (encStr si)) (cj:W.cell? ⟨g,off+j,none⟩=some (encStr sj)) :
  Calls Tryz.prog 98 #[.int .i64 i,.int .i64 j,.pointer (some ⟨b,o,none⟩)] W fun e w'=>e=.returned (.int .i64 (Lib.compareBytes si sj))/\∃q,w'=W.drewN q:=by
 go_enter Tryz.func98,Tryz.ntmps98
 go_wp2
 go_quiet (first | (go_at_call 99;refine Calls.quiet_of_same (Tryz.compare _ _ _)))
 go_wp2
 go_ret
 exact ⟨rfl,_,rfl⟩
end Go.Proofs
end
section
namespace Go.AL.Seat
open Go Go.AL Go.Proofs Go.Shelf
variable [Tabs]
theorem lP:aj Tryz.prog 97 (dS 98):=
 pG Tryz.sortf61 rfl (enters_of Tryz.func98 (by kernel_rfl) rfl) (fun W b o g0 off cap len i j si sj h1 h2 h3 h4 h5=>Tryz.cmp62 W b o g0 off cap len i j si sj h1 h2 h3 h4 h5) (aF.mk' Tryz.func97 (by kernel_rfl))
end Go.AL.Seat
end
section
namespace Go.AL
open Go.Shelf Go.Proofs Go.RowKit
variable [Tabs] {P:Program} {ρ:Ren}
theorem After.newRow {w w':World} {pub:Nat→Nat→Prop} {e:Nat→Option CObj} (hp:js w pub) (hd:∀id,e id=none) (hb:Below w.heap.size w w') {g:Nat} (hg:w.heap.size<=g) {p:Nat→Prop} (hc:∀o,p o→∃v,w'.cell? ⟨g,o,none⟩=some v) :
  After w pub e (ax (cv [] [])) w' (fun b o=>pub b o∨(b=g/\p o)) e where
 os:=hb.os
 tape:=hb.tape
 output:=hb.output
 size:=hb.size
 block b h _:=hb.block b h
 cell b o h _:=ar (hb.block b h) o
 kind b h _:=⟨bp (hb.block b h),fun o=>b9 (hb.block b h) o⟩
 ext:=⟨fun _ c h=>⟨c,h,CLe.refl c⟩,fun _ _ h=>.inl h,fun b o h=>by obtain ⟨v,hv⟩:=hp b o h;exact ar (hb.block b (b8 hv)) o⟩
 fresh b o h:=by
  rcases h with h | ⟨rfl,_⟩
  ·exact .inl h
  ·exact .inr (.inl hg)
 ok b o h:=by
  rcases h with h | ⟨rfl,h⟩
  ·obtain ⟨v,hv⟩:=hp b o h;exact ⟨v,(ar (hb.block b (b8 hv)) o).trans hv⟩
  ·exact hc o h
 slots id o h:=by simp [cv,aZ,aU] at h
 dom id _:=hd id
 inj i j c d b o h:=by rw [hd i] at h;cases h
theorem vl (L:Lays2.n16 P ρ) (l:List Str) (hb:l.length *16<=140737488355328) {ob:Option Prop}:aB P (ρ.f 16) [.lst .str l none] [] ⟨ob,none,.lst .str l none,[]⟩:=by
 intro w pub e vs hp ht hv hs hd hi
 have he:e=fun _=>none:=funext fun id=>hd id rfl
 subst he
 obtain ⟨v,rfl,hV⟩:=hv.one_inv
 cases hV with
 | lstNil _ _ tok=>
  refine (Any.slices_Clone_string_nil L 0 0 w).mono ?_
  rintro en w' ⟨rfl,rfl⟩
  exact ⟨pub,_,fun b pv u h=>(by cases h),.lstNil _ _ tok,After.below hp (fun _=>rfl) (Below.refl _ _)⟩
 | lstVoid _ a=>
  refine (Any.slices_Clone_string_zero L a 0 w).mono ?_
  rintro en w' ⟨v',rfl,⟨hl,hrow⟩,hn,hbw⟩
  refine ⟨pub,_,fun b pv u h=>(by cases h),?_,After.below hp (fun _=>rfl) hbw⟩
  rcases hrow with ⟨rfl,hz⟩ | ⟨g,cap,cur,rfl,hbase,hg,h1,h2,h3,h4⟩
  ·exact absurd rfl hn
  ·exact .lst .str [] none g 0 cap (fun _ _=>.bool false) (Nat.zero_le _) (by unfold maxLen at h2;unfold bE;omega) (fun id h=>by cases h) (fun i x hx=>by cases hx) (fun i x hx=>by cases hx)
 | lst _ _ _ b off cap vals h1 h2 tok hcell hval=>
  have at_:∀i (hi:i < l.length),w.cell? ⟨b,off+i,none⟩=some (.string ⟨l[i].toArray⟩)/\l[i].length<=bE:=fun i hi=>by
   have hx:l[i]?=some l[i]:=List.getElem?_eq_getElem hi
   obtain ⟨_,c1⟩:=hcell i l[i] hx 0 (.str l[i]) rfl
   have c2:=hval i l[i] hx 0 (.str l[i]) rfl
   obtain ⟨c3,c4⟩:=c2.str_inv
   rw [c3,show off+(i *ah .str+0)=off+i by rw [show ah .str=1 from rfl];omega] at c1
   exact ⟨c1,c4⟩
  refine (Any.slices_Clone_string L b off l.length cap (l.map fun s=>(⟨s.toArray⟩:ByteArray)) w (by simp) hb (fun j hj=>?_)).mono ?_
  ·have hj':j < l.length:=by simpa using hj
   rw [(at_ j hj').1,List.getD_eq_getElem?_getD,List.getElem?_map,List.getElem?_eq_getElem hj']
   rfl
  rintro en w' ⟨v',rfl,⟨hl,hrow⟩,hn,hbw⟩
  rcases hrow with ⟨rfl,hz⟩ | ⟨g,cap',cur,rfl,hbase,hg,k1,k2,k3,k4⟩
  ·exact absurd rfl hn
  have hcur:∀i (hi:i < l.length),cur[i]?=some (.string ⟨l[i].toArray⟩):=fun i hi=>by
   have:(cur.toList.take (l.length *1))[i]?=some (.string ⟨l[i].toArray⟩):=by
    rw [k4,List.getElem?_map,List.getElem?_take]
    simp [hi]
   rw [List.getElem?_take] at this
   split at this
   ·simpa using this
   ·cases this
  refine ⟨fun b o=>pub b o∨(b=g/\o < l.length),_,fun b pv u h=>(by cases h),?_,After.newRow hp (fun _=>rfl) hbw hbase (p:=fun o=>o < l.length) (fun o ho=>⟨_,by rw [aR hg];exact hcur o ho⟩)⟩
  refine .lst .str l none g 0 cap' (fun i _=>.string ⟨(l.getD i []).toArray⟩) k1 (by unfold maxLen at k2;unfold bE;omega) (fun id h=>by cases h) (fun i x hx j c hc=>?_) (fun i x hx j c hc=>?_)
  ·obtain ⟨hi,rfl⟩:=List.getElem?_eq_some_iff.1 hx
   have hj:j=0:=by
    cases j with
    | zero=>rfl
    | succ j=>simp [cells] at hc
   subst hj
   rw [show 0+(i *ah .str+0)=i by rw [show ah .str=1 from rfl];omega]
   refine ⟨.inr ⟨rfl,hi⟩,?_⟩
   show w'.cell? ⟨g,i,none⟩=_
   rw [aR hg,hcur i hi,List.getD_eq_getElem?_getD,List.getElem?_eq_getElem hi]
   rfl
  ·obtain ⟨hi,rfl⟩:=List.getElem?_eq_some_iff.1 hx
   have hj:j=0:=by
    cases j with
    | zero=>rfl
    | succ j=>simp [cells] at hc
   subst hj
   have e1:c=.str l[i]:=by simpa [cells] using hc.symm
   subst e1
   rw [List.getD_eq_getElem?_getD,List.getElem?_eq_getElem hi]
   exact .str _ (at_ i hi).2
def vm:Pat:=p1 (.lst .str) fun l=>⟨some (l.length *16<=140737488355328),none,.lst .str l none,[]⟩
theorem vn {f:Nat} (L:Lays2.n16 P ρ) (hf:ρ.f 16=f) (he:aF P f):aj P f vm:=by
 subst hf
 exact cu he fun l _ ho=>vl L l (ho _ rfl)
end Go.AL
end
section
namespace Go.Proofs
open Go.Shelf
def Tryz.lays2_16_ren:Go.Shelf.Ren:=⟨fun | 16=>193 | n=>n,fun | 24=>22 | 9=>9 | 4=>4 | n=>n,fun | n=>n⟩
theorem Tryz.lays2_16:Go.Proofs.Lays2.n16 Tryz.prog Tryz.lays2_16_ren:={
 mixed:=by kernel_rfl
 f16:=Xt Tryz.func193
 t4:=Tryz.underlying4
 a4:=Tryz.isAgg4
 z4:=Tryz.sizeOf4
 v4:=Tryz.zeroValue4
 t9:=Tryz.underlying9
 a9:=Tryz.isAgg9
 z9:=Tryz.sizeOf9
 v9:=Tryz.zeroValue9
 t24:=Tryz.underlying22
 a24:=Tryz.isAgg22
 z24:=Tryz.sizeOf22
 v24:=Tryz.zeroValue22
 i9:=by kernel_rfl}
end Go.Proofs
end
section
namespace Go.AL.Seat
open Go Go.AL Go.Proofs Go.Shelf Go.Pd
variable [Tabs]
theorem mM:aj Tryz.prog 193 vm:=vn Tryz.lays2_16 rfl (aF.mk' Tryz.func193 (by kernel_rfl))
end Go.AL.Seat
end
section
namespace Go.Pd
open Go.AL
variable {l:List Tokn} {R:PS→Trm × PS}
end Go.Pd
namespace Go.Pd
open Go.AL
structure TokG (t:Tokn):Prop where
 kind:¬t.kind=0
 name:t.kind=1→ba t.text=true
 upper:t.kind=2→fc t.text=true
 num:t.kind=3→nB t.text
 pos:0<=t.pos
end Go.Pd
namespace Go.Pd
open Go.AL
end Go.Pd
end
noncomputable section
namespace Go.Pd
open Go.AL
def cN (F:Shape→Shape→Bool) (must:Bool) (b:Shape):List Str→List Shape→Bool
 | m ::r,p ::q=>(match aE b m with | none=>!must | some x=>F p x) && cN F must b r q
 | _,_=>true
def fk (F:Shape→Shape→Bool) (fn:Bool):List Shape→List Shape→Bool
 | p ::r,q ::s=>(if (fn && !r.isEmpty)=true then F q p else F p q) && fk F fn r s
 | _,_=>true
def aW:Nat→Shape→Shape→Bool
 | 0,_,_=>false
 | n+1,a,b=>decide (a.kind=4) || decide (b.kind=4) ||
   (decide (a.kind=b.kind) && decide (a.pkg=b.pkg) && decide (a.name=b.name) &&
    (if a.kind=6 then cN (aW n) false b a.names a.parts && b.names.all (fun m=>(aE a m).isSome)
    else if a.kind=7 then cN (aW n) true b a.names a.parts
    else decide (a.parts.length=b.parts.length) && fk (aW n) (decide (a.kind=8)) a.parts b.parts))
def eK (a b:Shape):Bool:=decide (aq a=0) && decide (aq b=0) && aW 800 a b
theorem lQ {s:Shape} (h:ai s=true):s.names=[]∨s.names.length=s.parts.length:=by
 unfold ai cw at h
 simp only at h
 repeat' split at h
 all_goals simp only [Bool.and_eq_true,decide_eq_true_eq,List.all_eq_true,Bool.false_eq_true] at h
 all_goals first
  | exact .inl h.1.2
  | exact .inr h.2.1.1.2
  | exact .inr h.2.1.1
  | skip
theorem mN {o:Shape} {m:Str} {x:Shape} (h:aE o m=some x):True/\x∈o.parts:=⟨trivial,ld h⟩
theorem pX (m:Str) (d:Shape):∀(ns:List Str) (ps:List Shape) (k:Nat),ns.length=ps.length→
  (cd ns m (k:Int)=-1/\cO ns ps m=none)∨∃j,j < ns.length/\cd ns m (k:Int)=((k+j:Nat):Int)/\cO ns ps m=some (ps.getD j d)
 | [],ps,k,_=>.inl ⟨rfl,by cases ps <;> rfl⟩
 | a ::r,p ::q,k,h=>by
  simp only [cd,cO]
  by_cases e:a=m
  ·rw [if_pos e,if_pos e]
   exact .inr ⟨0,by simp,by simp,rfl⟩
  ·rw [if_neg e,if_neg e]
   have:=pX m d r q (k+1) (by simpa using h)
   rw [show ((k:Int)+1)=((k+1:Nat):Int) by omega]
   rcases this with h1 | ⟨j,h1,h2,h3⟩
   ·exact .inl h1
   ·exact .inr ⟨j+1,by simp;omega,by rw [h2];omega,by rw [h3];rfl⟩
theorem rK {s:Shape} (m:Str) (d:Shape) (h:s.names=[]∨s.names.length=s.parts.length):(¬0<=cd s.names m 0/\aE s m=none)∨(0<=cd s.names m 0/\cd s.names m 0 < (s.parts.length:Int)/\aE s m=some (s.parts.getD (cd s.names m 0).toNat d)):=by
 unfold aE
 rcases h with e | e
 ·rw [e]
  exact .inl ⟨by simp [cd],by cases s.parts <;> rfl⟩
 ·rcases pX m d s.names s.parts 0 e with ⟨h1,h2⟩ | ⟨j,h1,h2,h3⟩
  ·have h1:cd s.names m 0=-1:=h1
   exact .inl ⟨by omega,h2⟩
  ·have h2:cd s.names m 0=((0+j:Nat):Int):=h2
   refine .inr ⟨by omega,by omega,?_⟩
   rw [h2,h3,Int.toNat_natCast,Nat.zero_add]
theorem CV {s:Shape} (m:Str) (d:Shape) (h:ai s=true):(¬0<=cd s.names m 0/\aE s m=none)∨(0<=cd s.names m 0/\cd s.names m 0 < (s.parts.length:Int)/\aE s m=some (s.parts.getD (cd s.names m 0).toNat d)):=rK m d (lQ h)
theorem CW {s:Shape} (h:aq s=0):(aO s).names=[]∨(aO s).names.length=(aO s).parts.length:=by
 unfold aO
 rw [if_pos h]
 obtain ⟨k,p,n,ns,ps⟩:=s
 by_cases e:ns=[]
 ·exact .inl (by rw [sortedS,if_pos e])
 ·exact .inr (by rw [sortedS];simp [e])
def tz (g:Nat) (F:Shape→Shape→Ans):Pat:=fun args S=>
 match args,S with
 | [.ptr 900 0,a,b],[(900,.box (.agg [.fn f []]))]=>
  (match Nat.beq f g,arg (.st .shape) a,arg (.st .shape) b with
  | true,some x,some y=>some (F x y)
  | _,_,_=>none)
 | _,_=>none
theorem rL [Tabs] {P:Program} {f g:Nat} {F:Shape→Shape→Ans} (he:aF P f) (h:∀a b,Wf (.st .shape) a→Wf (.st .shape) b→(∀q,(F a b).ob=some q→q)→aB P f [.ptr 900 0,.st .shape a,.st .shape b] [(900,.box (.agg [.fn g []]))] (F a b)) :
  aj P f (tz g F):=by
 intro args S A hA ho _
 unfold tz at hA
 split at hA
 ·split at hA
  ·rename_i x y hb hx hy
   simp only [Xs] at hA
   subst hA
   have e:=Nat.eq_of_beq_eq_true hb
   subst e
   exact ⟨he,aB.args (.cons (Rd.refl _) (.cons (Rd.arg hx) (.cons (Rd.arg hy) .nil))) (aB.wf fun hw=>h _ _ hw.cons.2.cons.1 hw.cons.2.cons.2.cons.1 ho)⟩
  ·cases hA
 ·cases hA
def lR (g:Nat) (F:List Str→Shape→Ans):Pat:=fun args S=>
 match args,S with
 | [a,.fn f [.ptr 900 0]],[(900,.box (.st .shape s))]=>(match Nat.beq f g,arg (.lst .str) a with | true,some x=>some (F x s) | _,_=>none)
 | _,_=>none
theorem nJ [Tabs] {P:Program} {f g:Nat} {F:List Str→Shape→Ans} (he:aF P f) (h:∀a s,Wf (.lst .str) a→(∀q,(F a s).ob=some q→q)→aB P f [.lst .str a none,.fn g [.ptr 900 0]] [(900,.box (.st .shape s))] (F a s)) :
  aj P f (lR g F):=by
 intro args S A hA ho _
 unfold lR at hA
 split at hA
 ·split at hA
  ·rename_i x hb hx
   simp only [Xs] at hA
   subst hA
   have e:=Nat.eq_of_beq_eq_true hb
   subst e
   exact ⟨he,aB.args (.cons (Rd.arg hx) (.cons (Rd.refl _) .nil)) (aB.wf fun hw=>h _ _ hw.one ho)⟩
  ·cases hA
 ·cases hA
def xG (F:Str→Shape→Ans):Pat:=fun args S=>
 match args,S with
 | [a,.ptr 900 0],[(900,.box (.st .shape s))]=>(match arg .str a with | some x=>some (F x s) | _=>none)
 | _,_=>none
theorem AF [Tabs] {P:Program} {f:Nat} {F:Str→Shape→Ans} (he:aF P f) (h:∀a s,(∀q,(F a s).ob=some q→q)→aB P f [.str a,.ptr 900 0] [(900,.box (.st .shape s))] (F a s)) :
  aj P f (xG F):=by
 intro args S A hA ho _
 unfold xG at hA
 split at hA
 ·split at hA
  ·rename_i x hx
   simp only [Xs] at hA
   subst hA
   exact ⟨he,aB.args (.cons (Rd.arg hx) (.cons (Rd.refl _) .nil)) (h _ _ ho)⟩
  ·cases hA
 ·cases hA
end Go.Pd
end
noncomputable section
namespace Go.Pd
open Go.AL
def aI:List Bndg→Str→Str→Option Shape
 | [],_,_=>none
 | b ::r,o,m=>match aI r o m with
  | some s=>some s
  | none=>if b.pkg=o/\b.name=m then some b.shape else none
def nK (l:List Bndg) (m:List (Nam × Shape)):List (Nam × Shape):=l.foldl (fun m b=>dX m ⟨b.pkg,b.name⟩ b.shape) m
def hX (l:List Bndg):List (Nam × Shape):=nK l []
def bf (m:List (Nam × Shape)) (o n:Str):Option Shape:=ck m ⟨o,n⟩
theorem zw (k:Nam):∀(l:List Bndg) (m:List (Nam × Shape)),ck (nK l m) k=match aI l k.pkg k.name with | some s=>some s | none=>ck m k
 | [],m=>rfl
 | b ::r,m=>by
  rw [nK,List.foldl_cons,←nK,zw k r,aI]
  cases aI r k.pkg k.name with
  | some s=>rfl
  | none=>
   rw [CQ]
   by_cases h:b.pkg=k.pkg/\b.name=k.name
   ·rw [if_pos h,if_pos (show k=⟨b.pkg,b.name⟩ by cases k;simp at h;rw [h.1,h.2])]
   ·rw [if_neg h,if_neg (fun e=>h (by rw [e];exact ⟨rfl,rfl⟩))]
theorem vo (l:List Bndg):bf (hX l)=aI l:=by
 funext o n
 unfold bf hX
 rw [zw]
 show (match aI l o n with | some s=>some s | none=>none)=_
 cases aI l o n <;> rfl
mutual
def fillS (g:Str→Str→Option Shape):Shape→Option Shape
 | ⟨k,o,m,ns,ps⟩=>if k=9 then g o m else (fillL g ps).map fun q=>⟨k,o,m,ns,q⟩
def fillL (g:Str→Str→Option Shape):List Shape→Option (List Shape)
 | []=>some []
 | p ::r=>match fillS g p with
  | none=>none
  | some q=>(fillL g r).map fun l=>q ::l
end
theorem lS (g:Str→Str→Option Shape) (s:Shape):fillS g s=if s.kind=9 then g s.pkg s.name else (fillL g s.parts).map fun q=>⟨s.kind,s.pkg,s.name,s.names,q⟩:=by cases s;rw [fillS]
def aw (s:Shape) (l:List Bndg):Shape × Int:=
 if aq s=0 then
  match fillS (aI l) s with
  | none=>(an,110)
  | some q=>if aq q=0 then (aO q,0) else (an,aq q)
 else (an,aq s)
def xH (A:Option (List (Nam × Shape))→Nam→Shape→Ans):Pat:=fun args S=>
 match args,S with
 | [.ptr 900 0,k,v],(900,.box a) ::r=>
  (match arg (.st .nm) k,arg (.st .shape) v with
  | some k,some v=>(match a,r with
   | .agg [.nilm],[]=>some (A none k v)
   | .map 901,[(901,.map (.st .nm) (.st .shape) m)]=>some (A (some m) k v)
   | _,_=>none)
  | _,_=>none)
 | _,_=>none
theorem AG [Tabs] {P:Program} {f:Nat} {A:Option (List (Nam × Shape))→Nam→Shape→Ans} (he:aF P f)
  (h0:∀k v,aB P f [.ptr 900 0,.st .nm k,.st .shape v] [(900,.box (.agg [.nilm]))] (A none k v))
  (h1:∀m k v,aB P f [.ptr 900 0,.st .nm k,.st .shape v] [(900,.box (.map 901)),(901,.map (.st .nm) (.st .shape) m)] (A (some m) k v)):aj P f (xH A):=by
 intro args S B hB ho _
 unfold xH at hB
 split at hB
 ·split at hB
  ·rename_i k v hk hv
   split at hB
   ·cases hB
    exact ⟨he,aB.args (.cons (Rd.refl _) (.cons (Rd.arg hk) (.cons (Rd.arg hv) .nil))) (h0 _ _)⟩
   ·cases hB
    exact ⟨he,aB.args (.cons (Rd.refl _) (.cons (Rd.arg hk) (.cons (Rd.arg hv) .nil))) (h1 _ _ _)⟩
   ·cases hB
  ·cases hB
 ·cases hB
def xI (A:Option (List (Nam × Shape))→Nam→Ans):Pat:=fun args S=>
 match args,S with
 | [.ptr 900 0,k],(900,.box a) ::r=>
  (match arg (.st .nm) k with
  | some k=>(match a,r with
   | .agg [.nilm],[]=>some (A none k)
   | .map 901,[(901,.map (.st .nm) (.st .shape) m)]=>some (A (some m) k)
   | _,_=>none)
  | _=>none)
 | _,_=>none
theorem AH [Tabs] {P:Program} {f:Nat} {A:Option (List (Nam × Shape))→Nam→Ans} (he:aF P f)
  (h0:∀k,aB P f [.ptr 900 0,.st .nm k] [(900,.box (.agg [.nilm]))] (A none k))
  (h1:∀m k,aB P f [.ptr 900 0,.st .nm k] [(900,.box (.map 901)),(901,.map (.st .nm) (.st .shape) m)] (A (some m) k)):aj P f (xI A):=by
 intro args S B hB ho _
 unfold xI at hB
 split at hB
 ·split at hB
  ·rename_i k hk
   split at hB
   ·cases hB
    exact ⟨he,aB.args (.cons (Rd.refl _) (.cons (Rd.arg hk) .nil)) (h0 _)⟩
   ·cases hB
    exact ⟨he,aB.args (.cons (Rd.refl _) (.cons (Rd.arg hk) .nil)) (h1 _ _)⟩
   ·cases hB
  ·cases hB
 ·cases hB
def lT (A:Option (List (Nam × Shape))→Shape→Ans):Pat:=fun args S=>
 match args,S with
 | [s,.ptr 900 0],(900,.box a) ::r=>
  (match arg (.st .shape) s with
  | some s=>(match a,r with
   | .agg [.nilm],[]=>some (A none s)
   | .map 901,[(901,.map (.st .nm) (.st .shape) m)]=>some (A (some m) s)
   | _,_=>none)
  | _=>none)
 | _,_=>none
theorem pY [Tabs] {P:Program} {f:Nat} {A:Option (List (Nam × Shape))→Shape→Ans} (he:aF P f)
  (h0:∀s,Wf (.st .shape) s→(∀q,(A none s).ob=some q→q)→aB P f [.st .shape s,.ptr 900 0] [(900,.box (.agg [.nilm]))] (A none s))
  (h1:∀m s,Wf (.st .shape) s→(∀q,(A (some m) s).ob=some q→q)→aB P f [.st .shape s,.ptr 900 0] [(900,.box (.map 901)),(901,.map (.st .nm) (.st .shape) m)] (A (some m) s)):aj P f (lT A):=by
 intro args S B hB ho _
 unfold lT at hB
 split at hB
 ·split at hB
  ·rename_i k hk
   split at hB
   ·cases hB
    exact ⟨he,aB.args (.cons (Rd.arg hk) (.cons (Rd.refl _) .nil)) (aB.wf fun hw=>h0 _ hw.cons.1 ho)⟩
   ·cases hB
    exact ⟨he,aB.args (.cons (Rd.arg hk) (.cons (Rd.refl _) .nil)) (aB.wf fun hw=>h1 _ _ hw.cons.1 ho)⟩
   ·cases hB
  ·cases hB
 ·cases hB
def pZ (A0:Ans) (A1:Bndg→List Bndg→Ans):Pat:=fun args S=>
 match args,S with
 | [a],[]=>(match arg (.lst (.st .bind)) a with | some []=>some A0 | some (b ::r)=>some (A1 b r) | none=>none)
 | _,_=>none
theorem vp [Tabs] {P:Program} {f:Nat} {A0:Ans} {A1:Bndg→List Bndg→Ans} (he:aF P f)
  (h0:aB P f [.lst (.st .bind) [] none] [] A0) (h1:∀b r,Wf (.lst (.st .bind)) (b ::r)→aB P f [.lst (.st .bind) (b ::r) none] [] (A1 b r)):aj P f (pZ A0 A1):=by
 intro args S B hB ho _
 unfold pZ at hB
 split at hB
 ·split at hB
  ·rename_i hk
   cases hB
   exact ⟨he,aB.args (.cons (Rd.arg hk) .nil) h0⟩
  ·rename_i b r hk
   cases hB
   exact ⟨he,aB.args (.cons (Rd.arg hk) .nil) (aB.wf fun hw=>h1 _ _ hw.one)⟩
  ·cases hB
 ·cases hB
end Go.Pd
end
section
namespace Go.Pd
open Go.AL
def ofK (k:Int):Shape:=⟨k,[],[],[],[]⟩
theorem hZ (b:Bndg) (o m:Str):∀l:List Bndg,aI (l++[b]) o m=if b.pkg=o/\b.name=m then some b.shape else aI l o m
 | []=>rfl
 | x ::r=>by
  rw [List.cons_append,aI,hZ b o m r,aI]
  by_cases h:b.pkg=o/\b.name=m
  ·rw [if_pos h,if_pos h]
  ·rw [if_neg h,if_neg h]
theorem vq (l:List Bndg) (o m:Str) (d:Bndg) {k:Nat} (h:k < l.length):aI (l.take (k+1)) o m=if (l.getD k d).pkg=o/\(l.getD k d).name=m then some (l.getD k d).shape else aI (l.take k) o m:=by
 have e:l.take (k+1)=l.take k++[l.getD k d]:=by rw [List.take_succ];simp [List.getD_eq_getElem?_getD,h]
 rw [e,hZ]
def ot (o m:Str):Shape:=⟨10,o,m,[],[]⟩
def ec (m:Str) (s:Shape):Bndg:=⟨[],m,s⟩
def cW:Flt:=⟨0,0⟩
def aA (T:Trm→Envt→Shape × Flt) (p:Trm) (want:Shape) (env:Envt):Flt:=
 if (T p env).2.err=0/\eK (T p env).1 want=false then ⟨140,p.pos⟩ else (T p env).2
def dV (T:Trm→Envt→Shape × Flt) (env:Envt):List Trm→List Shape→Flt
 | p ::r,w ::q=>if (aA T p w env).err=0 then dV T env r q else aA T p w env
 | _,_=>cW
def cE (T:Trm→Envt→Shape × Flt) (env:Envt) (w:Shape):List Trm→Flt
 | p ::r=>if (aA T p w env).err=0 then cE T env w r else aA T p w env
 | []=>cW
def ae (l:List Bndg) (at_:Int):List Shape→List Shape × Flt
 | []=>([],cW)
 | s ::r=>if (aw s l).2=0 then (if (ae l at_ r).2.err=0 then ((aw s l).1 ::(ae l at_ r).1,cW) else ([],(ae l at_ r).2)) else ([],⟨(aw s l).2,at_⟩)
def bV (T:Trm→Envt→Shape × Flt) (env:Envt):List Trm→List Shape × (Shape × Flt)
 | []=>([],(an,cW))
 | p ::r=>if (T p env).2.err=0 then ((T p env).1 ::(bV T env r).1,(bV T env r).2) else ([],T p env)
def bU (T:Trm→Envt→Shape × Flt) (t:Trm) (env:Envt):Shape × Flt:=
 let r:=T (t.parts.getD 0 az) env
 if r.2.err=0 then
  if r.1.kind=4 then
   (if (cE T env (ofK 4) (t.parts.drop 1)).err=0 then (r.1,cW) else (r.1,cE T env (ofK 4) (t.parts.drop 1)))
  else if r.1.kind=8/\r.1.parts.length=t.parts.length then
   (if (dV T env (t.parts.drop 1) r.1.parts).err=0 then (r.1.parts.getD (r.1.parts.length - 1) an,cW) else (r.1,dV T env (t.parts.drop 1) r.1.parts))
  else (r.1,⟨140,t.pos⟩)
 else r
def bW (T:Trm→Envt→Shape × Flt) (t:Trm) (env:Envt):Shape × Flt:=
 let r:=T (t.parts.getD 0 az) env
 if r.2.err=0 then
  if r.1.kind=4 then r
  else if r.1.kind=6/\(aE r.1 t.name).isSome=true then ((aE r.1 t.name).getD an,cW)
  else (r.1,⟨140,t.pos⟩)
 else r
def dt (l:List Bndg) (m:Str):Option Shape:=match l with
 | []=>none
 | b ::r=>match dt r m with
  | some s=>some s
  | none=>if b.name=m then some b.shape else none
def cX (T:Trm→Envt→Shape × Flt) (t:Trm) (env:Envt):Shape × Flt:=
 match dt env.own t.name with
 | none=>(an,⟨110,t.pos⟩)
 | some s=>if t.kind=17 then (aO s,aA T (t.parts.getD 0 az) (ot env.self t.name) env) else (ot env.self t.name,aA T (t.parts.getD 0 az) (aO s) env)
def fj (T:Trm→Envt→Shape × Flt) (env:Envt) (w:Shape):List Trm→List Str→List Shape→Flt
 | p ::r,v ::vs,s ::ss=>if (aA T p w (bL env [ec v s])).err=0 then fj T env w r vs ss else aA T p w (bL env [ec v s])
 | _,_,_=>cW
def eB:List Str→List Shape→List Bndg
 | m ::r,s ::q=>ec m s ::eB r q
 | _,_=>[]
def aJ (T:Trm→Envt→Shape × Flt) (t:Trm) (env:Envt):Shape × Flt:=
 let l:=ae env.types t.pos t.shapes
 if l.2.err=0 then
  if t.kind=6 then
   let r:=T (t.parts.getD 0 az) (bL env (eB t.names l.1))
   (⟨8,[],[],[],l.1++[r.1]⟩,r.2)
  else if t.kind=11 then
   (if (cE T env (l.1.getD 0 an) t.parts).err=0 then (⟨5,[],[],[],l.1⟩,cW) else (l.1.getD 0 an,cE T env (l.1.getD 0 an) t.parts))
  else if t.kind=15 then (l.1.getD 0 an,aA T (t.parts.getD 0 az) (l.1.getD 0 an) env)
  else if t.kind=12 then
   (l.1.getD 0 an,
    if (aA T (t.parts.getD 0 az) (ofK 2) env).err=0 then
     (if (aA T (t.parts.getD 1 az) (l.1.getD 0 an) env).err=0 then aA T (t.parts.getD 2 az) (l.1.getD 0 an) env else aA T (t.parts.getD 1 az) (l.1.getD 0 an) env)
    else aA T (t.parts.getD 0 az) (ofK 2) env)
  else
   (l.1.getD (l.1.length - 1) an,
    if (aA T (t.parts.getD 0 az) ⟨7,[],[],t.names,l.1.take (l.1.length - 1)⟩ env).err=0 then fj T env (l.1.getD (l.1.length - 1) an) (t.parts.drop 1) t.vars l.1
    else aA T (t.parts.getD 0 az) ⟨7,[],[],t.names,l.1.take (l.1.length - 1)⟩ env)
 else (an,l.2)
def ao (T:Trm→Envt→Shape × Flt) (t:Trm) (env:Envt):Shape × Flt:=
 if t.kind=1 then (ofK 1,cW)
 else if t.kind=2 then (ofK 3,cW)
 else if t.kind=3∨t.kind=4 then (ofK 2,cW)
 else if t.kind=5 then
  match aI env.values t.pkg t.name with
  | some s=>(aO s,cW)
  | none=>(an,⟨110,t.pos⟩)
 else if t.kind=7 then bU T t env
 else if t.kind=8 then
  (if (bV T env t.parts).2.2.err=0 then (⟨6,[],[],t.names,(bV T env t.parts).1⟩,cW) else (bV T env t.parts).2)
 else if t.kind=9 then bW T t env
 else if t.kind=10 then (⟨7,[],[],[t.name],[(T (t.parts.getD 0 az) env).1]⟩,(T (t.parts.getD 0 az) env).2)
 else if t.kind=14 then
  (if (T (t.parts.getD 0 az) env).2.err=0 then T (t.parts.getD 1 az) (bL env [ec t.name (T (t.parts.getD 0 az) env).1]) else T (t.parts.getD 0 az) env)
 else if t.kind=16∨t.kind=17 then cX T t env
 else aJ T t env
def dc (t:Trm) (r:Shape × Flt):Shape × Flt:=
 if r.2.err=0 then (if aq r.1=0 then (aO r.1,cW) else (an,⟨aq r.1,t.pos⟩)) else (an,r.2)
def aa:Nat→Trm→Envt→Shape × Flt
 | 0,_,_=>(an,cW)
 | n+1,t,env=>dc t (ao (aa n) t env)
def bK (t:Trm) (env:Envt):Shape × Flt:=if dA t=0 then aa (szT t) t env else (an,⟨dA t,0⟩)
theorem AI {n:Nat} {t:Trm} {e:Envt} (h:(aa n t e).2.err=0):(aa n t e).1.names=[]∨(aa n t e).1.names.length=(aa n t e).1.parts.length:=by
 cases n with
 | zero=>exact .inl rfl
 | succ n=>
  rw [show aa (n+1) t e=dc t (ao (aa n) t e) from rfl] at h ⊢
  revert h
  generalize ao (aa n) t e=r
  intro h
  unfold dc at h ⊢
  by_cases h1:r.2.err=0
  ·rw [if_pos h1] at h ⊢
   by_cases h2:aq r.1=0
   ·rw [if_pos h2];exact CW h2
   ·rw [if_neg h2] at h;exact absurd h h2
  ·rw [if_neg h1] at h;exact absurd h h1
theorem q8 {t:Trm} {n j:Nat} (d:Trm) (hz:szT t<=n+1) (hf:allT ak t=true) (hj:j < t.parts.length) :
  szT (t.parts.getD j d)<=n/\allT ak (t.parts.getD j d)=true/\szT (t.parts.getD j d)+1<=szT t:=by
 have m:=AL.getD_mem t.parts j d hj
 have h1:=szT_mem m
 have h2:=szT_eq t
 rw [allT_eq,Bool.and_eq_true,allTL_all,List.all_eq_true] at hf
 exact ⟨by omega,hf.2 _ m,by omega⟩
theorem ib (l:List Bndg) (a:Int) (s:Shape) (r:List Shape):ae l a (s ::r)=if (aw s l).2=0 then (if (ae l a r).2.err=0 then ((aw s l).1 ::(ae l a r).1,cW) else ([],(ae l a r).2)) else ([],⟨(aw s l).2,a⟩):=rfl
theorem rM {l:List Bndg} {a:Int}:∀{s:List Shape},(ae l a s).2.err=0→ae l a s=((ae l a s).1,cW)
 | [],_=>rfl
 | s ::r,h=>by
  rw [ib] at h ⊢
  by_cases h1:(aw s l).2=0
  ·rw [if_pos h1] at h ⊢
   by_cases h2:(ae l a r).2.err=0
   ·rw [if_pos h2]
   ·rw [if_neg h2] at h;exact absurd h h2
  ·rw [if_neg h1] at h;exact absurd h h1
theorem xJ {l:List Bndg} {a:Int}:∀{s:List Shape},¬(ae l a s).2.err=0→ae l a s=([],(ae l a s).2)
 | [],h=>absurd rfl h
 | s ::r,h=>by
  rw [ib] at h ⊢
  by_cases h1:(aw s l).2=0
  ·rw [if_pos h1] at h ⊢
   by_cases h2:(ae l a r).2.err=0
   ·rw [if_pos h2] at h;exact absurd rfl h
   ·rw [if_neg h2]
  ·rw [if_neg h1]
theorem q9 (b:Bndg) (m:Str):∀l:List Bndg,dt (l++[b]) m=if b.name=m then some b.shape else dt l m
 | []=>rfl
 | x ::r=>by
  rw [List.cons_append,dt,q9 b m r,dt]
  by_cases h:b.name=m
  ·rw [if_pos h,if_pos h]
  ·rw [if_neg h,if_neg h]
theorem xK (l:List Bndg) (m:Str) (d:Bndg) {k:Nat} (h:k < l.length):dt (l.take (k+1)) m=if (l.getD k d).name=m then some (l.getD k d).shape else dt (l.take k) m:=by
 have e:l.take (k+1)=l.take k++[l.getD k d]:=by rw [List.take_succ];simp [List.getD_eq_getElem?_getD,h]
 rw [e,q9]
theorem kr {T:Trm→Envt→Shape × Flt} {t:Trm} {env:Envt} (h:dt env.own t.name=none):cX T t env=(an,⟨110,t.pos⟩):=by unfold cX;rw [h]
theorem ku {T:Trm→Envt→Shape × Flt} {t:Trm} {env:Envt} {s:Shape} (h:dt env.own t.name=some s):cX T t env=if t.kind=17 then (aO s,aA T (t.parts.getD 0 az) (ot env.self t.name) env) else (ot env.self t.name,aA T (t.parts.getD 0 az) (aO s) env):=by unfold cX;rw [h]
theorem AJ (e:Envt):bL e []=e:=by
 cases e
 unfold bL
 rw [List.append_nil]
theorem vr (e:Envt) (l r:List Bndg):bL (bL e l) r=bL e (l++r):=by
 unfold bL
 rw [List.append_assoc]
theorem qa {l:List Bndg} {a:Int}:∀{ss:List Shape},(ae l a ss).2.err=0→(ae l a ss).1.length=ss.length
 | [],_=>rfl
 | s ::r,h=>by
  rw [ib] at h ⊢
  by_cases h1:(aw s l).2=0
  ·rw [if_pos h1] at h ⊢
   by_cases h2:(ae l a r).2.err=0
   ·rw [if_pos h2,List.length_cons,List.length_cons,qa h2]
   ·rw [if_neg h2] at h;exact absurd h h2
  ·rw [if_neg h1] at h;exact absurd h h1
theorem AK {n:Nat} {t:Trm} {e:Envt} (h:(aa n t e).2.err=0):(aa n t e).2=cW:=by
 cases n with
 | zero=>rfl
 | succ n=>
  rw [show aa (n+1) t e=dc t (ao (aa n) t e) from rfl] at h ⊢
  revert h
  generalize ao (aa n) t e=r
  intro h
  unfold dc at h ⊢
  by_cases h1:r.2.err=0
  ·rw [if_pos h1] at h ⊢
   by_cases h2:aq r.1=0
   ·rw [if_pos h2]
   ·rw [if_neg h2] at h;exact absurd h h2
  ·rw [if_neg h1] at h;exact absurd h h1
theorem AM {n:Nat} {t:Trm} {w:Shape} {e:Envt} (h:(aA (aa n) t w e).err=0):aA (aa n) t w e=cW:=by
 unfold aA at h ⊢
 by_cases c:(aa n t e).2.err=0/\eK (aa n t e).1 w=false
 ·rw [if_pos c] at h;exact absurd (show (140:Int)=0 from h) (by decide)
 ·rw [if_neg c] at h ⊢;exact AK h
theorem AN {c:Prop} [Decidable c] {a b:Bool} {P:Prop} (h:(if c then a else b)=true) (f:c→a=true→P) (g:¬c→b=true→P):P:=by
 by_cases k:c
 ·rw [if_pos k] at h;exact f k h
 ·rw [if_neg k] at h;exact g k h
structure RoomR (t:Trm):Prop where
 k6:t.kind=6→t.names.length<=4096/\t.shapes.length=t.names.length/\t.parts.length=1
 k7:t.kind=7→0 < t.parts.length
 k1:t.kind=9∨t.kind=10∨t.kind=16∨t.kind=17→t.parts.length=1
 k11:t.kind=11→t.shapes.length=1
 k12:t.kind=12→t.shapes.length=1/\t.parts.length=3
 k13:t.kind=13→t.vars.length=t.names.length/\t.shapes.length=t.names.length+1/\t.parts.length=t.names.length+1
 k14:t.kind=14→t.parts.length=2
 k15:t.kind=15→t.shapes.length=1/\t.parts.length=1
 all:1<=t.kind/\t.kind<=17
theorem zx {t:Trm} (h:allT ak t=true):RoomR t:=by
 rw [allT_eq,Bool.and_eq_true] at h
 have h:=h.1
 unfold ak at h
 rw [Bool.and_eq_true] at h
 have hb:=h.2
 unfold zr gd at hb
 repeat' (refine AN hb (fun hk hb=>?_) (fun hk hb=>?_))
 all_goals simp only [Bool.and_eq_true,decide_eq_true_eq,Bool.false_eq_true] at hb
 all_goals (refine ⟨?_,?_,?_,?_,?_,?_,?_,?_,?_⟩ <;> intros <;> (repeat' apply And.intro) <;> omega)
theorem vt (t:Trm):t.parts.length+1<=szT t:=by
 have h1:∀l:List Trm,l.length<=szTL l:=by
  intro l
  induction l with
  | nil=>exact Nat.zero_le _
  | cons a r ih=>rw [szTL];have:=szT_pos a;simp;omega
 have:=h1 t.parts
 have:=szT_eq t
 omega
theorem tA {t:Trm} {n v:Nat} (hz:szT t<=n+1) (hf:allT ak t=true) (hv:v+4096 *szT t<=100000000) {j w:Nat} (d:Trm) (hj:j < t.parts.length) (hw:w<=v+4096) :
  szT (t.parts.getD j d)<=n/\allT ak (t.parts.getD j d)=true/\w+4096 *szT (t.parts.getD j d)<=100000000:=by
 have h:=q8 d hz hf hj
 exact ⟨h.1,h.2.1,by omega⟩
theorem ndF {p:Prop} [Decidable p] (h:(!decide p)=true):¬p:=by simpa using h
theorem ndT {p:Prop} [Decidable p] (h:¬(!decide p)=true):p:=by simpa using h
end Go.Pd
end
section
namespace Go.Pd
open Go.AL
section Agree
variable {T U:Trm→Envt→Shape × Flt} {R:Envt→Envt→Prop} {Q:Trm→Prop}
variable (hT:∀p,Q p→∀e f,R e f→T p e=U p f) (hW:∀e f l,R e f→R (bL e l) (bL f l))
include hT
include hW
end Agree
theorem lf (o m:Str) (r:List Bndg):∀l:List Bndg,aI (l++r) o m=match aI r o m with | some s=>some s | none=>aI l o m
 | []=>by rw [List.nil_append];cases aI r o m <;> rfl
 | x ::l=>by
  rw [List.cons_append,aI,lf o m r l,aI]
  cases aI r o m <;> rfl
structure Alike (b:Bndg) (e f:Envt):Prop where
 types:e.types=f.types
 own:e.own=f.own
 self:e.self=f.self
 vals:∀o m,¬(o=b.pkg/\m=b.name)→aI e.values o m=aI f.values o m
end Go.Pd
end
section
namespace Go.Pd
open Go.AL
abbrev SR3:=Shape × Int × Flt
abbrev TR3:=Trm × Int × Flt
end Go.Pd
end
section
namespace Go.Pd
open Go.AL
abbrev st (l:List Tokn) (a:Int):PS:=⟨l,a,0,0⟩
variable {l:List Tokn}
section
variable {l:List Tokn} {R:PS→Shape × PS} {R':Int→SR3}
end
end Go.Pd
end
section
namespace Go.Pd
open Go.AL
mutual
def dJ:Trm→Int→Int
 | ⟨_,_,_,_,_,_,_,ps,_⟩,m=>sizeTL ps 1 m
def sizeTL:List Trm→Int→Int→Int
 | [],n,_=>n
 | p ::r,n,m=>if n<=m then sizeTL r (n+dJ p (m - n)) m else n
end
mutual
def deepT:Trm→Nat
 | ⟨_,_,_,_,_,_,_,ps,_⟩=>maxDT ps+1
def maxDT:List Trm→Nat
 | []=>0
 | p ::r=>max (deepT p) (maxDT r)
end
mutual
theorem sizeT_bd:∀(s:Trm) (m:Int),0<=m→1<=dJ s m/\dJ s m<=m+1
 | ⟨_,_,_,_,_,_,_,ps,_⟩,m,h=>by
  simp only [dJ]
  exact sizeTL_bd ps 1 m (by omega) (by omega)
theorem sizeTL_bd:∀(l:List Trm) (n m:Int),1<=n→n<=m+1→1<=sizeTL l n m/\sizeTL l n m<=m+1
 | [],n,m,h1,h2=>by simp only [sizeTL];omega
 | p ::r,n,m,h1,h2=>by
  simp only [sizeTL]
  split
  ·have:=sizeT_bd p (m - n) (by omega)
   exact sizeTL_bd r _ m (by omega) (by omega)
  ·omega
end
mutual
theorem countT_size:∀(s:Trm) (m:Int),0<=m→(countT s m).1=min (szT s:Int) (m+1)
 | ⟨_,_,_,_,_,_,_,ps,_⟩,m,h=>by
  simp only [countT,szT]
  rw [countL_size ps m 1 0 (by omega)]
  omega
theorem countL_size:∀(l:List Trm) (m n d:Int),n<=m+1→(countL l m n d).1=min (n+szTL l) (m+1)
 | [],m,n,d,h=>by simp only [countL,szTL];omega
 | p ::r,m,n,d,h=>by
  simp only [countL,szTL]
  have:=szT_pos p
  split
  ·show n=_;omega
  ·rw [countL_size r m _ _ (by rw [countT_size p (m - n) (by omega)];omega),countT_size p (m - n) (by omega)]
   omega
end
mutual
theorem countT_deep:∀(s:Trm) (m:Int),(szT s:Int)<=m→(countT s m).2=deepT s
 | ⟨_,_,_,_,_,_,_,ps,_⟩,m,h=>by
  simp only [szT] at h
  simp only [countT,deepT]
  rw [countL_deep ps m 1 0 (by omega) (by omega)]
  omega
theorem countL_deep:∀(l:List Trm) (m n d:Int),n+szTL l<=m→0<=d→(countL l m n d).2=max d (maxDT l)
 | [],m,n,d,h,h0=>by simp only [countL,maxDT];omega
 | p ::r,m,n,d,h,h0=>by
  simp only [szTL] at h
  simp only [countL,maxDT]
  rw [if_neg (by omega)]
  have e1:(countT p (m - n)).1=szT p:=by rw [countT_size p (m - n) (by omega)];omega
  rw [countL_deep r m _ _ (by rw [e1];omega) (by omega),countT_deep p (m - n) (by omega)]
  omega
end
end Go.Pd
end
section
namespace Go.Pd
open Go.AL
mutual
def bareT:Trm→Trm
 | ⟨k,g,n,z,ns,vs,ss,ps,_⟩=>⟨k,g,n,z,ns,vs,ss,bareTL ps,0⟩
def bareTL:List Trm→List Trm
 | []=>[]
 | p ::r=>bareT p ::bareTL r
end
theorem xL {t:Trm} (ht:dA t=0):allT ak t=true:=by
 unfold dA at ht
 by_cases a:4096 < (countT t 4096).1
 ·rw [if_pos a] at ht;exact absurd ht (by decide)
 rw [if_neg a] at ht
 by_cases b:40 < (countT t 4096).2
 ·rw [if_pos b] at ht;exact absurd ht (by decide)
 rw [if_neg b] at ht
 by_cases c:allT ak t=true
 ·exact c
 ·rw [if_neg c] at ht;exact absurd ht (by decide)
theorem xM {t:Trm} (h:dA t=0):szT t<=4096/\deepT t<=40:=by
 unfold dA at h
 by_cases a:4096 < (countT t 4096).1
 ·rw [if_pos a] at h;exact absurd h (by decide)
 rw [if_neg a] at h
 rw [countT_size t 4096 (by omega)] at a
 by_cases b:40 < (countT t 4096).2
 ·rw [if_pos b] at h;exact absurd h (by decide)
 rw [countT_deep t 4096 (by omega)] at b
 omega
def zapF (f:Flt):Flt:=⟨f.err,0⟩
def zapR (r:Shape × Flt):Shape × Flt:=(r.1,zapF r.2)
section Bare
variable {T:Trm→Envt→Shape × Flt} (hT:∀p e,T (bareT p) e=zapR (T p e))
include hT
end Bare
section Bare2
variable {T:Trm→Envt→Shape × Flt} (hT:∀p e,T (bareT p) e=zapR (T p e))
include hT
end Bare2
end Go.Pd
end
section
namespace Go.Pd
open Go.AL
theorem qS (names:List Str) (xs:List Int):(fI names xs).Pairwise fun i j=>bO names i<=bO names j:=by
 have:=List.pairwise_mergeSort (le:=fun i j=>decide (bO names i<=bO names j)) (by
  intro a b c h1 h2
  simp only [decide_eq_true_eq] at h1 h2 ⊢
  exact List.le_trans h1 h2) (by
  intro a b
  simp only [Bool.or_eq_true,decide_eq_true_eq]
  exact List.le_total _ _) xs
 exact this.imp fun h=>by simpa using h
theorem fC {s:Shape} (h:ai s=true):s.names=[]∨s.names.length=s.parts.length/\s.names.Nodup:=by
 have:=lM h
 unfold dw at this
 simpa using this
theorem eC:∀{ns:List Str} {ps:List Shape} {m:Str} {y:Shape},cO ns ps m=some y→∃i,i < ns.length/\i < ps.length/\ns.getD i []=m/\ps.getD i cQ=y
 | [],ps,m,y,h=>by cases ps <;> simp [cO] at h
 | a ::r,[],m,y,h=>by simp [cO] at h
 | a ::r,p ::q,m,y,h=>by
  simp only [cO] at h
  split at h
  ·rename_i e
   exact ⟨0,by simp,by simp,e,Option.some.inj h⟩
  ·obtain ⟨i,h1,h2,h3,h4⟩:=eC h
   exact ⟨i+1,by simp;omega,by simp;omega,h3,h4⟩
theorem kx:∀{ns:List Str} {ps:List Shape} {i:Nat},ns.Nodup→ns.length=ps.length→i < ns.length→cO ns ps (ns.getD i [])=some (ps.getD i cQ)
 | a ::r,p ::q,0,_,_,_=>by simp [cO]
 | a ::r,p ::q,i+1,hn,hl,hi=>by
  obtain ⟨h1,h2⟩:=List.nodup_cons.1 hn
  have hi':i < r.length:=by simpa using hi
  simp only [cO,List.getD_cons_succ]
  rw [if_neg ?_,kx h2 (by simpa using hl) hi']
  intro e
  rw [e] at h1
  exact h1 (getD_mem r i [] hi')
theorem bA {F:Shape→Shape→Bool} {o:Shape}:∀{ns:List Str} {ps:List Shape},ns.length=ps.length→
  (aD F o ns ps=true↔∀i,i < ns.length→∃x,aE o (ns.getD i [])=some x/\F (ps.getD i cQ) x=true)
 | [],[],_=>by simp [aD]
 | n ::r,p ::q,h=>by
  have ih:=bA (F:=F) (o:=o) (ns:=r) (ps:=q) (by simpa using h)
  simp only [aD,Bool.and_eq_true]
  rw [ih]
  constructor
  ·rintro ⟨h1,h2⟩ i hi
   cases i with
   | zero=>
    simp only [List.getD_cons_zero]
    cases e:aE o n with
    | none=>rw [e] at h1;cases h1
    | some x=>rw [e] at h1;exact ⟨x,rfl,h1⟩
   | succ i=>exact h2 i (by simpa using hi)
  ·intro hh
   refine ⟨?_,fun i hi=>hh (i+1) (by simpa using hi)⟩
   obtain ⟨x,h1,h2⟩:=hh 0 (by simp)
   simp only [List.getD_cons_zero] at h1 h2
   rw [h1]
   exact h2
theorem dr {o:Shape} {m:Str} {x:Shape} (h:aE o m=some x):m∈o.names/\x∈o.parts:=by
 obtain ⟨i,h1,h2,h3,h4⟩:=eC h
 exact ⟨h3 ▸ getD_mem _ _ _ h1,h4 ▸ getD_mem _ _ _ h2⟩
theorem gR {n:Nat} {a b:Shape} (h:au (n+1) a b=true):a.kind=b.kind/\a.pkg=b.pkg/\a.name=b.name/\
  (if a.kind=6 then aD (fun p x=>au n x p) a b.names b.parts else if a.kind=7 then aD (au n) b a.names a.parts else bD (au n) a.parts b.parts)=true:=by
 simp only [au,Bool.and_eq_true,decide_eq_true_eq] at h
 exact ⟨h.1.1.1,h.1.1.2,h.1.2,h.2⟩
end Go.Pd
end
section
namespace Go.Pd
open Go.AL
theorem xN {l m:List Shape} (h:l.Perm m):∀a d:Int,deepL l a d=deepL m a d:=by
 induction h with
 | nil=>exact fun _ _=>rfl
 | cons x _ ih=>exact fun a d=>by simp only [deepL];exact ih _ _
 | swap x y l=>exact fun a d=>by simp only [deepL];congr 1;omega
 | trans _ _ h1 h2=>exact fun a d=>(h1 a d).trans (h2 a d)
mutual
theorem deep_sorted:∀(s:Shape) (a:Int),deepS (sortedS s) a=deepS s a
 | ⟨k,p,n,ns,ps⟩,a=>by
  simp only [sortedS,deepS]
  rw [xN (jf k p n ns ps cQ),deepL_sorted ps]
theorem deepL_sorted:∀(l:List Shape) (a d:Int),deepL (sortedL l) a d=deepL l a d
 | [],_,_=>rfl
 | x ::r,a,d=>by simp only [sortedL,deepL,deep_sorted x,deepL_sorted r]
end
theorem fS:∀l:List Shape,sortedL l=l.map sortedS
 | []=>rfl
 | a ::r=>by rw [sortedL,fS r,List.map_cons]
theorem jk {s:Shape} (h:s.names.length=s.parts.length):(sortedS s).names.Perm s.names:=by
 obtain ⟨k,p,n,ns,ps⟩:=s
 simp only [sortedS]
 split
 ·rename_i e;rw [e]
 ·have h:ns.length=ps.length:=h
  have:=(fR ⟨k,p,n,ns,ps⟩).map (bO ns)
  have e:=cU ns ([]:Str)
  rw [h] at e
  rw [show (bQ (⟨k,p,n,ns,ps⟩:Shape).parts.length).map (bO ns)=ns from e] at this
  exact this
theorem jl (s:Shape):(sortedS s).parts.Perm (s.parts.map sortedS):=by
 obtain ⟨k,p,n,ns,ps⟩:=s
 simp only [sortedS]
 rw [←fS]
 exact jf k p n ns ps cQ
theorem jm (s:Shape):(sortedS s).parts.length=s.parts.length:=by rw [(jl s).length_eq,List.length_map]
theorem eD {s:Shape} (h:s.names=[]):(sortedS s).names=[]:=by
 obtain ⟨k,p,n,ns,ps⟩:=s
 simp only [sortedS]
 exact if_pos h
theorem jX (s:Shape):(sortedS s).kind=s.kind/\(sortedS s).pkg=s.pkg/\(sortedS s).name=s.name:=by cases s;exact ⟨rfl,rfl,rfl⟩
theorem vu {α:Type} {f:α→Bool} {l m:List α} (h:l.Perm m):l.all f=m.all f:=by
 induction h with
 | nil=>rfl
 | cons x _ ih=>rw [List.all_cons,List.all_cons,ih]
 | swap x y l=>rw [List.all_cons,List.all_cons,List.all_cons,List.all_cons,←Bool.and_assoc,←Bool.and_assoc,Bool.and_comm (f y)]
 | trans _ _ h1 h2=>exact h1.trans h2
theorem tB {s:Shape} (h:cw s=true):cw (sortedS s)=true:=by
 unfold cw at h ⊢
 simp only [Bool.and_eq_true,decide_eq_true_eq] at h ⊢
 have hp:=jk h.1.1
 refine ⟨⟨?_,?_⟩,?_⟩
 ·rw [hp.length_eq,jm,h.1.1]
 ·rw [vu hp];exact h.1.2
 ·exact hp.nodup_iff.2 h.2
theorem AO {s:Shape}:decide ((sortedS s).parts=[])=decide (s.parts=[]):=by
 have:=jm s
 refine decide_eq_decide.2 ?_
 rw [←List.length_eq_zero_iff,←List.length_eq_zero_iff,this]
theorem nL {s:Shape} (h:ai s=true):ai (sortedS s)=true:=by
 obtain ⟨e1,e2,e3⟩:=jX s
 have e4:=jm s
 have e5:=@AO s
 unfold ai at h ⊢
 simp only [e1,e2,e3,e4,e5] at h ⊢
 have sp:∀{c:Prop} [Decidable c] {a b x y:Bool},(if c then a else b)=true→(a=true→x=true)→(b=true→y=true)→(if c then x else y)=true:=fun {c} _ {a b x y} h h1 h2=>by
  by_cases k:c
  ·rw [if_pos k] at h ⊢;exact h1 h
  ·rw [if_neg k] at h ⊢;exact h2 h
 refine sp h (fun h=>?_) fun h=>sp h (fun h=>?_) fun h=>sp h (fun h=>?_) fun h=>sp h (fun h=>?_) fun h=>sp h (fun h=>?_) fun h=>sp h (fun h=>?_) fun h=>h
 ·simp only [Bool.and_eq_true,decide_eq_true_eq] at h ⊢
  exact ⟨⟨h.1.1,eD h.1.2⟩,h.2⟩
 ·simp only [Bool.and_eq_true,decide_eq_true_eq] at h ⊢
  exact ⟨⟨h.1.1,eD h.1.2⟩,h.2⟩
 ·rw [Bool.and_eq_true] at h ⊢
  exact ⟨h.1,tB h.2⟩
 ·simp only [Bool.and_eq_true,decide_eq_true_eq] at h ⊢
  exact ⟨⟨h.1.1,eD h.1.2⟩,h.2⟩
 ·simp only [Bool.and_eq_true,decide_eq_true_eq] at h ⊢
  exact ⟨⟨h.1.1,eD h.1.2⟩,h.2⟩
 ·simp only [Bool.and_eq_true,decide_eq_true_eq] at h ⊢
  exact ⟨⟨h.1.1,eD h.1.2⟩,h.2⟩
theorem qb {f:Shape→Bool} (hf:∀s,f s=true→f (sortedS s)=true):∀(n:Nat) (s:Shape),sz s<=n→allS f s=true→allS f (sortedS s)=true
 | 0,s,h,_=>by have:=dU s;omega
 | n+1,s,h,ha=>by
  rw [fJ,Bool.and_eq_true,iL,List.all_eq_true] at ha ⊢
  refine ⟨hf s ha.1,fun x hx=>?_⟩
  obtain ⟨y,hy,rfl⟩:=List.mem_map.1 ((jl s).mem_iff.1 hx)
  have h1:=bP hy
  have h2:=dT s
  exact qb hf n y (by omega) (ha.2 y hy)
theorem fT {s:Shape} (h:aq s=0):aq (aO s)=0:=by
 have h1:=aG h
 unfold aO
 rw [if_pos h]
 unfold aq
 rw [sz_sorted,deep_sorted,if_neg (by omega),if_neg (by omega),if_pos (qb (fun s hs=>nL hs) _ s (Nat.le_refl _) h1.2.2)]
theorem xO {s:Shape} (hs:s.names.Pairwise (·<= ·)) (h:s.names=[]∨s.names.length=s.parts.length/\s.names.Nodup):al s=bQ s.parts.length:=by
 unfold al
 split
 ·rfl
 ·rename_i hne
  rcases h with h | ⟨h1,h2⟩
  ·exact absurd h hne
  letI:=oM
  refine (pE h2 (fun x hx=>?_) (.refl _) ?_).symm
  ·rw [h1];exact l7.1 hx
  ·rw [←h1]
   unfold bQ
   rw [List.pairwise_map]
   refine List.Pairwise.imp_of_mem ?_ (List.pairwise_lt_range (n:=s.names.length))
   intro i j hi hj hij
   have hi:=List.mem_range.1 hi
   have hj:=List.mem_range.1 hj
   unfold bO
   simp only [Int.toNat_natCast,List.getD_eq_getElem?_getD,List.getElem?_eq_getElem hi,List.getElem?_eq_getElem hj,Option.getD_some]
   exact List.pairwise_iff_getElem.1 hs i j hi hj hij
theorem AP (s:Shape):(sortedS s).names.Pairwise (·<= ·):=by
 obtain ⟨k,p,n,ns,ps⟩:=s
 simp only [sortedS]
 split
 ·exact List.Pairwise.nil
 ·rename_i hne
  unfold al
  rw [if_neg hne,List.pairwise_map]
  exact qS _ _
theorem FA {s:Shape} (hs:s.names.Pairwise (·<= ·)) (h:s.names=[]∨s.names.length=s.parts.length/\s.names.Nodup) (hp:∀p∈s.parts,sortedS p=p):sortedS s=s:=by
 have hpl:=xO hs h
 obtain ⟨k,p,n,ns,ps⟩:=s
 rw [sortedS,hpl]
 have e:sortedL ps=ps:=by
  rw [fS]
  have hp:∀p∈ps,sortedS p=p:=hp
  exact (List.map_congr_left hp).trans (List.map_id ps)
 have e1:=cU ps cQ
 rw [e,show (⟨k,p,n,ns,ps⟩:Shape).parts.length=ps.length from rfl,e1]
 by_cases hn:ns=[]
 ·rw [if_pos hn,hn]
 ·rw [if_neg hn]
  rcases h with h | ⟨h,_⟩
  ·exact absurd h hn
  have h:ns.length=ps.length:=h
  have e2:=cU ns ([]:Str)
  rw [h] at e2
  rw [show (bQ ps.length).map (bO ns)=ns from e2]
theorem lU:∀(n:Nat) (s:Shape),sz s<=n→allS ai s=true→sortedS (sortedS s)=sortedS s
 | 0,s,h,_=>by have:=dU s;omega
 | n+1,s,h,ha=>by
  rw [fJ,Bool.and_eq_true,iL,List.all_eq_true] at ha
  refine FA (AP s) (fC (nL ha.1)) fun x hx=>?_
  obtain ⟨y,hy,rfl⟩:=List.mem_map.1 ((jl s).mem_iff.1 hx)
  have h1:=bP hy
  have h2:=dT s
  exact lU n y (by omega) (ha.2 y hy)
theorem xP {s:Shape} (h:aq s=0):aO (aO s)=aO s:=by
 have hc:=fT h
 rw [aO,if_pos hc,aO,if_pos h]
 exact lU _ s (Nat.le_refl _) (aG h).2.2
theorem xQ {n:Nat} {t:Trm} {e:Envt} (hn:0 < n) (h:(aa n t e).2.err=0):aq (aa n t e).1=0/\aO (aa n t e).1=(aa n t e).1/\(aa n t e).2=cW:=by
 cases n with
 | zero=>omega
 | succ n=>
  rw [show aa (n+1) t e=dc t (ao (aa n) t e) from rfl] at h ⊢
  revert h
  generalize ao (aa n) t e=r
  intro h
  unfold dc at h ⊢
  by_cases h1:r.2.err=0
  ·rw [if_pos h1] at h ⊢
   by_cases h2:aq r.1=0
   ·rw [if_pos h2]
    exact ⟨fT h2,xP h2,rfl⟩
   ·rw [if_neg h2] at h;exact absurd h h2
  ·rw [if_neg h1] at h;exact absurd h h1
theorem AQ {n:Nat} {t:Trm} {e:Envt} (h:¬(aa n t e).2.err=0):(aa n t e).1=an:=by
 cases n with
 | zero=>rfl
 | succ n=>
  rw [show aa (n+1) t e=dc t (ao (aa n) t e) from rfl] at h ⊢
  revert h
  generalize ao (aa n) t e=r
  intro h
  unfold dc at h ⊢
  by_cases h1:r.2.err=0
  ·rw [if_pos h1] at h ⊢
   by_cases h2:aq r.1=0
   ·rw [if_pos h2] at h;exact absurd rfl h
   ·rw [if_neg h2]
  ·rw [if_neg h1]
end Go.Pd
end
section
namespace Go.Pd
open Go.AL
def Er (s:Shape):Bool:=!decide (s.kind=9)
structure ClE (e:Envt):Prop where
 types:∀b∈e.types,allS Er b.shape=true
 values:∀b∈e.values,allS Er b.shape=true
 own:∀b∈e.own,allS Er b.shape=true
section
variable {T:Trm→Envt→Shape × Flt} (hT:∀p e,ClE e→(T p e).2.err=0→allS Er (T p e).1=true)
include hT
end
end Go.Pd
end
section
namespace Go.Pd
open Go.AL
theorem xR {t:Trm} {e:Envt} (h:¬(bK t e).2.err=0):(bK t e).1=an:=by
 unfold bK at h ⊢
 by_cases c:dA t=0
 ·rw [if_pos c] at h ⊢
  exact AQ h
 ·rw [if_neg c]
end Go.Pd
namespace Go.Pd
open Go.AL
theorem xS {e:Envt} (h:¬(!jj e)=true):e.values.length<=60:=by
 have h:jj e=true:=by simpa using h
 unfold jj at h
 simp only [Bool.and_eq_true] at h
 exact CR h.1.2
end Go.Pd
end
section
namespace Go.Pd
open Go.AL
theorem ic (m:Str):∀(ns:List Str) (ps:List Shape),cO ns ps m=((ns.zip ps).find? (fun x=>decide (x.1=m))).map (·.2)
 | [],ps=>by cases ps <;> rfl
 | _ ::_,[]=>rfl
 | a ::r,p ::q=>by
  rw [List.zip_cons_cons,List.find?_cons,cO,ic m r q]
  by_cases h:a=m
  ·rw [if_pos h,show decide ((a,p).1=m)=true from Xd h];rfl
  ·rw [if_neg h,show decide ((a,p).1=m)=false from Xf h]
theorem qc {l:List (Str × Shape)} (hn:(l.map (·.1)).Nodup) {m:Str} {p:Shape}:l.find? (fun x=>decide (x.1=m))=some (m,p)↔(m,p)∈l:=by
 constructor
 ·exact List.mem_of_find?_eq_some
 ·intro h
  induction l with
  | nil=>cases h
  | cons a r ih=>
   rw [List.map_cons,List.nodup_cons] at hn
   rw [List.find?_cons]
   rcases List.mem_cons.1 h with e | h
   ·rw [←e,show decide ((m,p).1=m)=true from Xd rfl]
   ·have:¬a.1=m:=fun e=>hn.1 (List.mem_map.2 ⟨_,h,e.symm⟩)
    rw [Xf this]
    exact ih hn.2 h
theorem AR {l l':List (Str × Shape)} (h:l.Perm l') (hn:(l.map (·.1)).Nodup) (m:Str):l.find? (fun x=>decide (x.1=m))=l'.find? (fun x=>decide (x.1=m)):=by
 have hn':(l'.map (·.1)).Nodup:=(h.map (·.1)).nodup_iff.1 hn
 cases g:l.find? (fun x=>decide (x.1=m)) with
 | some x=>
  have e:x.1=m:=Xo (List.find?_some (p:=fun x:Str × Shape=>decide (x.1=m)) g)
  obtain ⟨a,p⟩:=x
  have e:a=m:=e
  subst e
  exact ((qc hn').2 (h.mem_iff.1 ((qc hn).1 g))).symm
 | none=>
  symm
  rw [List.find?_eq_none] at g ⊢
  exact fun x hx=>g x (h.mem_iff.2 hx)
theorem jY:∀(ns:List Str) (ps:List Shape),ns.length=ps.length→(ns.zip ps).map (·.1)=ns
 | [],ps,h=>by cases ps <;> rfl
 | a ::r,[],h=>by cases h
 | a ::r,p ::q,h=>by rw [List.zip_cons_cons,List.map_cons,jY r q (by simpa using h)]
theorem qd {s:Shape} (h:s.names.length=s.parts.length):((sortedS s).names.zip (sortedS s).parts).Perm (s.names.zip (s.parts.map sortedS)):=by
 obtain ⟨k,p,n,ns,ps⟩:=s
 have h:ns.length=ps.length:=h
 simp only [sortedS]
 by_cases e:ns=[]
 ·rw [if_pos e,e]
  have:ps=[]:=List.eq_nil_of_length_eq_zero (by rw [←h,e];rfl)
  rw [this]
  exact .refl _
 ·rw [if_neg e,←fS]
  have hz:∀(l:List Int),(l.map (bO ns)).zip (l.map fun i=>(sortedL ps).getD i.toNat cQ)=l.map fun i=>(bO ns i,(sortedL ps).getD i.toNat cQ):=fun l=>by
   induction l with
   | nil=>rfl
   | cons a r ih=>rw [List.map_cons,List.map_cons,List.zip_cons_cons,ih,List.map_cons]
  rw [hz]
  have hp:=(fR ⟨k,p,n,ns,ps⟩).map fun i:Int=>(bO ns i,(sortedL ps).getD i.toNat cQ)
  refine hp.trans ?_
  rw [←hz]
  have e1:=cU ns ([]:Str)
  have e2:=cU (sortedL ps) cQ
  rw [fe] at e2
  rw [h] at e1
  rw [show (bQ (⟨k,p,n,ns,ps⟩:Shape).parts.length).map (bO ns)=ns from e1,show (bQ (⟨k,p,n,ns,ps⟩:Shape).parts.length).map (fun i=>(sortedL ps).getD i.toNat cQ)=sortedL ps from e2]
theorem vw (m:Str):∀(ns:List Str) (ps:List Shape),(ns.zip (ps.map sortedS)).find? (fun x=>decide (x.1=m))=((ns.zip ps).find? (fun x=>decide (x.1=m))).map fun x=>(x.1,sortedS x.2)
 | [],ps=>by cases ps <;> rfl
 | _ ::_,[]=>rfl
 | a ::r,p ::q=>by
  rw [List.map_cons,List.zip_cons_cons,List.zip_cons_cons,List.find?_cons,List.find?_cons,vw m r q]
  by_cases h:a=m
  ·rw [show decide ((a,p).1=m)=true from Xd h];rfl
  ·rw [show decide ((a,p).1=m)=false from Xf h]
theorem qT {s:Shape} (h:s.names=[]∨s.names.length=s.parts.length/\s.names.Nodup) (m:Str):aE (sortedS s) m=(aE s m).map sortedS:=by
 unfold aE
 rcases h with h | ⟨h,hn⟩
 ·rw [eD h,h]
  cases (sortedS s).parts <;> cases s.parts <;> rfl
 ·rw [ic,ic]
  have hz:=qd h
  have hl:(sortedS s).names.length=(sortedS s).parts.length:=by rw [(jk h).length_eq,jm,h]
  have hN:(((sortedS s).names.zip (sortedS s).parts).map (·.1)).Nodup:=by
   rw [jY _ _ hl];exact (jk h).nodup_iff.2 hn
  rw [AR hz hN,vw]
  cases (s.names.zip s.parts).find? (fun x=>decide (x.1=m)) <;> rfl
theorem rN (F:Shape→Shape→Bool) (must:Bool) (b:Shape):∀(ns:List Str) (ps:List Shape),cN F must b ns ps=(ns.zip ps).all fun x=>match aE b x.1 with | none=>!must | some y=>F x.2 y
 | [],ps=>by cases ps <;> simp only [cN,List.zip_nil_left,List.all_nil]
 | _ ::_,[]=>by simp only [cN,List.zip_nil_right,List.all_nil]
 | a ::r,p ::q=>by
  rw [cN,List.zip_cons_cons,List.all_cons,rN F must b r q]
  try rfl
theorem lV {s:Shape} (h:s.names=[]):(sortedS s).parts=s.parts.map sortedS:=by
 obtain ⟨k,p,n,ns,ps⟩:=s
 have h:ns=[]:=h
 subst h
 simp only [sortedS]
 rw [←fS]
 have e:=cU (sortedL ps) cQ
 rw [fe] at e
 exact e
theorem nM {s:Shape} (h:ai s=true) (h6:¬s.kind=6) (h7:¬s.kind=7):s.names=[]:=by
 unfold ai at h
 simp only at h
 have sp:∀{c:Prop} [Decidable c] {a b:Bool} {P:Prop},(if c then a else b)=true→(c→a=true→P)→(¬c→b=true→P)→P:=fun {c} _ {a b P} h h1 h2=>by
  by_cases k:c
  ·rw [if_pos k] at h;exact h1 k h
  ·rw [if_neg k] at h;exact h2 k h
 refine sp h (fun _ h=>?_) fun _ h=>sp h (fun _ h=>?_) fun _ h=>sp h (fun k _=>absurd k (by omega)) fun _ h=>sp h (fun _ h=>?_) fun _ h=>sp h (fun _ h=>?_) fun _ h=>sp h (fun _ h=>?_) fun _ h=>(by cases h)
 all_goals simp only [Bool.and_eq_true,decide_eq_true_eq] at h
 ·exact h.1.2
 ·exact h.1.2
 ·exact h.1.2
 ·exact h.1.2
 ·exact h.1.2
theorem mO {α:Type} {f g:α→Bool}:∀{l:List α},(∀x∈l,f x=g x)→l.all f=l.all g
 | [],_=>rfl
 | a ::r,h=>by rw [List.all_cons,List.all_cons,h a (.head _),mO fun x hx=>h x (.tail _ hx)]
theorem nN (f:Str × Shape→Bool):∀(ns:List Str) (ps:List Shape),(ns.zip (ps.map sortedS)).all f=(ns.zip ps).all fun x=>f (x.1,sortedS x.2)
 | [],ps=>by cases ps <;> rfl
 | _ ::_,[]=>rfl
 | a ::r,p ::q=>by rw [List.map_cons,List.zip_cons_cons,List.zip_cons_cons,List.all_cons,List.all_cons,nN f r q]
theorem tC {x:Str × Shape}:∀{ns:List Str} {ps:List Shape},x∈ns.zip ps→x.2∈ps
 | [],ps,h=>by cases ps <;> cases h
 | _ ::_,[],h=>by cases h
 | a ::r,p ::q,h=>by
  rw [List.zip_cons_cons] at h
  rcases List.mem_cons.1 h with rfl | h
  ·exact .head _
  ·exact .tail _ (tC h)
section Near
variable {F:Shape→Shape→Bool} {a b:Shape}
end Near
def kR (F:Shape→Shape→Bool) (a:Shape):List Str→List Shape→Bool
 | m ::r,q ::s=>(match aE a m with | none=>false | some p=>F p q) && kR F a r s
 | _,_=>true
theorem rO (F:Shape→Shape→Bool) (a:Shape):∀(ns:List Str) (ps:List Shape),kR F a ns ps=(ns.zip ps).all fun x=>match aE a x.1 with | none=>false | some y=>F y x.2
 | [],ps=>by cases ps <;> simp only [kR,List.zip_nil_left,List.all_nil]
 | _ ::_,[]=>by simp only [kR,List.zip_nil_right,List.all_nil]
 | a' ::r,p ::q=>by
  rw [kR,List.zip_cons_cons,List.all_cons,rO F a r q]
theorem vz {s:Shape} (h:s.names=[]∨s.names.length=s.parts.length/\s.names.Nodup) {m:Str} {p:Shape}:aE s m=some p↔(m,p)∈s.names.zip s.parts:=by
 unfold aE
 rcases h with h | ⟨h,hn⟩
 ·rw [h]
  cases s.parts <;> simp [cO]
 ·have hN:((s.names.zip s.parts).map (·.1)).Nodup:=by rw [jY _ _ h];exact hn
  rw [ic,←qc hN]
  cases g:(s.names.zip s.parts).find? (fun x=>decide (x.1=m)) with
  | none=>simp
  | some x=>
   have e:x.1=m:=Xo (List.find?_some (p:=fun x:Str × Shape=>decide (x.1=m)) g)
   obtain ⟨c,y⟩:=x
   have e:c=m:=e
   subst e
   simp
theorem nO {m:Str}:∀{ns:List Str} {ps:List Shape},ns.length=ps.length→m∈ns→∃p,(m,p)∈ns.zip ps
 | a ::r,p ::q,h,hm=>by
  rcases List.mem_cons.1 hm with rfl | hm
  ·exact ⟨p,.head _⟩
  ·obtain ⟨x,hx⟩:=nO (by simpa using h) hm
   exact ⟨x,.tail _ hx⟩
theorem CX {F:Shape→Shape→Bool} {a b:Shape} (ha:ai a=true) (hb:ai b=true):kR F a b.names b.parts=(cN F false b a.names a.parts && b.names.all fun m=>(aE a m).isSome):=by
 have pa:=@vz a (fC ha)
 have pb:=@vz b (fC hb)
 rw [rO,rN,Bool.eq_iff_iff,Bool.and_eq_true,List.all_eq_true,List.all_eq_true,List.all_eq_true]
 constructor
 ·intro h
  refine ⟨fun x hx=>?_,fun m hm=>?_⟩
  ·cases g:aE b x.1 with
   | none=>rfl
   | some y=>
    have:=h (x.1,y) (pb.1 g)
    dsimp only at this
    rw [pa.2 (show (x.1,x.2)∈a.names.zip a.parts from hx)] at this
    exact this
  ·rcases fC hb with e | ⟨e,_⟩
   ·rw [e] at hm;cases hm
   ·obtain ⟨q,hq⟩:=nO e hm
    have:=h (m,q) hq
    dsimp only at this
    cases g:aE a m with
    | none=>rw [g] at this;cases this
    | some y=>rfl
 ·rintro ⟨h1,h2⟩ x hx
  have hm:x.1∈b.names:=(List.of_mem_zip (show (x.1,x.2)∈b.names.zip b.parts from hx)).1
  have:=h2 x.1 hm
  cases g:aE a x.1 with
  | none=>rw [g] at this;cases this
  | some y=>
   have:=h1 (x.1,y) (pa.1 g)
   dsimp only at this
   rw [pb.2 (show (x.1,x.2)∈b.names.zip b.parts from hx)] at this
   exact this
theorem AT {s:Shape} (h:ai s=true) (h5:s.kind=5):s.parts.length=1:=by
 unfold ai at h
 simp [h5] at h
 exact h.2
theorem AU {s:Shape} (h:ai s=true) (h5:¬s.kind=5) (h6:¬s.kind=6) (h7:¬s.kind=7) (h8:¬s.kind=8):s.parts=[]:=by
 unfold ai at h
 simp only at h
 have sp:∀{c:Prop} [Decidable c] {a b:Bool} {P:Prop},(if c then a else b)=true→(c→a=true→P)→(¬c→b=true→P)→P:=fun {c} _ {a b P} h h1 h2=>by
  by_cases k:c
  ·rw [if_pos k] at h;exact h1 k h
  ·rw [if_neg k] at h;exact h2 k h
 refine sp h (fun _ h=>?_) fun _ h=>sp h (fun k h=>absurd k h5) fun _ h=>sp h (fun k _=>absurd k (by omega)) fun _ h=>sp h (fun k h=>absurd k h8) fun _ h=>sp h (fun _ h=>?_) fun _ h=>sp h (fun _ h=>?_) fun _ h=>(by cases h)
 all_goals simp only [Bool.and_eq_true,decide_eq_true_eq] at h
 ·exact h.2
 ·exact h.2
 ·exact h.2
end Go.Pd
end
section
namespace Go.Pd
open Go.AL
theorem mP {F G H:Shape→Shape→Bool}:∀{us vs ws:List Shape},bD F us vs=true→bD G vs ws=true→
  (∀p∈us,∀q∈vs,∀r∈ws,(F p q=true→G q r=true→H p r=true)/\(G r q=true→F q p=true→H r p=true))→bD H us ws=true
 | [],[],[],_,_,_=>rfl
 | [],[],_ ::_,_,h,_=>by simp [bD] at h
 | [],_ ::_,_,h,_,_=>by simp [bD] at h
 | [p],[],_,h,_,_=>by simp [bD] at h
 | p ::p' ::r,[],_,h,_,_=>by simp [bD] at h
 | [p],q ::q' ::s,_,h,_,_=>by simp [bD] at h
 | p ::p' ::r,[q],_,h,_,_=>by simp [bD] at h
 | [p],[q],[],_,h,_=>by simp [bD] at h
 | [p],[q],w ::w' ::t,_,h,_=>by simp [bD] at h
 | [p],[q],[w],h,k,hh=>by
  simp only [bD] at h k ⊢
  exact (hh p (by simp) q (by simp) w (by simp)).1 h k
 | p ::p' ::r,q ::q' ::s,[],_,h,_=>by simp [bD] at h
 | p ::p' ::r,q ::q' ::s,[w],_,h,_=>by simp [bD] at h
 | p ::p' ::r,q ::q' ::s,w ::w' ::t,h,k,hh=>by
  simp only [bD,Bool.and_eq_true] at h k ⊢
  exact ⟨(hh p (by simp) q (by simp) w (by simp)).2 k.1 h.1,
   mP (us:=p' ::r) (vs:=q' ::s) (ws:=w' ::t) h.2 k.2 fun x hx y hy z hz=>hh x (List.mem_cons_of_mem _ hx) y (List.mem_cons_of_mem _ hy) z (List.mem_cons_of_mem _ hz)⟩
theorem lW (F:Shape→Shape→Bool) (b:Shape):∀(ns:List Str) (ps:List Shape),cN F true b ns ps=aD F b ns ps
 | [],ps=>by simp only [cN,aD]
 | _ ::_,[]=>by simp only [cN,aD]
 | m ::r,p ::q=>by
  simp only [cN,aD]
  rw [lW F b r q]
  cases aE b m <;> rfl
theorem lX (F:Shape→Shape→Bool) (a:Shape):∀(ns:List Str) (ps:List Shape),kR F a ns ps=aD (fun p x=>F x p) a ns ps
 | [],ps=>by simp only [kR,aD]
 | _ ::_,[]=>by simp only [kR,aD]
 | m ::r,p ::q=>by
  simp only [kR,aD]
  rw [lX F a r q]
  try (cases aE a m <;> rfl)
theorem rP {F:Shape→Shape→Bool}:∀(l m:List Shape),(decide (l.length=m.length) && fk F true l m)=bD F l m
 | [],[]=>rfl
 | [],_ ::_=>by simp [bD]
 | [p],[]=>by simp [bD]
 | _ ::_ ::_,[]=>by simp [bD]
 | [p],[q]=>by simp [bD,fk]
 | [_],_ ::_ ::_=>by simp [bD]
 | p ::p' ::r,[q]=>by simp [bD]
 | p ::p' ::r,q ::q' ::s=>by
  have ih:=rP (F:=F) (p' ::r) (q' ::s)
  simp only [bD]
  rw [←ih,fk]
  simp only [List.isEmpty_cons,Bool.not_false,Bool.and_self,if_true]
  have:decide ((p ::p' ::r).length=(q ::q' ::s).length)=decide ((p' ::r).length=(q' ::s).length):=decide_eq_decide.2 (by simp)
  rw [this]
  cases F q p <;> cases decide ((p' ::r).length=(q' ::s).length) <;> rfl
theorem AW {F:Shape→Shape→Bool}:∀(l m:List Shape),l.length<=1→(decide (l.length=m.length) && fk F false l m)=bD F l m
 | [],[],_=>rfl
 | [],_ ::_,_=>by simp [bD]
 | [p],[],_=>by simp [bD]
 | [p],[q],_=>by simp [bD,fk]
 | [_],_ ::_ ::_,_=>by simp [bD]
 | _ ::_ ::_,_,h=>by simp at h
def vA (n:Nat) (a b:Shape):Bool:=if a.kind=6 then aD (fun p x=>aW n x p) a b.names b.parts else if a.kind=7 then aD (aW n) b a.names a.parts else bD (aW n) a.parts b.parts
theorem iM {n:Nat} {a b:Shape} (ha:ai a=true) (hb:ai b=true):aW (n+1) a b=true↔(a.kind=4∨b.kind=4)∨(a.kind=b.kind/\a.pkg=b.pkg/\a.name=b.name/\vA n a b=true):=by
 have key:(if a.kind=6 then cN (aW n) false b a.names a.parts && b.names.all (fun m=>(aE a m).isSome)
    else if a.kind=7 then cN (aW n) true b a.names a.parts
    else decide (a.parts.length=b.parts.length) && fk (aW n) (decide (a.kind=8)) a.parts b.parts)=vA n a b:=by
  unfold vA
  by_cases k6:a.kind=6
  ·rw [if_pos k6,if_pos k6,←CX ha hb,lX]
  rw [if_neg k6,if_neg k6]
  by_cases k7:a.kind=7
  ·rw [if_pos k7,if_pos k7,lW]
  rw [if_neg k7,if_neg k7]
  by_cases k8:a.kind=8
  ·rw [Xd k8,rP]
  ·rw [Xf k8]
   refine AW _ _ ?_
   by_cases k5:a.kind=5
   ·rw [AT ha k5];exact Nat.le_refl _
   ·rw [AU ha k5 k6 k7 k8];exact Nat.zero_le _
 rw [aW,key]
 simp only [Bool.or_eq_true,Bool.and_eq_true,decide_eq_true_eq,and_assoc,or_assoc]
theorem mQ:∀n:Nat,(∀a' a b:Shape,allS ai a'=true→allS ai a=true→allS ai b=true→au n a' a=true→aW n a b=true→aW n a' b=true)/\
  (∀a b b':Shape,allS ai a=true→allS ai b=true→allS ai b'=true→aW n a b=true→au n b b'=true→aW n a b'=true)
 | 0=>⟨fun _ _ _ _ _ _ h _=>by simp [au] at h,fun _ _ _ _ _ _ h _=>by simp [aW] at h⟩
 | n+1=>by
  obtain ⟨ihl,ihr⟩:=mQ n
  refine ⟨fun a' a b fa' fa fb h k=>?_,fun a b b' fa fb fb' k h=>?_⟩
  ·obtain ⟨h1,h2,h3,h4⟩:=gR h
   obtain ⟨fa',la'⟩:=cD fa'
   obtain ⟨fa,la⟩:=cD fa
   obtain ⟨fb,lb⟩:=cD fb
   rcases (iM fa fb).1 k with k | ⟨k1,k2,k3,k4⟩
   ·exact (iM fa' fb).2 (.inl (by omega))
   refine (iM fa' fb).2 (.inr ⟨h1.trans k1,h2.trans k2,h3.trans k3,?_⟩)
   unfold vA at k4 ⊢
   by_cases e6:a'.kind=6
   ·rw [if_pos e6] at h4 ⊢
    rw [if_pos (h1 ▸ e6)] at k4
    obtain ⟨na,_⟩:=bJ fa (by omega)
    obtain ⟨nb,_⟩:=bJ fb (by omega)
    refine (bA nb).2 fun i hi=>?_
    obtain ⟨y,y1,y2⟩:=(bA nb).1 k4 i hi
    obtain ⟨j,j1,j2,j3,j4⟩:=eC y1
    obtain ⟨x,x1,x2⟩:=(bA na).1 h4 j j1
    rw [j3] at x1
    rw [j4] at x2
    exact ⟨x,x1,ihl x y _ (aH la' (dr x1).2) (aH la (dr y1).2) (aH lb (getD_mem _ _ _ (by omega))) x2 y2⟩
   rw [if_neg e6] at h4 ⊢
   rw [if_neg (h1 ▸ e6)] at k4
   by_cases e7:a'.kind=7
   ·rw [if_pos e7] at h4 ⊢
    rw [if_pos (h1 ▸ e7)] at k4
    obtain ⟨na',_⟩:=bJ fa' (by omega)
    obtain ⟨na,_⟩:=bJ fa (by omega)
    refine (bA na').2 fun i hi=>?_
    obtain ⟨y,y1,y2⟩:=(bA na').1 h4 i hi
    obtain ⟨j,j1,j2,j3,j4⟩:=eC y1
    obtain ⟨x,x1,x2⟩:=(bA na).1 k4 j j1
    rw [j3] at x1
    rw [j4] at x2
    exact ⟨x,x1,ihl _ y x (aH la' (getD_mem _ _ _ (by omega))) (aH la (dr y1).2) (aH lb (dr x1).2) y2 x2⟩
   rw [if_neg e7] at h4 ⊢
   rw [if_neg (h1 ▸ e7)] at k4
   exact mP h4 k4 fun p hp q hq r hr=>⟨fun u v=>ihl p q r (aH la' hp) (aH la hq) (aH lb hr) u v,fun v u=>ihr r q p (aH lb hr) (aH la hq) (aH la' hp) v u⟩
  ·obtain ⟨h1,h2,h3,h4⟩:=gR h
   obtain ⟨fa,la⟩:=cD fa
   obtain ⟨fb,lb⟩:=cD fb
   obtain ⟨fb',lb'⟩:=cD fb'
   rcases (iM fa fb).1 k with k | ⟨k1,k2,k3,k4⟩
   ·exact (iM fa fb').2 (.inl (by omega))
   refine (iM fa fb').2 (.inr ⟨k1.trans h1,k2.trans h2,k3.trans h3,?_⟩)
   unfold vA at k4 ⊢
   by_cases e6:a.kind=6
   ·rw [if_pos e6] at k4 ⊢
    rw [if_pos (k1 ▸ e6)] at h4
    obtain ⟨nb,_⟩:=bJ fb (by omega)
    obtain ⟨nb',_⟩:=bJ fb' (by omega)
    refine (bA nb').2 fun i hi=>?_
    obtain ⟨y,y1,y2⟩:=(bA nb').1 h4 i hi
    obtain ⟨j,j1,j2,j3,j4⟩:=eC y1
    obtain ⟨x,x1,x2⟩:=(bA nb).1 k4 j j1
    rw [j3] at x1
    rw [j4] at x2
    exact ⟨x,x1,ihr x y _ (aH la (dr x1).2) (aH lb (dr y1).2) (aH lb' (getD_mem _ _ _ (by omega))) x2 y2⟩
   rw [if_neg e6] at k4 ⊢
   rw [if_neg (k1 ▸ e6)] at h4
   by_cases e7:a.kind=7
   ·rw [if_pos e7] at k4 ⊢
    rw [if_pos (k1 ▸ e7)] at h4
    obtain ⟨na,_⟩:=bJ fa (by omega)
    obtain ⟨nb,_⟩:=bJ fb (by omega)
    refine (bA na).2 fun i hi=>?_
    obtain ⟨y,y1,y2⟩:=(bA na).1 k4 i hi
    obtain ⟨j,j1,j2,j3,j4⟩:=eC y1
    obtain ⟨x,x1,x2⟩:=(bA nb).1 h4 j j1
    rw [j3] at x1
    rw [j4] at x2
    exact ⟨x,x1,ihr _ y x (aH la (getD_mem _ _ _ (by omega))) (aH lb (dr y1).2) (aH lb' (dr x1).2) y2 x2⟩
   rw [if_neg e7] at k4 ⊢
   rw [if_neg (k1 ▸ e7)] at h4
   exact mP k4 h4 fun p hp q hq r hr=>⟨fun u v=>ihr p q r (aH la hp) (aH lb hq) (aH lb' hr) u v,fun v u=>ihl r q p (aH lb' hr) (aH lb hq) (aH la hp) v u⟩
theorem xT {a' a b:Shape} (h:bH a' a=true) (k:eK a b=true):eK a' b=true:=by
 unfold bH at h
 unfold eK at k ⊢
 simp only [Bool.and_eq_true,decide_eq_true_eq] at h k ⊢
 exact ⟨⟨h.1.1,k.1.2⟩,(mQ 800).1 a' a b (aG h.1.1).2.2 (aG h.1.2).2.2 (aG k.1.2).2.2 h.2 k.2⟩
theorem vB {a b b':Shape} (k:eK a b=true) (h:bH b b'=true):eK a b'=true:=by
 unfold bH at h
 unfold eK at k ⊢
 simp only [Bool.and_eq_true,decide_eq_true_eq] at h k ⊢
 exact ⟨⟨k.1.1,h.1.2⟩,(mQ 800).2 a b b' (aG k.1.1).2.2 (aG h.1.1).2.2 (aG h.1.2).2.2 k.2 h.2⟩
end Go.Pd
end
section
namespace Go.Pd
open Go.AL
theorem rQ {F:Shape→Shape→Bool}:∀{l:List Shape},(∀p∈l,F p p=true)→bD F l l=true
 | [],_=>rfl
 | [p],h=>by simp only [bD];exact h p (.head _)
 | p ::p' ::r,h=>by
  simp only [bD,Bool.and_eq_true]
  exact ⟨h p (.head _),rQ fun x hx=>h x (.tail _ hx)⟩
theorem nP {F:Shape→Shape→Bool} {s:Shape} (hl:s.names.length=s.parts.length) (hn:s.names.Nodup) (h:∀p∈s.parts,F p p=true):aD F s s.names s.parts=true:=
 (bA hl).2 fun i hi=>⟨_,kx hn hl hi,h _ (getD_mem _ _ _ (by omega))⟩
theorem qe:∀(n:Nat) (s:Shape),sz s+sz s<=n→allS ai s=true→au n s s=true
 | 0,s,h,_=>by have:=dU s;omega
 | n+1,s,h,hf=>by
  obtain ⟨fa,la⟩:=cD hf
  have e:=dT s
  have ih:∀p∈s.parts,au n p p=true:=fun p hp=>by
   have:=bP hp
   exact qe n p (by omega) (aH la hp)
  simp only [au,Bool.and_eq_true,decide_eq_true_eq,true_and]
  by_cases e6:s.kind=6
  ·rw [if_pos e6]
   obtain ⟨nl,nd,_⟩:=bJ fa (by omega)
   exact nP nl nd ih
  rw [if_neg e6]
  by_cases e7:s.kind=7
  ·rw [if_pos e7]
   obtain ⟨nl,nd,_⟩:=bJ fa (by omega)
   exact nP nl nd ih
  rw [if_neg e7]
  exact rQ ih
theorem ie {s:Shape} (h:aq s=0):bH s s=true:=by
 have c:=aG h
 unfold bH
 rw [Xd h,qe 800 s (by omega) c.2.2]
 rfl
theorem nQ {p:Shape}:∀{l:List Shape},p∈l→deepF p<=maxDeep l
 | a ::r,h=>by
  rw [maxDeep]
  rcases List.mem_cons.1 h with rfl | h
  ·omega
  ·have:=nQ h;omega
theorem gB {s p:Shape} (h:aq s=0) (hp:p∈s.parts):aq p=0:=by
 have c:=aG h
 have h1:=bP hp
 have h2:=dT s
 have h3:=nQ hp
 have h4:deepF s=maxDeep s.parts+1:=by cases s;rw [deepF]
 have h5:=c.2.1
 rw [deepS_F] at h5
 have fs:=cD c.2.2
 unfold aq
 rw [deepS_F,if_neg (by omega),if_neg (by omega),if_pos (aH fs.2 hp)]
theorem lg {a b p q:Shape} (ha:aq a=0) (hb:aq b=0) (hp:p∈a.parts) (hq:q∈b.parts) (h:au 799 p q=true):bH p q=true:=by
 have ca:=aG ha
 have cb:=aG hb
 have h1:=bP hp
 have h2:=bP hq
 have h3:=dT a
 have h4:=dT b
 unfold bH
 rw [Xd (gB ha hp),Xd (gB hb hq),ji 800 799 p q (by omega) (by omega),h]
 rfl
theorem dM {a b:Shape}:bH a b=true↔aq a=0/\aq b=0/\au 800 a b=true:=by
 unfold bH
 rw [Bool.and_eq_true,Bool.and_eq_true,decide_eq_true_eq,decide_eq_true_eq,and_assoc]
theorem zy {F:Shape→Shape→Bool} (d:Shape):∀{us vs:List Shape},bD F us vs=true→us.length=vs.length/\(∀i,i+1 < us.length→F (vs.getD i d) (us.getD i d)=true)/\(0 < us.length→F (us.getD (us.length - 1) d) (vs.getD (us.length - 1) d)=true)
 | [],[],_=>⟨rfl,fun i h=>by simp at h,fun h=>by simp at h⟩
 | [],_ ::_,h=>by simp [bD] at h
 | [p],[],h=>by simp [bD] at h
 | _ ::_ ::_,[],h=>by simp [bD] at h
 | [p],[q],h=>⟨rfl,fun i h=>by simp at h,fun _=>h⟩
 | [p],q ::q' ::s,h=>by simp [bD] at h
 | p ::p' ::r,[q],h=>by simp [bD] at h
 | p ::p' ::r,q ::q' ::s,h=>by
  simp only [bD,Bool.and_eq_true] at h
  obtain ⟨h1,h2,h3⟩:=zy d (us:=p' ::r) (vs:=q' ::s) h.2
  refine ⟨by simp only [List.length_cons] at h1 ⊢;omega,fun i hi=>?_,fun _=>?_⟩
  ·cases i with
   | zero=>exact h.1
   | succ i=>exact h2 i (by simpa using hi)
  ·have:=h3 (by simp)
   simpa using this
theorem AX {a b:Shape} (h:bH a b=true) (hk:b.kind=8):a.kind=8/\a.parts.length=b.parts.length/\(∀i,i+1 < b.parts.length→bH (b.parts.getD i an) (a.parts.getD i an)=true)/\bH (a.parts.getD (a.parts.length - 1) an) (b.parts.getD (b.parts.length - 1) an)=true:=by
 obtain ⟨ha,hb,hu⟩:=dM.1 h
 obtain ⟨h1,h2,h3,h4⟩:=gR hu
 rw [if_neg (by omega),if_neg (by omega)] at h4
 obtain ⟨k1,k2,k3⟩:=zy an h4
 have fa:=(cD (aG ha).2.2).1
 have ne:=(pV fa (by omega)).1
 refine ⟨by omega,k1,fun i hi=>?_,?_⟩
 ·exact lg hb ha (getD_mem _ _ _ (by omega)) (getD_mem _ _ _ (by omega)) (k2 i (by omega))
 ·have:=k3 ne
  rw [←k1]
  exact lg ha hb (getD_mem _ _ _ (by omega)) (getD_mem _ _ _ (by omega)) this
theorem vC {a b:Shape} (h:bH a b=true) (hk:b.kind=6) {m:Str} {p:Shape} (hp:aE b m=some p):a.kind=6/\∃x,aE a m=some x/\bH x p=true:=by
 obtain ⟨ha,hb,hu⟩:=dM.1 h
 obtain ⟨h1,h2,h3,h4⟩:=gR hu
 rw [if_pos (by omega)] at h4
 have fb:=(cD (aG hb).2.2).1
 obtain ⟨nb,_⟩:=bJ fb (by omega)
 obtain ⟨j,j1,j2,j3,j4⟩:=eC hp
 obtain ⟨x,x1,x2⟩:=(bA nb).1 h4 j j1
 rw [j3] at x1
 rw [j4] at x2
 exact ⟨by omega,x,x1,lg ha hb (dr x1).2 (dr hp).2 x2⟩
theorem xU {a b:Shape} (h:bH a b=true):a.kind=b.kind:=(gR (dM.1 h).2.2).1
theorem fU (F:Shape→Shape→Bool) (o:Shape):∀(ns:List Str) (ps:List Shape),aD F o ns ps=(ns.zip ps).all fun x=>match aE o x.1 with | none=>false | some y=>F x.2 y
 | [],ps=>by cases ps <;> simp only [aD,List.zip_nil_left,List.all_nil]
 | _ ::_,[]=>by simp only [aD,List.zip_nil_right,List.all_nil]
 | a ::r,p ::q=>by
  rw [aD,List.zip_cons_cons,List.all_cons,fU F o r q]
  try (cases aE o a <;> rfl)
section
variable {F:Shape→Shape→Bool} {a b:Shape}
theorem nR (ha:ai a=true) (h:∀p∈a.parts,∀q∈b.parts,F (sortedS p) q=F p q):aD F b (sortedS a).names (sortedS a).parts=aD F b a.names a.parts:=by
 rw [fU,fU]
 rcases fC ha with e | ⟨e,_⟩
 ·rw [eD e,e]
  cases (sortedS a).parts <;> cases a.parts <;> rfl
 ·rw [vu (qd e),nN]
  refine mO fun x hx=>?_
  dsimp only
  cases g:aE b x.1 with
  | none=>rfl
  | some y=>exact h _ (tC hx) _ (mN g).2
theorem lY (hb:ai b=true) (h:∀p∈a.parts,∀q∈b.parts,F p (sortedS q)=F p q):aD F (sortedS b) a.names a.parts=aD F b a.names a.parts:=by
 rw [fU,fU]
 refine mO fun x hx=>?_
 rw [qT (fC hb)]
 cases g:aE b x.1 with
 | none=>rfl
 | some y=>exact h _ (tC hx) _ (mN g).2
theorem rR:∀(l m:List Shape),(∀p∈l,∀q∈m,F (sortedS p) q=F p q/\F q (sortedS p)=F q p)→bD F (l.map sortedS) m=bD F l m
 | [],[],_=>rfl
 | [],_ ::_,_=>rfl
 | [p],[],_=>rfl
 | _ ::_ ::_,[],_=>by simp [bD]
 | [p],[q],h=>(h p (.head _) q (.head _)).1
 | [p],_ ::_ ::_,_=>by simp [bD]
 | p ::p' ::r,[q],_=>by simp [bD]
 | p ::p' ::r,q ::q' ::s,h=>by
  have ih:=rR (p' ::r) (q' ::s) fun x hx y hy=>h x (.tail _ hx) y (.tail _ hy)
  simp only [List.map_cons,bD] at ih ⊢
  rw [(h p (.head _) q (.head _)).2,ih]
theorem qf:∀(l m:List Shape),(∀p∈l,∀q∈m,F p (sortedS q)=F p q/\F (sortedS q) p=F q p)→bD F l (m.map sortedS)=bD F l m
 | [],[],_=>rfl
 | [],_ ::_,_=>rfl
 | [p],[],_=>rfl
 | _ ::_ ::_,[],_=>by simp [bD]
 | [p],[q],h=>(h p (.head _) q (.head _)).1
 | [p],_ ::_ ::_,_=>by simp [bD]
 | p ::p' ::r,[q],_=>by simp [bD]
 | p ::p' ::r,q ::q' ::s,h=>by
  have ih:=qf (p' ::r) (q' ::s) fun x hx y hy=>h x (.tail _ hx) y (.tail _ hy)
  simp only [List.map_cons,bD] at ih ⊢
  rw [(h p (.head _) q (.head _)).2,ih]
end
theorem jn:∀(n:Nat) (a b:Shape),allS ai a=true→allS ai b=true→au n (sortedS a) b=au n a b/\au n a (sortedS b)=au n a b
 | 0,_,_,_,_=>⟨rfl,rfl⟩
 | n+1,a,b,ha,hb=>by
  have fa:=ha
  have fb:=hb
  rw [fJ,Bool.and_eq_true] at fa fb
  obtain ⟨a1,a2,a3⟩:=jX a
  obtain ⟨b1,b2,b3⟩:=jX b
  have ih:∀p∈a.parts,∀q∈b.parts,au n (sortedS p) q=au n p q/\au n p (sortedS q)=au n p q:=fun p hp q hq=>jn n p q (aH fa.2 hp) (aH fb.2 hq)
  have ih':∀p∈a.parts,∀q∈b.parts,au n (sortedS q) p=au n q p/\au n q (sortedS p)=au n q p:=fun p hp q hq=>jn n q p (aH fb.2 hq) (aH fa.2 hp)
  simp only [au,a1,a2,a3,b1,b2,b3]
  by_cases kk:a.kind=b.kind
  ·by_cases k6:a.kind=6
   ·simp only [if_pos k6]
    rw [lY (F:=fun p x=>au n x p) (a:=b) (b:=a) fa.1 fun p hp q hq=>(ih q hq p hp).1,nR (F:=fun p x=>au n x p) (a:=b) (b:=a) fb.1 fun p hp q hq=>(ih q hq p hp).2]
    exact ⟨rfl,rfl⟩
   ·by_cases k7:a.kind=7
    ·simp only [if_neg k6,if_pos k7]
     rw [nR fa.1 fun p hp q hq=>(ih p hp q hq).1,lY fb.1 fun p hp q hq=>(ih p hp q hq).2]
     exact ⟨rfl,rfl⟩
    ·simp only [if_neg k6,if_neg k7]
     rw [lV (nM fa.1 k6 k7),lV (nM fb.1 (by omega) (by omega)),rR _ _ fun p hp q hq=>⟨(ih p hp q hq).1,(ih' p hp q hq).2⟩,qf _ _ fun p hp q hq=>⟨(ih p hp q hq).2,(ih' p hp q hq).1⟩]
     exact ⟨rfl,rfl⟩
  ·rw [Xf kk]
   simp
theorem qg {a b:Shape} (h:bH a b=true):bH (aO a) (aO b)=true:=by
 obtain ⟨ha,hb,hu⟩:=dM.1 h
 have ca:=(aG ha).2.2
 have cb:=(aG hb).2.2
 have ca':=(aG (fT ha)).2.2
 refine dM.2 ⟨fT ha,fT hb,?_⟩
 rw [aO,if_pos ha] at ca' ⊢
 rw [aO,if_pos hb,(jn 800 _ b ca' cb).2,(jn 800 a b ca cb).1,hu]
end Go.Pd
end
section
namespace Go.Pd
open Go.AL
def iN (a b:Shape):Prop:=a=b∨bH a b=true
theorem iN.check {a b:Shape} (h:iN a b) (hb:aq b=0):bH a b=true:=h.elim (fun e=>by rw [e];exact ie hb) id
theorem iN.sort {a b:Shape} (h:iN a b):iN (aO a) (aO b):=h.elim (fun e=>.inl (by rw [e])) fun h=>.inr (qg h)
structure Low (e' e:Envt):Prop where
 types:e'.types=e.types
 own:e'.own=e.own
 self:e'.self=e.self
 vals:∀o m,(aI e.values o m=none/\aI e'.values o m=none)∨∃s s',aI e.values o m=some s/\aI e'.values o m=some s'/\iN s' s
theorem Low.same {e' e:Envt} (h:Low e' e) (l:List Bndg):Low (bL e' l) (bL e l):=
 ⟨h.types,h.own,h.self,fun o m=>by
  show (aI (e.values++l) o m=none/\aI (e'.values++l) o m=none)∨∃s s',aI (e.values++l) o m=some s/\aI (e'.values++l) o m=some s'/\iN s' s
  rw [lf,lf]
  cases aI l o m with
  | none=>exact h.vals o m
  | some s=>exact .inr ⟨s,s,rfl,rfl,.inl rfl⟩⟩
theorem Low.one {e' e:Envt} (h:Low e' e) {n:Str} {s s':Shape} (hs:iN s' s):Low (bL e' [ec n s']) (bL e [ec n s]):=
 ⟨h.types,h.own,h.self,fun o m=>by
  show (aI (e.values++[ec n s]) o m=none/\aI (e'.values++[ec n s']) o m=none)∨∃x x',aI (e.values++[ec n s]) o m=some x/\aI (e'.values++[ec n s']) o m=some x'/\iN x' x
  rw [hZ,hZ]
  by_cases c:(ec n s).pkg=o/\(ec n s).name=m
  ·rw [if_pos c,if_pos (show (ec n s').pkg=o/\(ec n s').name=m from c)]
   exact .inr ⟨s,s',rfl,rfl,hs⟩
  ·rw [if_neg c,if_neg (show ¬((ec n s').pkg=o/\(ec n s').name=m) from c)]
   exact h.vals o m⟩
def F3 (f:Flt):Prop:=f.err=3∨f.err=91
def CY (f' f:Flt):Prop:=f.err=0→F3 f'∨f'.err=0
def Res (r' r:Shape × Flt):Prop:=r.2.err=0→F3 r'.2∨(r'.2.err=0/\iN r'.1 r.1)
def kD (r' r:Shape × Flt):Prop:=r.2.err=0→aq r.1=0→F3 r'.2∨(r'.2.err=0/\(aq r'.1=3∨aq r'.1=91∨bH r'.1 r.1=true))
theorem F3.ne {f:Flt} (h:F3 f):¬f.err=0:=fun e=>by rcases h with h | h <;> omega
theorem Res.plain {r' r:Shape × Flt} (h:Res r' r):kD r' r:=fun h1 h2=>(h h1).imp id fun ⟨h3,h4⟩=>⟨h3,.inr (.inr (h4.check h2))⟩
theorem AY {t:Trm} {r' r:Shape × Flt} (h:kD r' r):Res (dc t r') (dc t r):=by
 intro h1
 unfold dc at h1
 by_cases c:r.2.err=0
 ·rw [if_pos c] at h1
  by_cases d:aq r.1=0
  ·have hr:dc t r=(aO r.1,cW):=by unfold dc;rw [if_pos c,if_pos d]
   rcases h c d with k | ⟨k1,k2⟩
   ·left
    have:dc t r'=(an,r'.2):=by unfold dc;rw [if_neg k.ne]
    rw [this];exact k
   ·by_cases d':aq r'.1=0
    ·have:dc t r'=(aO r'.1,cW):=by unfold dc;rw [if_pos k1,if_pos d']
     rw [this,hr]
     refine .inr ⟨rfl,.inr (qg ?_)⟩
     rcases k2 with k2 | k2 | k2
     ·omega
     ·omega
     ·exact k2
    ·have:dc t r'=(an,⟨aq r'.1,t.pos⟩):=by unfold dc;rw [if_pos k1,if_neg d']
     rw [this]
     left
     rcases k2 with k2 | k2 | k2
     ·exact .inl k2
     ·exact .inr k2
     ·exact absurd (dM.1 k2).1 d'
  ·rw [if_neg d] at h1;exact absurd h1 d
 ·rw [if_neg c] at h1;exact absurd h1 c
theorem vD {s:Shape} (h:allS ai s=true):aq s=0∨aq s=3∨aq s=91:=by
 unfold aq
 rw [if_pos h]
 by_cases a:400 < sz s
 ·rw [if_pos a];exact .inr (.inl rfl)
 ·rw [if_neg a]
  by_cases b:40 < deepS s 1
  ·rw [if_pos b];exact .inr (.inr rfl)
  ·rw [if_neg b];exact .inl rfl
theorem CZ {r' r:Shape × Flt} (h0:r'.2.err=0) (hf:aq r.1=0→allS ai r'.1=true) (hb:aq r.1=0→aq r'.1=0→au 800 r'.1 r.1=true):kD r' r:=fun _ h2=>by
 refine .inr ⟨h0,?_⟩
 rcases vD (hf h2) with k | k | k
 ·exact .inr (.inr (dM.2 ⟨k,h2,hb h2 k⟩))
 ·exact .inl k
 ·exact .inr (.inl k)
theorem eo {r' r:Shape × Flt} (h:¬r.2.err=0):kD r' r:=fun k=>absurd k h
theorem lZ {s:Shape}:kD (s,cW) (s,cW):=fun _ h=>.inr ⟨rfl,.inr (.inr (ie h))⟩
end Go.Pd
end
