/- Plain facts. What the functions' conditions say, proved. No condition. -/
import Derived.Test.YtldkmcedeenlnaaGreatDoorT04
import Derived.Lib.BitFns
import Derived.Shelf.Strconv.Itoa0
set_option linter.all false
set_option maxRecDepth 100000
noncomputable section
namespace Go.Pd
open Go Go.AL
def ja (n:Int):Int:=(Lib.bitLen n.toNat:Int)
def aM (n:Int):Int:=(ja n+7).tdiv 8
theorem w5 (b:UInt8):0<=bI b:=Int.natCast_nonneg _
theorem AO (b:UInt8):bI b<=255:=by unfold bI;have:=b.toNat_lt;omega
theorem kx:∀f x:Nat,Lib.bitLenAux f x<=f
 | 0,x=>Nat.le_refl _
 | f+1,x=>by
  unfold Lib.bitLenAux
  have:=kx f (x / 2)
  split <;> omega
theorem qA (n:Int):0<=ja n/\ja n<=64:=by
 unfold ja Lib.bitLen
 have:=kx 64 n.toNat
 omega
theorem o6 (n:Int):0<=aM n/\aM n<=8:=by
 have:=qA n
 unfold aM
 rw [Int.tdiv_eq_ediv_of_nonneg (by omega)]
 omega
def uS (n k:Int) (q:Nat):Int:=IntKind.u8.wrap (n.fdiv (2 ^ (min (8 *(k - 1 - q)).toNat 64)))
def l9 (n k:Int) (j:Nat):List Int:=(List.range j).map (uS n k)
theorem oL (n k:Int) (j:Nat):(l9 n k j).length=j:=by simp [l9]
theorem rT (n k:Int) (j:Nat):l9 n k (j+1)=l9 n k j++[uS n k j]:=by simp [l9,List.range_succ]
def gO (n:Int) (j:Nat):List Int:=IntKind.u8.wrap (247+aM n) ::l9 n (aM n) j
theorem ga (n:Int) (j:Nat):(gO n j).length=j+1:=by simp [gO,oL]
theorem w6 (n:Int) (j:Nat):gO n (j+1)=gO n j++[uS n (aM n) j]:=by simp [gO,rT]
def eE (n:Int):Str:=if n < 248 then ff [IntKind.u8.wrap n] else gd (gO n (aM n).toNat)
theorem jv (n:Int):(eE n).length<=9:=by
 unfold eE
 split
 ·simp [ff]
 ·have:=o6 n
  simp [gd,ga]
  omega
def bR (s:Str):Str:=eE s.length++s
def fc (l:List Str):Str:=eE l.length++l.flatMap bR
def b7 (s:Str) (p:Int) (b:Bool):Int × Int × Bool:=if p=s.length then (0,p,true) else (bI (s.getD p.toNat 0),p+1,b)
def orB (n c:Int):Int:=IntKind.u64.wrap ((BitVec.ofInt IntKind.u64.bits (IntKind.u64.wrap (n *2 ^ (min 8 64))) ||| BitVec.ofInt IntKind.u64.bits c).toNat:Int)
def AP (s:Str) (x:Int × Int × Bool):Int × Int × Bool:=(orB x.1 (b7 s x.2.1 x.2.2).1,(b7 s x.2.1 x.2.2).2.1,(b7 s x.2.1 x.2.2).2.2)
def bJ (s:Str):Nat→Int × Int × Bool→Int × Int × Bool
 | 0,x=>x
 | k+1,x=>AP s (bJ s k x)
def ae (s:Str) (p:Int):Int × Int × Bool:=b7 s p false
def bD (c:Int):Int:=if 248<=c then c - 247 else 0
def bA (c:Int):Int:=if 248<=c then 0 else c
def fQ (s:Str) (p:Int):Int × Int × Bool:=bJ s (bD (ae s p).1).toNat (bA (ae s p).1,(ae s p).2.1,(ae s p).2.2)
def aq (s:Str) (p:Int):Int × Int × Int:=
 if p < 0∨(s.length:Int) < p then (0,0,2)
 else if (fQ s p).2.2=true then (0,0,10)
 else if 0 < bD (ae s p).1/\((fQ s p).1 < 248∨aM (fQ s p).1≠bD (ae s p).1) then (0,0,11)
 else ((fQ s p).1,(fQ s p).2.1,0)
def InU (n:Int):Prop:=0<=n/\n<=18446744073709551615
theorem xT (n:Int):InU (IntKind.u64.wrap n):=by
 unfold InU
 simp only [IntKind.wrap,IntKind.bits,IntKind.signed]
 simp
 omega
theorem AQ (n c:Int):InU (orB n c):=xT _
def AtS (s:Str) (p:Int):Prop:=0<=p/\p<=(s.length:Int)
theorem mq {s:Str} {p:Int} {b:Bool} (h:AtS s p):0<=(b7 s p b).1/\(b7 s p b).1<=255/\p<=(b7 s p b).2.1/\AtS s (b7 s p b).2.1/\((b7 s p b).2.2=false→p < (b7 s p b).2.1):=by
 unfold b7 AtS at *
 split
 ·simp;omega
 ·have h1:=w5 (s.getD p.toNat 0)
  have h2:=AO (s.getD p.toNat 0)
  refine ⟨h1,h2,?_,⟨?_,?_⟩,fun _=>?_⟩ <;> simp only <;> omega
theorem rU {s:Str} {p:Int} {b:Bool} (h:(b7 s p b).2.2=false):b=false:=by
 unfold b7 at h
 split at h
 ·cases h
 ·exact h
theorem qB {s:Str}:∀(k:Nat) (x:Int × Int × Bool),AtS s x.2.1→InU x.1→InU (bJ s k x).1/\AtS s (bJ s k x).2.1/\x.2.1<=(bJ s k x).2.1/\((bJ s k x).2.2=false→x.2.2=false)
 | 0,x,h,hn=>⟨hn,h,Int.le_refl _,fun h=>h⟩
 | k+1,x,h,hn=>by
  obtain ⟨c1,c2,c3,c4⟩:=qB k x h hn
  obtain ⟨b1,b2,b3,b4,b5⟩:=mq (b:=(bJ s k x).2.2) c2
  unfold bJ
  exact ⟨AQ _ _,b4,Int.le_trans c3 b3,fun q=>c4 (rU q)⟩
theorem uT {c:Int} (h:0<=c):InU (bA c):=by unfold bA InU;split <;> omega
theorem jw (s:Str) (p:Int):InU (aq s p).1/\((aq s p).2.2=0∨(aq s p).2.2=2∨(aq s p).2.2=10∨(aq s p).2.2=11)/\
  ((aq s p).2.2=0→AtS s p/\AtS s (aq s p).2.1/\p < (aq s p).2.1):=by
 unfold aq
 have z:InU 0:=by unfold InU;omega
 refine if h:p < 0∨(s.length:Int) < p then ?_ else ?_
 ·rw [if_pos h];exact ⟨z,by simp,by simp⟩
 rw [if_neg h]
 have ha:AtS s p:=by unfold AtS;omega
 obtain ⟨b1,b2,b3,b4,b5⟩:=mq (b:=false) ha
 obtain ⟨c1,c2,c3,c4⟩:=qB (bD (ae s p).1).toNat (bA (ae s p).1,(ae s p).2.1,(ae s p).2.2) b4 (uT b1)
 refine if h2:(fQ s p).2.2=true then ?_ else ?_
 ·rw [if_pos h2];exact ⟨z,by simp,by simp⟩
 rw [if_neg h2]
 split
 ·exact ⟨z,by simp,by simp⟩
 ·exact ⟨c1,by simp,fun _=>⟨ha,c2,Int.lt_of_lt_of_le (b5 (c4 (Bool.eq_false_iff.2 h2))) c3⟩⟩
def aC (s:Str) (p:Int):Str × Int × Int:=
 if (aq s p).2.2≠0 then ([],0,(aq s p).2.2)
 else if (s.length:Int) - (aq s p).2.1 < (aq s p).1 then ([],0,10)
 else ((s.take ((aq s p).2.1+(aq s p).1).toNat).drop (aq s p).2.1.toNat,(aq s p).2.1+(aq s p).1,0)
theorem ky (s:Str) (p:Int):((aC s p).2.2=0→AtS s p/\AtS s (aC s p).2.1/\p+1+(aC s p).1.length<=(aC s p).2.1)/\0<=(aC s p).2.2/\(aC s p).2.2<=11:=by
 obtain ⟨h1,h2,h3⟩:=jw s p
 unfold InU at h1
 unfold aC
 split
 ·rename_i h
  simp only
  exact ⟨fun e=>absurd e h,by omega,by omega⟩
 rename_i h
 split
 ·simp
 rename_i h4
 obtain ⟨a1,a2,a3⟩:=h3 (Classical.not_not.1 h)
 unfold AtS at *
 refine ⟨fun _=>⟨a1,⟨by simp only;omega,by simp only;omega⟩,?_⟩,by simp,by simp⟩
 simp only [List.length_drop,List.length_take]
 omega
def dt (s:Str):Nat→Int→List Str→Int→List Str × Int × Int
 | 0,_,_,_=>([],0,10)
 | k+1,n,acc,p=>if 0 < n then (if (aC s p).2.2≠0 then ([],0,(aC s p).2.2) else dt s k (n - 1) (acc++[(aC s p).1]) (aC s p).2.1) else (acc,p,0)
def aV (s:Str) (p:Int):List Str × Int × Int:=
 if (aq s p).2.2≠0 then ([],0,(aq s p).2.2) else dt s (s.length+1) (aq s p).1 [] (aq s p).2.1
def wL (l:List Str):Nat:=(l.map fun x=>x.length+1).sum
theorem xU (a b:List Str):wL (a++b)=wL a+wL b:=by simp [wL]
theorem w7 (l:List Str):l.length<=wL l:=by
 unfold wL
 induction l with
 | nil=>simp
 | cons x r ih=>simp at ih ⊢;omega
theorem rV {s:Str}:∀(k:Nat) (n:Int) (acc:List Str) (p:Int),AtS s p→(s.length:Int)+1<=k+p→InU n→
  ((dt s k n acc p).2.2=0→AtS s (dt s k n acc p).2.1/\p<=(dt s k n acc p).2.1/\(wL (dt s k n acc p).1:Int)<=wL acc+((dt s k n acc p).2.1 - p))/\0<=(dt s k n acc p).2.2/\(dt s k n acc p).2.2<=11
 | 0,n,acc,p,h,hk,hn=>by unfold AtS at h;omega
 | k+1,n,acc,p,h,hk,hn=>by
  obtain ⟨h1,h2,h3⟩:=ky s p
  unfold dt
  split
  ·split
   ·rename_i e
    simp only
    exact ⟨fun q=>absurd q e,h2,h3⟩
   ·rename_i hn0 e
    obtain ⟨a1,a2,a3⟩:=h1 (Classical.not_not.1 e)
    obtain ⟨b1,b2,b3⟩:=rV k (n - 1) (acc++[(aC s p).1]) (aC s p).2.1 a2 (by omega) (by unfold InU at *;omega)
    refine ⟨fun q=>?_,b2,b3⟩
    obtain ⟨c1,c2,c3⟩:=b1 q
    refine ⟨c1,by omega,?_⟩
    rw [xU] at c3
    simp [wL] at c3 ⊢
    omega
  ·exact ⟨fun _=>⟨h,Int.le_refl _,by simp⟩,by simp,by simp⟩
theorem rW (s:Str) (p:Int):((aV s p).2.2=0→AtS s p/\AtS s (aV s p).2.1/\p+1+wL (aV s p).1<=(aV s p).2.1)/\0<=(aV s p).2.2/\(aV s p).2.2<=11:=by
 obtain ⟨h1,h2,h3⟩:=jw s p
 unfold aV
 split
 ·rename_i h
  simp only
  exact ⟨fun e=>absurd e h,by omega,by omega⟩
 rename_i h
 obtain ⟨a1,a2,a3⟩:=h3 (Classical.not_not.1 h)
 obtain ⟨b1,b2,b3⟩:=rV (s.length+1) (aq s p).1 [] (aq s p).2.1 a2 (by unfold AtS at a2;omega) h1
 refine ⟨fun q=>?_,b2,b3⟩
 obtain ⟨c1,c2,c3⟩:=b1 q
 refine ⟨a1,c1,?_⟩
 simp [wL] at c3 ⊢
 omega
def takS (s:Str) (p:Int) (b:Bool):List (Nat × SObj):=[(900,.box (.int .i64 p)),(901,.box (.str s)),(902,.box (.bool b))]
def takA (s:Str) (p:Int) (b:Bool):Ans:=⟨some (AtS s p/\s.length<=9223372036854775807),none,.int .u8 (b7 s p b).1,takS s (b7 s p b).2.1 (b7 s p b).2.2⟩
def Am:Pat:=fun args S=>
 match args,S with
 | [.ptr 900 0,.ptr 901 0,.ptr 902 0],[(900,.box (.int .i64 p)),(901,.box (.str s)),(902,.box (.bool b))]=>some (takA s p b)
 | _,_=>none
theorem ze [Tabs] {P:Program} {f:Nat} (he:b6 P f) (h:∀s p b,AtS s p/\s.length<=9223372036854775807→bl P f [.ptr 900 0,.ptr 901 0,.ptr 902 0] (takS s p b) (takA s p b)):aD P f Am:=by
 intro args S A hA ho _
 unfold Am at hA
 split at hA
 ·simp only [Xs] at hA
  subst hA
  exact ⟨he,h _ _ _ (ho _ rfl)⟩
 ·cases hA
end Go.Pd
end
section
namespace Go.AL
variable [Tabs]
open Go.Proofs Go.Shelf Go.RowKit Go.Pd
variable {P:Program} {ρ:Ren}
theorem rX {f:Nat} (L:Lays.n129 P ρ) (hf:ρ.f 129=f) (he:b6 P f):aD P f (p1 (.int .u64) fun n=>.ret (.int .i64 (ja n))):=by
 subst hf
 refine de he fun n _ ho=>?_
 refine dz fun w pub vs ht hv=>?_
 obtain ⟨v,rfl,hu⟩:=VL.one_inv hv
 obtain ⟨rfl,h0,h1⟩:=(show V _ (.int .u64 n) v from hu).int_inv
 have h0:(0:Int)<=n:=h0
 have h1:n<=18446744073709551615:=h1
 refine (Any.bits_Len64 L n w h0 h1).mono ?_
 rintro en w' ⟨rfl,rfl⟩
 have hb:=qA n
 unfold ja at hb ⊢
 exact ⟨⟨_,rfl,fun Ω=>.int _ _ (by show (-9223372036854775808:Int)<=_;omega) (by show _<=(9223372036854775807:Int);omega)⟩,Below.refl _ _⟩
end Go.AL
end
section
namespace Go.AL.Seat
open Go Go.AL Go.Proofs Go.Shelf Go.Pd
variable [Tabs]
theorem AR:Builder.Extra Tryz.prog Tryz.lays169_ren:={
 sizeBuilder:=by kernel_rfl
 liesBuilder:=by kernel_rfl
 t5:=Tryz.underlying5
 a5:=Tryz.isAgg5
 z5:=Tryz.sizeOf5
 v5:=Tryz.zeroValue5
 infoByte:=by kernel_rfl
 cellsByte:=by kernel_rfl
 sizeByte:=by kernel_rfl
 neB5:=by decide}
theorem w8:aD Tryz.prog 61 (nO 127 5):=rz Tryz.wl Tryz.cc Tryz.bx rfl rfl rfl (b6.mk' Tryz.func61 (by kernel_rfl))
theorem tQ:aD Tryz.prog 62 (l5 127 5):=qo Tryz.lays169 AR rfl rfl rfl (b6.mk' Tryz.func62 (by kernel_rfl))
theorem w9:aD Tryz.prog 90 (p1 (.int .u64) fun n=>.ret (.int .i64 (ja n))):=rX Tryz.lays129 rfl (b6.mk' Tryz.func90 (by kernel_rfl))
end Go.AL.Seat
end
noncomputable section
namespace Go.Pd
open Go Go.AL
def tkN (s:Str) (p:Int) (b:Bool):Int × Int × Bool:=
 if b=true∨(aq s p).2.2≠0∨9223372036854775807 < (aq s p).1 then (0,p,true) else ((aq s p).1,(aq s p).2.1,b)
theorem gP {s:Str} {p:Int} {b:Bool} (h:AtS s p):0<=(tkN s p b).1/\(tkN s p b).1<=9223372036854775807/\AtS s (tkN s p b).2.1/\p<=(tkN s p b).2.1/\((tkN s p b).2.2=false→b=false/\p < (tkN s p b).2.1):=by
 obtain ⟨h1,h2,h3⟩:=jw s p
 unfold tkN
 split
 ·exact ⟨by simp,by simp,h,Int.le_refl _,by simp⟩
 ·rename_i k
  obtain ⟨a1,a2,a3⟩:=h3 (Classical.byContradiction fun q=>k (.inr (.inl q)))
  unfold InU at h1
  have:¬(9223372036854775807:Int) < (aq s p).1:=fun q=>k (.inr (.inr q))
  exact ⟨h1.1,by simp only;omega,a2,by simp only;omega,fun q=>⟨q,a3⟩⟩
def cH (s:Str) (p:Int) (b:Bool):Int:=if b=true then 1 else (s.length:Int) - p+2
theorem fH {s:Str} {p:Int} {b:Bool} (h:AtS s p):1<=cH s p b:=by unfold cH AtS at *;split <;> omega
theorem eF {s:Str} {p q:Int} {c:Bool} (h:AtS s p) (hq:AtS s q) (h1:c=false→p < q):cH s q c+1<=cH s p false:=by
 unfold cH AtS at *
 cases c with
 | true=>simp;omega
 | false=>have:=h1 rfl;simp;omega
def toL (s:Str):Nat→Int→List Int→Int→Bool→List Int × Int × Bool
 | 0,_,l,p,_=>(l,p,true)
 | f+1,m,l,p,b=>if 0 < m/\b=false then toL s f (m - 1) (l++[(tkN s p b).1]) (tkN s p b).2.1 (tkN s p b).2.2 else (l,p,b)
def aQ (b:Bool) (n:Int):Int:=if b=true then n else 0
theorem zN {s:Str}:∀(f:Nat) (m:Int) (l:List Int) (p:Int) (b:Bool),AtS s p→cH s p b<=f→
  AtS s (toL s f m l p b).2.1/\p<=(toL s f m l p b).2.1/\((toL s f m l p b).2.2=false→b=false)/\((toL s f m l p b).1.length:Int)+p<=l.length+(toL s f m l p b).2.1+aQ (!b && (toL s f m l p b).2.2) 1
 | 0,m,l,p,b,h,hf=>by have:=fH (b:=b) h;omega
 | f+1,m,l,p,b,h,hf=>by
  unfold toL
  split
  ·rename_i k
   obtain ⟨k1,rfl⟩:=k
   obtain ⟨a1,a2,a3,a4,a5⟩:=gP (b:=false) h
   have hs:=eF h a3 (fun q=>(a5 q).2)
   obtain ⟨b1,b2,b3,b4⟩:=zN f (m - 1) (l++[(tkN s p false).1]) (tkN s p false).2.1 (tkN s p false).2.2 a3 (by omega)
   refine ⟨b1,by omega,fun _=>rfl,?_⟩
   simp only [List.length_append,List.length_singleton] at b4
   cases hc:(tkN s p false).2.2 with
   | false=>
    have:=(a5 hc).2
    rw [hc] at b4
    simp only [hc] at *
    have e:(!false && (toL s f (m - 1) (l++[(tkN s p false).1]) (tkN s p false).2.1 false).2.2)=(toL s f (m - 1) (l++[(tkN s p false).1]) (tkN s p false).2.1 false).2.2:=by simp
    omega
   | true=>
    rw [hc] at b4 b3
    have e:(toL s f (m - 1) (l++[(tkN s p false).1]) (tkN s p false).2.1 true).2.2=true:=by
     cases hh:(toL s f (m - 1) (l++[(tkN s p false).1]) (tkN s p false).2.1 true).2.2 with
     | true=>rfl
     | false=>exact absurd (b3 hh) (by simp)
    simp only [hc] at b4 b2 ⊢
    rw [e] at b4 ⊢
    simp [aQ] at b4 ⊢
    omega
  ·exact ⟨h,Int.le_refl _,fun q=>q,by cases b <;> simp [aQ]⟩
def op1 (s:Str) (p:Int) (b:Bool):Int × Int × Bool:=tkN s p b
def op2 (s:Str) (p:Int) (b:Bool):Int × Int × Bool:=tkN s (op1 s p b).2.1 (op1 s p b).2.2
def op3 (s:Str) (p:Int) (b:Bool):Str × Int × Int:=aC s (op2 s p b).2.1
def op4 (s:Str) (p:Int) (b:Bool):List Str × Int × Int:=aV s (op3 s p b).2.1
def op5 (s:Str) (p:Int) (b:Bool):Int × Int × Bool:=tkN s (op4 s p b).2.1 (op2 s p b).2.2
def op6 (s:Str) (p:Int) (b:Bool):List Int × Int × Bool:=toL s (s.length+2) (op5 s p b).1 [] (op5 s p b).2.1 (op5 s p b).2.2
def op7 (s:Str) (p:Int) (b:Bool):Int × Int × Bool:=tkN s (op6 s p b).2.1 (op6 s p b).2.2
def opF (s:Str) (p:Int) (b:Bool):Opn × Int × Bool:=
 if (op2 s p b).2.2=true∨(op3 s p b).2.2≠0 then (⟨(op1 s p b).1,(op2 s p b).1,[],[],[],0⟩,(op2 s p b).2.1,true)
 else if (op4 s p b).2.2≠0 then (⟨(op1 s p b).1,(op2 s p b).1,[],[],[],0⟩,(op2 s p b).2.1,true)
 else (⟨(op1 s p b).1,(op2 s p b).1,(op3 s p b).1,(op4 s p b).1,(op6 s p b).1,(op7 s p b).1⟩,(op7 s p b).2.1,(op7 s p b).2.2)
def wO (o:Opn):Nat:=o.name.length+wL o.names+o.tos.length+1
theorem gQ {s:Str} {p:Int} {b:Bool} (h:AtS s p):cH s p b<=((s.length+2:Nat):Int):=by unfold cH AtS at *;split <;> omega
theorem AT {s:Str} {p:Int} {b:Bool} (h:AtS s p) (k2:(op3 s p b).2.2=0) (k3:(op4 s p b).2.2=0):AtS s (op5 s p b).2.1/\(op5 s p b).1<=9223372036854775807:=by
 obtain ⟨c1,c2,c3⟩:=(ky s (op2 s p b).2.1).1 k2
 obtain ⟨d1,d2,d3⟩:=(rW s (op3 s p b).2.1).1 k3
 obtain ⟨e1,e2,e3,e4,e5⟩:=gP (b:=(op2 s p b).2.2) d2
 exact ⟨e3,e2⟩
theorem zO {s:Str} {p:Int} {b:Bool} (h:AtS s p):AtS s (opF s p b).2.1/\p<=(opF s p b).2.1/\((opF s p b).2.2=false→b=false/\p < (opF s p b).2.1)/\
  (wO (opF s p b).1:Int)+p<=(opF s p b).2.1+aQ (opF s p b).2.2 3:=by
 obtain ⟨a1,a2,a3,a4,a5⟩:=gP (b:=b) h
 obtain ⟨b1,b2,b3,b4,b5⟩:=gP (b:=(op1 s p b).2.2) a3
 have hp:p<=(op2 s p b).2.1:=Int.le_trans a4 b4
 have h3:AtS s (op2 s p b).2.1:=b3
 unfold opF
 refine if k:(op2 s p b).2.2=true∨(op3 s p b).2.2≠0 then ?_ else ?_
 ·rw [if_pos k]
  exact ⟨h3,hp,by simp,by simp [wO,wL,aQ];omega⟩
 rw [if_neg k]
 have k1:(op2 s p b).2.2=false:=by
  cases hh:(op2 s p b).2.2 with
  | false=>rfl
  | true=>exact absurd (.inl hh) k
 have k2:(op3 s p b).2.2=0:=Classical.byContradiction fun q=>k (.inr q)
 obtain ⟨c1,c2,c3⟩:=(ky s (op2 s p b).2.1).1 k2
 refine if k3:(op4 s p b).2.2≠0 then ?_ else ?_
 ·rw [if_pos k3]
  exact ⟨h3,hp,by simp,by simp [wO,wL,aQ];omega⟩
 rw [if_neg k3]
 obtain ⟨d1,d2,d3⟩:=(rW s (op3 s p b).2.1).1 (Classical.not_not.1 k3)
 obtain ⟨e1,e2,e3,e4,e5⟩:=gP (b:=(op2 s p b).2.2) d2
 have e3:AtS s (op5 s p b).2.1:=e3
 obtain ⟨f1,f2,f3,f4⟩:=zN (s.length+2) (op5 s p b).1 [] (op5 s p b).2.1 (op5 s p b).2.2 e3 (gQ e3)
 have f1:AtS s (op6 s p b).2.1:=f1
 obtain ⟨g1,g2,g3,g4,g5⟩:=gP (b:=(op6 s p b).2.2) f1
 have c3:(op2 s p b).2.1+1+((op3 s p b).1.length:Int)<=(op3 s p b).2.1:=c3
 have d3:(op3 s p b).2.1+1+(wL (op4 s p b).1:Int)<=(op4 s p b).2.1:=d3
 have e4:(op4 s p b).2.1<=(op5 s p b).2.1:=e4
 have e5:(op5 s p b).2.2=false→(op2 s p b).2.2=false/\(op4 s p b).2.1 < (op5 s p b).2.1:=e5
 have f2:(op5 s p b).2.1<=(op6 s p b).2.1:=f2
 have f3:(op6 s p b).2.2=false→(op5 s p b).2.2=false:=f3
 have f4:((op6 s p b).1.length:Int)+(op5 s p b).2.1<=0+(op6 s p b).2.1+aQ (!(op5 s p b).2.2 && (op6 s p b).2.2) 1:=f4
 have g3:AtS s (op7 s p b).2.1:=g3
 have g4:(op6 s p b).2.1<=(op7 s p b).2.1:=g4
 have g5:(op7 s p b).2.2=false→(op6 s p b).2.2=false/\(op6 s p b).2.1 < (op7 s p b).2.1:=g5
 have b5:(op2 s p b).2.2=false→(op1 s p b).2.2=false/\(op1 s p b).2.1 < (op2 s p b).2.1:=b5
 have a5:(op1 s p b).2.2=false→b=false/\p < (op1 s p b).2.1:=a5
 have hb:b=false:=(a5 (b5 k1).1).1
 have h12:=(a5 (b5 k1).1).2
 have h13:=(b5 k1).2
 refine ⟨g3,by simp only;omega,fun q=>⟨hb,by simp only;omega⟩,?_⟩
 simp only [wO]
 cases hz:(op7 s p b).2.2 with
 | true=>
  have hsl:aQ (!(op5 s p b).2.2 && (op6 s p b).2.2) 1<=1:=by unfold aQ;split <;> omega
  simp only [aQ,if_true]
  omega
 | false=>
  have h7:=g5 hz
  have h6:(op6 s p b).2.2=false:=h7.1
  have h5:=f3 h6
  have h8:=(e5 h5).2
  rw [h6] at f4
  simp [aQ] at f4 ⊢
  omega
def fR (s:Str):Nat→Int→List Opn→Int→Bool→List Opn × Int × Bool
 | 0,_,l,p,_=>(l,p,true)
 | f+1,m,l,p,b=>if 0 < m/\b=false then fR s f (m - 1) (l++[(opF s p b).1]) (opF s p b).2.1 (opF s p b).2.2 else (l,p,b)
def wOs (l:List Opn):Nat:=(l.map wO).sum
theorem uU (a b:List Opn):wOs (a++b)=wOs a+wOs b:=by simp [wOs]
theorem tR (l:List Opn):l.length<=wOs l:=by
 unfold wOs
 induction l with
 | nil=>simp
 | cons x r ih=>simp [wO] at ih ⊢;omega
theorem xV {s:Str}:∀(f:Nat) (m:Int) (l:List Opn) (p:Int) (b:Bool),AtS s p→cH s p b<=f→
  AtS s (fR s f m l p b).2.1/\p<=(fR s f m l p b).2.1/\((fR s f m l p b).2.2=false→b=false)/\(wOs (fR s f m l p b).1:Int)+p<=wOs l+(fR s f m l p b).2.1+aQ (!b && (fR s f m l p b).2.2) 3
 | 0,m,l,p,b,h,hf=>by have:=fH (b:=b) h;omega
 | f+1,m,l,p,b,h,hf=>by
  unfold fR
  split
  ·rename_i k
   obtain ⟨k1,rfl⟩:=k
   obtain ⟨a3,a4,a5,a6⟩:=zO (b:=false) h
   have hs:=eF h a3 (fun q=>(a5 q).2)
   obtain ⟨b1,b2,b3,b4⟩:=xV f (m - 1) (l++[(opF s p false).1]) (opF s p false).2.1 (opF s p false).2.2 a3 (by omega)
   refine ⟨b1,by omega,fun _=>rfl,?_⟩
   rw [uU] at b4
   have e1:wOs [(opF s p false).1]=wO (opF s p false).1:=by simp [wOs]
   rw [e1] at b4
   cases hc:(opF s p false).2.2 with
   | false=>
    rw [hc] at b4 a6
    simp [aQ] at b4 a6 ⊢
    omega
   | true=>
    rw [hc] at b4 b3 a6
    have e:(fR s f (m - 1) (l++[(opF s p false).1]) (opF s p false).2.1 true).2.2=true:=by
     cases hh:(fR s f (m - 1) (l++[(opF s p false).1]) (opF s p false).2.1 true).2.2 with
     | true=>rfl
     | false=>exact absurd (b3 hh) (by simp)
    rw [hc] at b2
    rw [e] at b4 ⊢
    simp [aQ] at b4 a6 ⊢
    omega
  ·exact ⟨h,Int.le_refl _,fun q=>q,by cases b <;> simp [aQ]⟩
def wC (c:Chnk):Nat:=wOs c.ops+1
def wCs (l:List Chnk):Nat:=(l.map wC).sum
theorem uV (a b:List Chnk):wCs (a++b)=wCs a+wCs b:=by simp [wCs]
theorem tS (l:List Chnk):l.length<=wCs l:=by
 unfold wCs
 induction l with
 | nil=>simp
 | cons x r ih=>simp [wC] at ih ⊢;omega
def ch1 (s:Str) (p:Int) (b:Bool):Int × Int × Bool:=tkN s p b
def ch2 (s:Str) (p:Int) (b:Bool):Int × Int × Bool:=tkN s (ch1 s p b).2.1 (ch1 s p b).2.2
def ch3 (s:Str) (p:Int) (b:Bool):List Opn × Int × Bool:=fR s (s.length+2) (ch2 s p b).1 [] (ch2 s p b).2.1 (ch2 s p b).2.2
theorem zP {s:Str} {p:Int} {b:Bool} (h:AtS s p):AtS s (ch2 s p b).2.1/\p<=(ch2 s p b).2.1/\((ch2 s p b).2.2=false→b=false/\p+1 < (ch2 s p b).2.1):=by
 obtain ⟨a1,a2,a3,a4,a5⟩:=gP (b:=b) h
 obtain ⟨b1,b2,b3,b4,b5⟩:=gP (b:=(ch1 s p b).2.2) a3
 exact ⟨b3,Int.le_trans a4 b4,fun q=>by
  obtain ⟨c1,c2⟩:=b5 q
  obtain ⟨d1,d2⟩:=a5 c1
  have e1:(ch1 s p b).2.1=(tkN s p b).2.1:=rfl
  have e2:(ch2 s p b).2.1=(tkN s (ch1 s p b).2.1 (ch1 s p b).2.2).2.1:=rfl
  rw [e2]
  have e3:(tkN s (tkN s p b).2.1 (ch1 s p b).2.2).2.1=(tkN s (ch1 s p b).2.1 (ch1 s p b).2.2).2.1:=rfl
  exact ⟨d1,by omega⟩⟩
theorem zQ {s:Str} {p:Int} {b:Bool} (h:AtS s p):AtS s (ch3 s p b).2.1/\p<=(ch3 s p b).2.1/\((ch3 s p b).2.2=false→b=false/\p < (ch3 s p b).2.1)/\
  (wC ⟨(ch1 s p b).1,(ch3 s p b).1⟩:Int)+p<=(ch3 s p b).2.1+aQ (ch3 s p b).2.2 4:=by
 obtain ⟨a1,a2,a3⟩:=zP (b:=b) h
 obtain ⟨b1,b2,b3,b4⟩:=xV (s.length+2) (ch2 s p b).1 [] (ch2 s p b).2.1 (ch2 s p b).2.2 a1 (gQ a1)
 have e1:fR s (s.length+2) (ch2 s p b).1 [] (ch2 s p b).2.1 (ch2 s p b).2.2=ch3 s p b:=rfl
 rw [e1] at b1 b2 b3 b4
 refine ⟨b1,by omega,fun q=>?_,?_⟩
 ·obtain ⟨c1,c2⟩:=a3 (b3 q)
  exact ⟨c1,by omega⟩
 ·unfold wC
  simp only [wOs,List.map_nil,List.sum_nil] at b4 ⊢
  cases hc:(ch3 s p b).2.2 with
  | true=>
   have hsl:aQ (!(ch2 s p b).2.2 && (ch3 s p b).2.2) 3<=3:=by unfold aQ;split <;> omega
   simp only [aQ,if_true]
   omega
  | false=>
   obtain ⟨c1,c2⟩:=a3 (b3 hc)
   rw [hc] at b4
   simp [aQ] at b4 ⊢
   omega
def chL (s:Str):Nat→Int→List Chnk→Int→Bool→List Chnk × Int × Bool
 | 0,_,l,p,_=>(l,p,true)
 | f+1,m,l,p,b=>if 0 < m/\b=false then chL s f (m - 1) (l++[⟨(ch1 s p b).1,(ch3 s p b).1⟩]) (ch3 s p b).2.1 (ch3 s p b).2.2 else (l,p,b)
theorem zR {s:Str}:∀(f:Nat) (m:Int) (l:List Chnk) (p:Int) (b:Bool),AtS s p→cH s p b<=f→
  AtS s (chL s f m l p b).2.1/\p<=(chL s f m l p b).2.1/\((chL s f m l p b).2.2=false→b=false)/\(wCs (chL s f m l p b).1:Int)+p<=wCs l+(chL s f m l p b).2.1+aQ (!b && (chL s f m l p b).2.2) 4
 | 0,m,l,p,b,h,hf=>by have:=fH (b:=b) h;omega
 | f+1,m,l,p,b,h,hf=>by
  unfold chL
  split
  ·rename_i k
   obtain ⟨k1,rfl⟩:=k
   obtain ⟨a3,a4,a5,a6⟩:=zQ (b:=false) h
   have hs:=eF h a3 (fun q=>(a5 q).2)
   obtain ⟨b1,b2,b3,b4⟩:=zR f (m - 1) (l++[⟨(ch1 s p false).1,(ch3 s p false).1⟩]) (ch3 s p false).2.1 (ch3 s p false).2.2 a3 (by omega)
   refine ⟨b1,by omega,fun _=>rfl,?_⟩
   rw [uV] at b4
   have e1:wCs [(⟨(ch1 s p false).1,(ch3 s p false).1⟩:Chnk)]=wC ⟨(ch1 s p false).1,(ch3 s p false).1⟩:=by simp [wCs]
   rw [e1] at b4
   cases hc:(ch3 s p false).2.2 with
   | false=>
    rw [hc] at b4 a6
    simp [aQ] at b4 a6 ⊢
    omega
   | true=>
    rw [hc] at b4 b3 a6
    have e:(chL s f (m - 1) (l++[⟨(ch1 s p false).1,(ch3 s p false).1⟩]) (ch3 s p false).2.1 true).2.2=true:=by
     cases hh:(chL s f (m - 1) (l++[⟨(ch1 s p false).1,(ch3 s p false).1⟩]) (ch3 s p false).2.1 true).2.2 with
     | true=>rfl
     | false=>exact absurd (b3 hh) (by simp)
    rw [hc] at b2
    rw [e] at b4 ⊢
    simp [aQ] at b4 a6 ⊢
    omega
  ·exact ⟨h,Int.le_refl _,fun q=>q,by cases b <;> simp [aQ]⟩
def jb (s:Str):List Chnk × Int × Bool:=chL s (s.length+2) (tkN s 0 false).1 [] (tkN s 0 false).2.1 (tkN s 0 false).2.2
theorem xW (s:Str):(jb s).2.2=false→(wCs (jb s).1:Int)<=s.length:=by
 have h0:AtS s 0:=⟨Int.le_refl _,by omega⟩
 obtain ⟨a1,a2,a3,a4,a5⟩:=gP (b:=false) h0
 obtain ⟨b1,b2,b3,b4⟩:=zR (s.length+2) (tkN s 0 false).1 [] (tkN s 0 false).2.1 (tkN s 0 false).2.2 a3 (gQ a3)
 have e1:chL s (s.length+2) (tkN s 0 false).1 [] (tkN s 0 false).2.1 (tkN s 0 false).2.2=jb s:=rfl
 rw [e1] at b1 b2 b3 b4
 intro q
 rw [q] at b4
 simp [aQ,wCs] at b4 ⊢
 unfold AtS at b1
 omega
def bU (n:Int):Str:=eE (IntKind.u64.wrap n)
theorem cv (n:Int):(bU n).length<=9:=jv _
def xX (o:Opn):Str:=bU o.kind++bU o.n++bR o.name++fc o.names++bU o.tos.length
def gn (o:Opn):Str:=xX o++o.tos.flatMap bU++bU o.pos
def zf (c:Chnk):Str:=bU c.args++bU c.ops.length
def jy (c:Chnk):Str:=zf c++c.ops.flatMap gn
def lV (l:List Chnk):Str:=bU l.length++l.flatMap jy
theorem xY (l:List Str):(fc l).length<=9+9 *wL l:=by
 unfold fc
 have h:=jv (l.length:Int)
 have:(l.flatMap bR).length<=9 *wL l:=by
  unfold wL
  induction l with
  | nil=>simp
  | cons x r ih=>
   have h9:=jv (x.length:Int)
   have:=ih (jv _)
   simp [bR] at this ⊢
   omega
 rw [List.length_append]
 omega
theorem zg (o:Opn):(gn o).length<=63 *wO o:=by
 have h1:=cv o.kind
 have h2:=cv o.n
 have h3:=jv (o.name.length:Int)
 have h4:=xY o.names
 have h5:=cv (o.tos.length:Int)
 have h6:=cv o.pos
 have h7:(o.tos.flatMap bU).length<=9 *o.tos.length:=by
  generalize o.tos=l
  induction l with
  | nil=>simp
  | cons x r ih=>have:=cv x;simp at ih ⊢;omega
 unfold gn xX wO bR
 simp only [List.length_append]
 omega
theorem zh (c:Chnk):(jy c).length<=63 *wC c:=by
 have h1:=cv c.args
 have h2:=cv (c.ops.length:Int)
 have h3:(c.ops.flatMap gn).length<=63 *wOs c.ops:=by
  generalize c.ops=l
  unfold wOs
  induction l with
  | nil=>simp
  | cons x r ih=>have:=zg x;simp at ih ⊢;omega
 unfold jy zf wC
 simp only [List.length_append]
 omega
theorem uW (l:List Chnk):(lV l).length<=9+63 *wCs l:=by
 have h1:=cv (l.length:Int)
 have h3:(l.flatMap jy).length<=63 *wCs l:=by
  generalize l=l
  unfold wCs
  induction l with
  | nil=>simp
  | cons x r ih=>have:=zh x;simp at ih ⊢;omega
 unfold lV
 simp only [List.length_append]
 omega
def prC (l:List Chnk) (k:Nat):Str:=bU l.length++(l.take k).flatMap jy
def prO (c:Chnk) (j:Nat):Str:=zf c++(c.ops.take j).flatMap gn
def prT (o:Opn) (i:Nat):Str:=xX o++(o.tos.take i).flatMap bU
theorem la {α:Type} (l:List α) (k:Nat) (d:α) (h:k < l.length):l.take (k+1)=l.take k++[l.getD k d]:=by
 rw [List.take_add_one,List.getElem?_eq_getElem h]
 simp [h]
theorem rY {l:List Chnk} {k:Nat} (h:k < l.length):prC l (k+1)=prC l k++jy (l.getD k default):=by
 unfold prC;rw [la l k default h];simp
theorem rZ {c:Chnk} {k:Nat} (h:k < c.ops.length):prO c (k+1)=prO c k++gn (c.ops.getD k default):=by
 unfold prO;rw [la c.ops k default h];simp
theorem xZ {o:Opn} {k:Nat} (h:k < o.tos.length):prT o (k+1)=prT o k++bU (o.tos.getD k 0):=by
 unfold prT;rw [la o.tos k 0 h];simp
theorem zi (l:List Chnk):prC l l.length=lV l:=by unfold prC;rw [List.take_length];rfl
theorem zj (c:Chnk):prO c c.ops.length=jy c:=by unfold prO;rw [List.take_length];rfl
theorem zk (o:Opn):prT o o.tos.length++bU o.pos=gn o:=by unfold prT;rw [List.take_length];rfl
theorem ir {α β:Type} (f:α→List β) (l:List α) (k:Nat):((l.take k).flatMap f).length<=(l.flatMap f).length:=by
 have e:l.flatMap f=(l.take k).flatMap f++(l.drop k).flatMap f:=by rw [←List.flatMap_append,List.take_append_drop]
 rw [e,List.length_append]
 omega
theorem y0 (l:List Chnk) (k:Nat):(prC l k).length<=(lV l).length:=by
 have:=ir jy l k
 unfold prC lV;simp only [List.length_append];omega
theorem y5 (c:Chnk) (k:Nat):(prO c k).length<=(jy c).length:=by
 have:=ir gn c.ops k
 unfold prO jy;simp only [List.length_append];omega
theorem Ao (o:Opn) (k:Nat):(prT o k).length<=(gn o).length:=by
 have:=ir bU o.tos k
 unfold prT gn;simp only [List.length_append];omega
theorem s4 {l:List Chnk} {k:Nat} (h:k < l.length):(jy (l.getD k default)).length<=(lV l).length:=by
 have:=y0 l (k+1)
 rw [rY h,List.length_append] at this
 omega
theorem s5 {c:Chnk} {k:Nat} (h:k < c.ops.length):(gn (c.ops.getD k default)).length<=(jy c).length:=by
 have:=y5 c (k+1)
 rw [rZ h,List.length_append] at this
 omega
theorem o7 (o:Opn):(bR o.name).length<=(gn o).length/\(fc o.names).length<=(gn o).length/\o.name.length<=(gn o).length:=by
 unfold gn xX
 have:o.name.length<=(bR o.name).length:=by unfold bR;rw [List.length_append];omega
 simp only [List.length_append]
 omega
theorem o8 (n:Int):1<=(eE n).length:=by
 unfold eE
 split
 ·simp [ff]
 ·simp [gd,ga]
theorem tT (c:Chnk):c.ops.length<=(jy c).length:=by
 have:c.ops.length<=(c.ops.flatMap gn).length:=by
  generalize c.ops=l
  induction l with
  | nil=>simp
  | cons x r ih=>
   have:1<=(gn x).length:=by
    have:=o8 (IntKind.u64.wrap x.pos)
    unfold gn bU
    simp only [List.length_append]
    omega
   simp only [List.flatMap_cons,List.length_append,List.length_cons]
   omega
 unfold jy
 simp only [List.length_append]
 omega
theorem o9 (o:Opn):o.tos.length<=(gn o).length:=by
 have:o.tos.length<=(o.tos.flatMap bU).length:=by
  generalize o.tos=l
  induction l with
  | nil=>simp
  | cons x r ih=>
   have:=o8 (IntKind.u64.wrap x)
   simp only [List.flatMap_cons,List.length_append,List.length_cons]
   unfold bU at ih ⊢
   omega
 unfold gn
 simp only [List.length_append]
 omega
theorem qC (l:List Str):l.length<=(fc l).length:=by
 unfold fc
 have:l.length<=(l.flatMap bR).length:=by
  induction l with
  | nil=>simp
  | cons x r ih=>
   have:=o8 (x.length:Int)
   simp [bR] at ih ⊢
   omega
 rw [List.length_append]
 omega
end Go.Pd
end
noncomputable section
namespace Go.Pd
open Go Go.AL
def is8 (k:Int):Bool:=decide (k=1) || decide (k=4) || decide (k=6) || decide (k=7) || decide (k=11) || decide (k=13) || decide (k=14) || decide (k=15)
def isB (k:Int):Bool:=decide (k=9) || decide (k=10)
def isU (k:Int):Bool:=decide (k=17) || decide (k=18)
def isR (k:Int):Bool:=decide (k=8) || decide (k=16)
def is6 (k:Int):Bool:=decide (k=1) || decide (k=2) || decide (k=3) || decide (k=4) || decide (k=6) || decide (k=5)
def is4 (k:Int):Bool:=decide (k=9) || decide (k=10) || decide (k=17) || decide (k=18)
def is2 (k:Int):Bool:=decide (k=12) || decide (k=14)
def toN (o:Opn):Int:=if o.kind=16 then o.names.length else 0
def kz (n d a:Bool) (o:Opn):Bool:=
 !((!n && (!decide (o.n=0) || decide (o.kind=3) || decide (o.kind=5))) || (!d && (!decide (o.name=[]) || decide (17<=o.kind) || decide (o.kind=9) || decide (o.kind=10)))) &&
 ((a || decide (o.names.length=0)) && decide ((o.tos.length:Int)=toN o) && decide (0<=o.pos))
def ab (o:Opn):Bool:=
 if is8 o.kind=true then kz (decide (0<=o.n)) false false o
 else if o.kind=3 then kz (decide (o.n=0) || decide (o.n=1)) false false o
 else if o.kind=5 then kz (decide (o.n=110)) false false o
 else if o.kind=2 then kz false true false o
 else if isB o.kind=true then kz false (cQ o.name) false o
 else if isU o.kind=true then kz false (gl o.name) false o
 else if isR o.kind=true then kz false false (fP o.names) o
 else if o.kind=12 then kz false false false o
 else false
def ag (o:Opn):Int × Int:=
 if is6 o.kind=true then (0,1)
 else if o.kind=7 then (IntKind.i64.wrap (o.n+1),1)
 else if o.kind=8 then (o.names.length,1)
 else if o.kind=11 then (o.n,1)
 else if is4 o.kind=true then (1,1)
 else if o.kind=16 then (if o.names.length=0 then (1,1) else (1,0))
 else if is2 o.kind=true then (1,0)
 else (0,0)
def eqT (x y:Stt):Bool:=decide (x.things=y.things) && decide (x.names=y.names)
def bS (l:List Stt) (tgt:Int) (s:Stt):List Stt:=if (l.getD tgt.toNat default).things < 0 then l.set tgt.toNat s else l
def cg (l:List Stt) (tgt:Int) (s:Stt):Bool:=eqT ((bS l tgt s).getD tgt.toNat default) s
theorem cX (l:List Stt) (tgt:Int) (s:Stt):(bS l tgt s).length=l.length:=by unfold bS;split <;> simp
def zS (l:List Stt) (n:Nat):List (Nat × SObj):=[(900,.box (.arr 901 n 2)),(901,.box (.row (.st .stt) l))]
def zT (l:List Stt) (n:Nat) (tgt:Int) (s:Stt):Ans:=⟨some (0<=tgt/\tgt < n/\n=l.length),none,.bool (cg l tgt s),zS (bS l tgt s) n⟩
def y7:Pat:=fun args S=>
 match args,S with
 | [.int .i64 tgt,a,.ptr 900 0],[(900,.box (.arr 901 n 2)),(901,.box (.row (.st .stt) l))]=>(match arg (.st .stt) a with | some s=>some (zT l n tgt s) | none=>none)
 | _,_=>none
theorem y8 [Tabs] {P:Program} {f:Nat} (he:b6 P f) (h:∀(l:List Stt) (n:Nat) (tgt:Int) (s:Stt),0<=tgt/\tgt < n/\n=l.length→bl P f [.int .i64 tgt,.st .stt s,.ptr 900 0] (zS l n) (zT l n tgt s)):aD P f y7:=by
 intro args S A hA ho _
 unfold y7 at hA
 split at hA
 ·split at hA
  ·rename_i s hs
   simp only [Xs] at hA
   subst hA
   exact ⟨he,bl.args (.cons (Rd.refl _) (.cons (Rd.arg hs) (.cons (Rd.refl _) .nil))) (h _ _ _ _ (ho _ rfl))⟩
  ·cases hA
 ·cases hA
def mN (l:List Stt) (i:Int) (s:Stt) (goes:Bool) (bs:List Stt):Bool × List Stt × List Stt:=if goes=true then (cg l (i+1) s,bS l (i+1) s,bs) else (false,l,bs)
def iu (i:Int) (n:Nat) (s:Stt):List Int→List Stt→Bool × List Stt
 | [],l=>(true,l)
 | tgt ::r,l=>if tgt<=i∨(n:Int) < tgt∨cg l tgt s=false then (false,l) else iu i n s r (bS l tgt s)
def s1F (o:Opn) (s:Stt):Stt:=⟨IntKind.i64.wrap (s.things+IntKind.i64.wrap ((ag o).2 - (ag o).1)),s.names⟩
def s6 (code:List Chnk) (o:Opn) (s:Stt):Stt:=⟨0,IntKind.i64.wrap (s.names+(code.getD o.n.toNat default).args)⟩
def gK (code:List Chnk) (k:Int) (b0:Stt) (n:Nat) (i:Int) (o:Opn) (l bs:List Stt):Bool:=
 if o.kind=4 then decide (o.n < (l.getD i.toNat default).names)
 else if o.kind=6 then !(decide (o.n<=k) || decide ((code.length:Int)<=o.n)) && !(decide (0<=(bs.getD o.n.toNat default).things) && !eqT (bs.getD o.n.toNat default) (s6 code o (l.getD i.toNat default)))
 else if o.kind=13 then !decide (IntKind.i64.wrap ((l.getD i.toNat default).names - b0.names) < o.n)
 else if o.kind=15∨o.kind=14 then decide (i < o.n) && decide (o.n<=(n:Int)) && cg l o.n (s1F o (l.getD i.toNat default))
 else if o.kind=16/\o.tos.length≠0 then (iu i n ⟨(s1F o (l.getD i.toNat default)).things,IntKind.i64.wrap ((l.getD i.toNat default).names+1)⟩ o.tos l).1
 else true
def gF (code:List Chnk) (k:Int) (b0:Stt) (n:Nat) (i:Int) (o:Opn) (l bs:List Stt):Bool:=
 if (l.getD i.toNat default).things < 0∨ab o=false∨(l.getD i.toNat default).things < (ag o).1 then false else gK code k b0 n i o l bs
def lF (n:Nat) (i:Int) (o:Opn) (l:List Stt):List Stt:=
 if (o.kind=15∨o.kind=14)/\i < o.n/\o.n<=(n:Int) then bS l o.n (s1F o (l.getD i.toNat default))
 else if o.kind=16/\o.tos.length≠0 then (iu i n ⟨(s1F o (l.getD i.toNat default)).things,IntKind.i64.wrap ((l.getD i.toNat default).names+1)⟩ o.tos l).2
 else l
def sF (n:Nat) (i:Int) (o:Opn) (l:List Stt):Stt:=
 if o.kind=12 then ⟨(s1F o (l.getD i.toNat default)).things,IntKind.i64.wrap ((l.getD i.toNat default).names+1)⟩
 else if o.kind=13 then ⟨(s1F o (l.getD i.toNat default)).things,IntKind.i64.wrap ((l.getD i.toNat default).names - o.n)⟩
 else if o.kind=15∨o.kind=16/\o.tos.length≠0 then (lF n i o l).getD (i+1).toNat default
 else s1F o (l.getD i.toNat default)
def bF (code:List Chnk) (k:Int) (b0:Stt) (n:Nat) (i:Int) (o:Opn) (l bs:List Stt):List Stt:=
 if o.kind=6/\gF code k b0 n i o l bs=true then bs.set o.n.toNat (s6 code o (l.getD i.toNat default)) else bs
def ph (code:List Chnk) (k:Int) (b0:Stt) (n:Nat) (i:Int) (o:Opn) (l bs:List Stt):Bool × List Stt × List Stt:=
 mN (lF n i o l) i (sF n i o l) (gF code k b0 n i o l bs) (bF code k b0 n i o l bs)
def iy (code:List Chnk) (k:Int) (b0:Stt) (n:Nat):List Opn→Int→List Stt→List Stt→Bool × List Stt
 | [],_,l,bs=>(eqT (l.getD n default) ⟨1,b0.names⟩,bs)
 | o ::r,i,l,bs=>
  if (ph code k b0 n i o l bs).1=true then iy code k b0 n r (i+1) (ph code k b0 n i o l bs).2.1 (ph code k b0 n i o l bs).2.2 else (false,(ph code k b0 n i o l bs).2.2)
theorem lM (i:Int) (n:Nat) (s:Stt):∀(t:List Int) (l:List Stt),(iu i n s t l).2.length=l.length
 | [],l=>rfl
 | tgt ::r,l=>by
  unfold iu
  split
  ·rfl
  ·rw [lM i n s r,cX]
theorem pj (n:Nat) (i:Int) (o:Opn) (l:List Stt):(lF n i o l).length=l.length:=by
 unfold lF
 split
 ·exact cX _ _ _
 ·split
  ·exact lM _ _ _ _ _
  ·rfl
theorem ld (code:List Chnk) (k:Int) (b0:Stt) (n:Nat) (i:Int) (o:Opn) (l bs:List Stt):(bF code k b0 n i o l bs).length=bs.length:=by
 unfold bF
 split <;> simp
theorem uX {code:List Chnk} {k:Int} {b0:Stt} {n:Nat} {i:Int} {o:Opn} {l bs:List Stt} (r:List Opn) (h:gF code k b0 n i o l bs=false):iy code k b0 n (o ::r) i l bs=(false,bs):=by
 have e:bF code k b0 n i o l bs=bs:=by unfold bF;rw [if_neg (fun z=>by rw [h] at z;cases z.2)]
 unfold iy ph mN
 simp only [h,e]
 rfl
theorem tU {code:List Chnk} {k:Int} {b0:Stt} {n:Nat} {i:Int} {o:Opn} {l bs:List Stt} (r:List Opn) (h:gF code k b0 n i o l bs=true) :
  iy code k b0 n (o ::r) i l bs=if cg (lF n i o l) (i+1) (sF n i o l)=true then iy code k b0 n r (i+1) (bS (lF n i o l) (i+1) (sF n i o l)) (bF code k b0 n i o l bs) else (false,bF code k b0 n i o l bs):=by
 rw [iy]
 unfold ph mN
 simp only [h,if_true]
theorem y9 (l:List Stt) (t:Nat):l.set t (l.getD t default)=l:=by
 by_cases h:t < l.length
 ·have e:l.getD t default=l[t]:=by simp [h]
  rw [e,List.set_getElem_self]
 ·exact List.set_eq_of_length_le (by omega)
theorem pk (l:List Stt) (t:Int):bS l t (l.getD t.toNat default)=l/\cg l t (l.getD t.toNat default)=true:=by
 have e:bS l t (l.getD t.toNat default)=l:=by
  unfold bS
  split
  ·exact y9 _ _
  ·rfl
 refine ⟨e,?_⟩
 unfold cg eqT
 rw [e]
 simp
theorem s7 {code:List Chnk} {k:Int} {b0:Stt} {n:Nat} {i:Int} {o:Opn} {l bs:List Stt} (r:List Opn) (h:gF code k b0 n i o l bs=true) (hs:sF n i o l=(lF n i o l).getD (i+1).toNat default) :
  iy code k b0 n (o ::r) i l bs=iy code k b0 n r (i+1) (lF n i o l) (bF code k b0 n i o l bs):=by
 rw [tU r h,hs,(pk _ _).1,(pk _ _).2,if_pos rfl]
def aL (code:List Chnk) (k:Int):Chnk:=code.getD k.toNat default
def aA (code:List Chnk) (k:Int):Nat:=(aL code k).ops.length
def cE (m j:Nat):List Stt:=List.replicate j ⟨-1,0⟩++List.replicate (m - j) ⟨0,0⟩
def aE (code:List Chnk) (k:Int) (bs:List Stt):Bool × List Stt:=
 if cg (cE (aA code k+1) (aA code k+1)) 0 (bs.getD k.toNat default)=true then
  iy code k (bs.getD k.toNat default) (aA code k) (aL code k).ops 0 (bS (cE (aA code k+1) (aA code k+1)) 0 (bs.getD k.toNat default)) bs
 else (false,bs)
theorem dA {m j:Nat} (h:j<=m):(cE m j).length=m:=by simp [cE];omega
theorem pn {m j:Nat} (h:j < m):(cE m j).getD j default=⟨0,0⟩:=by
 unfold cE
 rw [List.getD_eq_getElem?_getD,List.getElem?_append_right (by simp)]
 simp [List.getElem?_replicate,show 0 < m - j by omega]
theorem s8 {m j:Nat} (h:j < m) (d:Stt):(cE m j).set j ⟨-1,0⟩=cE m (j+1):=by
 unfold cE
 rw [List.set_append_right _ _ (by simp)]
 have e:m - j=(m - (j+1))+1:=by omega
 rw [e,List.replicate_succ]
 simp [List.replicate_succ',List.append_assoc]
theorem oM (code:List Chnk) (k:Int) (bs:List Stt):(aE code k bs).2.length=bs.length:=by
 have h:∀(b0:Stt) (n:Nat) (r:List Opn) (i:Int) (l bs:List Stt),(iy code k b0 n r i l bs).2.length=bs.length:=by
  intro b0 n r
  induction r with
  | nil=>intro i l bs;rfl
  | cons o r ih=>
   intro i l bs
   cases hg:gF code k b0 n i o l bs with
   | false=>rw [uX r hg]
   | true=>
    rw [tU r hg]
    split
    ·rw [ih,ld]
    ·exact ld _ _ _ _ _ _ _ _
 unfold aE
 split
 ·exact h _ _ _ _ _ _
 ·rfl
def zl (code:List Chnk) (k:Int) (bs:List Stt) (n:Nat):Prop:=
 0<=k/\k < (code.length:Int)/\bs.length=code.length/\n=code.length/\aA code k<=4096/\∀o∈(aL code k).ops,o.names.length *16<=140737488355328/\o.tos.length<=140737488355328
def chkS (code:List Chnk) (bs:List Stt) (n:Nat):List (Nat × SObj):=[(900,.box (.agg [.lst (.st .chunk) code none,.arr 901 n 2])),(901,.box (.row (.st .stt) bs))]
def chkA (code:List Chnk) (k:Int) (bs:List Stt) (n:Nat):Ans:=⟨some (zl code k bs n),none,.bool (aE code k bs).1,chkS code (aE code k bs).2 n⟩
def Ap:Pat:=fun args S=>
 match args,S with
 | [.ptr 900 0,.int .i64 k],[(900,.box (.agg [.lst (.st .chunk) code none,.arr 901 n 2])),(901,.box (.row (.st .stt) bs))]=>some (chkA code k bs n)
 | _,_=>none
theorem zm [Tabs] {P:Program} {f:Nat} (he:b6 P f) (h:∀(code:List Chnk) (k:Int) (bs:List Stt) (n:Nat),zl code k bs n→bl P f [.ptr 900 0,.int .i64 k] (chkS code bs n) (chkA code k bs n)):aD P f Ap:=by
 intro args S A hA ho _
 unfold Ap at hA
 split at hA
 ·simp only [Xs] at hA
  subst hA
  exact ⟨he,h _ _ _ _ (ho _ rfl)⟩
 ·cases hA
def zn (S0:St) (i j:Nat) (f:List Stt→Stt→LA):LA:=
 match ah S0.b i,ah S0.b j with
 | some (.box (.row (.st .stt) l)),some (.box c)=>(match arg (.st .stt) c with | some s=>f l s | none=>⟨Nat,fun _=>False,fun _=>[],fun _=>[],fun _=>0⟩)
 | _,_=>⟨Nat,fun _=>False,fun _=>[],fun _=>[],fun _=>0⟩
def Aq (S0:St) (f:Int→List Stt→List Stt→List (Nat × AV) × List (Nat × SObj)):List (Nat × AV) × List (Nat × SObj):=
 match aS S0.t 55,ah S0.b 37,ah S0.b 901 with
 | .int _ i,some (.box (.row (.st .stt) l)),some (.box (.row (.st .stt) bs))=>f i l bs
 | _,_,_=>([],[])
def gR (l:List Chnk):Prop:=(lV l).length<=8796093022208
def fe:List Chnk→Int→Bool
 | [],_=>true
 | c ::r,z=>if c.args < 0∨4096 < c.args∨4096 - z < (c.ops.length:Int) then false else fe r (z+c.ops.length)
def bg0 (n:Nat) (scope:Int):List Stt:=(cE n n).set 0 ⟨0,scope⟩
def lf (code:List Chnk):Nat→Nat→List Stt→Bool
 | 0,_,_=>true
 | r+1,k,bs=>if (bs.getD k default).things < 0 then false else if (aE code k bs).1=true then lf code r (k+1) (aE code k bs).2 else false
def fq (code:List Chnk) (scope:Int):Int:=
 if scope < 0∨1000000 < scope∨code.length=0∨4096 < code.length∨(code.getD 0 default).args≠0 then 310
 else if fe code 0=false then 310
 else if lf code code.length 0 (bg0 code.length scope)=true then 0 else 310
theorem tV (n:Nat) (scope:Int):(bg0 n scope).length=n:=by unfold bg0;rw [List.length_set,dA (Nat.le_refl _)]
theorem uY {α:Type} (l:List α) (k:Nat) (d:α) (h:k < l.length):l.getD k d=l[k]:=by rw [List.getD_eq_getElem?_getD,List.getElem?_eq_getElem h];rfl
theorem zo {l:List Chnk} (h:gR l) {c:Chnk} (hc:c∈l) {o:Opn} (ho:o∈c.ops):o.names.length *16<=140737488355328/\o.tos.length<=140737488355328:=by
 have a:(jy c).length<=(lV l).length:=by
  obtain ⟨k,hk,e⟩:=List.mem_iff_getElem.1 hc
  have a:=s4 hk
  rw [uY _ _ _ hk,e] at a
  exact a
 have b:(gn o).length<=(jy c).length:=by
  obtain ⟨k,hk,e⟩:=List.mem_iff_getElem.1 ho
  have a:=s5 hk
  rw [uY _ _ _ hk,e] at a
  exact a
 have d:=(o7 o).2.1
 have e:=qC o.names
 have f:=o9 o
 unfold gR at h
 omega
end Go.Pd
end
section
namespace Go.Pd
open Go.AL
def p0 (A:Ans):Pat
 | [],[]=>some A
 | _,_=>none
theorem AU [Tabs] {P:Program} {f:Nat} {A:Ans} (he:b6 P f) (h:bl P f [] [] A):aD P f (p0 A):=by
 intro args S A' hA _ _
 unfold p0 at hA
 split at hA
 ·simp only [Xs] at hA
  subst hA
  exact ⟨he,h⟩
 ·cases hA
end Go.Pd
end
noncomputable section
namespace Go.Pd
open Go Go.AL
def Ar (s:Str) (p:Int) (b:Bool):List (Nat × SObj):=[(900,.box (.agg [.str s,.int .i64 p,.bool b]))]
def zp (F:Str→Int→Bool→Ans):Pat:=fun args S=>
 match args,S with
 | [.ptr 900 0],[(900,.box (.agg [.str s,.int .i64 p,.bool b]))]=>some (F s p b)
 | _,_=>none
theorem uZ [Tabs] {P:Program} {f:Nat} {F:Str→Int→Bool→Ans} (he:b6 P f)
  (h:∀s p b,(∀q,(F s p b).ob=some q→q)→bl P f [.ptr 900 0] (Ar s p b) (F s p b)):aD P f (zp F):=by
 intro args S A hA ho _
 unfold zp at hA
 split at hA
 ·simp only [Xs] at hA
  subst hA
  exact ⟨he,h _ _ _ ho⟩
 ·cases hA
def tkA (s:Str) (p:Int) (b:Bool):Ans:=⟨none,none,.int .i64 (tkN s p b).1,Ar s (tkN s p b).2.1 (tkN s p b).2.2⟩
def opA (s:Str) (p:Int) (b:Bool):Ans:=⟨some (AtS s p/\s.length<=68719476736),none,.st .op (opF s p b).1,Ar s (opF s p b).2.1 (opF s p b).2.2⟩
def zq (S0:St) (i:Nat) (f:Int→Bool→LA):LA:=match ah S0.b i with | some (.box (.agg [.str _,.int .i64 p,.bool b]))=>f p b | _=>⟨Nat,fun _=>False,fun _=>[],fun _=>[],fun _=>0⟩
def zr (S0:St) (i:Nat) (f:Int→LA):LA:=match ah S0.b i with | some (.box (.agg [.int .i64 a,_]))=>f a | _=>⟨Nat,fun _=>False,fun _=>[],fun _=>[],fun _=>0⟩
def dT (l:List Chnk):Str × Int:=if fq l 1000≠0 then ([],310) else (lV l,0)
def bW (s:Str):List Chnk × Int:=
 if (jb s).2.2=true∨(jb s).2.1≠s.length then ([],310) else if (dT (jb s).1).2≠0∨(dT (jb s).1).1≠s then ([],310) else ((jb s).1,0)
theorem yb {s:Str} (h:(bW s).2≠0):bW s=([],310):=by
 unfold bW at h ⊢
 split
 ·rfl
 ·rename_i h1
  rw [if_neg h1] at h
  split
  ·rfl
  ·rename_i h2
   rw [if_neg h2] at h
   exact absurd rfl h
theorem zt {s:Str} (hs:s.length<=68719476736) (h:(bW s).2=0):gR (bW s).1/\(dT (bW s).1).1=s/\(dT (bW s).1).2=0/\fq (bW s).1 1000=0:=by
 unfold bW at h ⊢
 split at h
 ·cases h
 ·rename_i h1
  rw [if_neg h1]
  split at h
  ·cases h
  ·rename_i h2
   rw [if_neg h2]
   have w:=xW s (Bool.eq_false_iff.2 fun q=>h1 (.inl q))
   have e:=uW (jb s).1
   have a:(dT (jb s).1).2=0:=Classical.byContradiction fun q=>h2 (.inl q)
   refine ⟨by unfold gR;simp only;omega,Classical.byContradiction fun q=>h2 (.inr q),a,?_⟩
   unfold dT at a
   split at a
   ·cases a
   ·rename_i h3
    exact Classical.byContradiction fun q=>h3 q
end Go.Pd
end
section
open Go Go.AL Go.Pd
namespace Go.AL.Seat
theorem ye (c:Int)  :
  if decide ((97:Int)<=c)=true then True/\decide (c<=(122:Int))=bV c/\True else True/\false=bV c/\True:=by
 unfold bV;simp only [j7];split <;> simp [*]
theorem yf (c:Int)  :
  if decide ((65:Int)<=c)=true then True/\decide (c<=(90:Int))=ck c/\True else True/\false=ck c/\True:=by
 unfold ck;simp only [j7];split <;> simp [*]
theorem yg (c:Int)  :
  if decide ((48:Int)<=c)=true then True/\decide (c<=(57:Int))=j9 c/\True else True/\false=j9 c/\True:=by
 unfold j9;simp only [j7];split <;> simp [*]
theorem zu (c:Int)  :
  if bV c=true then True/\true=dP c/\True else if ck c=true then True/\true=dP c/\True else if j9 c=true then True/\true=dP c/\True else True/\decide (c=(95:Int))=dP c/\True:=by
 unfold dP;cases bV c <;> cases ck c <;> cases j9 c <;> simp
theorem wa (s:Str) (hs:Wf .str s) :
  if decide (s=[])=true then True/\false=bH bV s/\True else if decide ((24:Int) < (↑(List.length s):Int))=true then True/\false=bH bV s/\True else ((0:Int)<=(0:Int)/\(0:Int) < (↑(List.length s):Int))/\if (!bV (↑(UInt8.toNat (List.getD s (Int.toNat (0:Int)) (0:UInt8))):Int))=true then True/\false=bH bV s/\True else (∃(x:Nat),(x<=List.length s/\bH bV s=List.all (List.drop x s) fun (c:UInt8) ↦dP (bI c))/\(0:Int)=(↑x:Int)/\s=s/\false=false/\(↑(List.length s):Int)=(↑(List.length s):Int)/\True)/\∀(x:Nat),(x<=List.length s/\bH bV s=List.all (List.drop x s) fun (c:UInt8) ↦dP (bI c))→if decide ((↑x:Int) < (↑(List.length s):Int))=true then ((0:Int)<=(↑x:Int)/\(↑x:Int) < (↑(List.length s):Int))/\if (!dP (↑(UInt8.toNat (List.getD s (Int.toNat (↑x:Int)) (0:UInt8))):Int))=true then True/\false=bH bV s/\True else inR IntKind.i64 ((↑x:Int)+(1:Int))/\∃(y:Nat),(y<=List.length s/\bH bV s=List.all (List.drop y s) fun (c:UInt8) ↦dP (bI c))/\List.length s - y < List.length s - x/\(↑x:Int)+(1:Int)=(↑y:Int)/\s=s/\false=false/\(↑(List.length s):Int)=(↑(List.length s):Int)/\True else True/\true=bH bV s/\True:=by
 have hlen:=hs.str
 have eb:∀b:UInt8,(b.toNat:Int)=bI b:=fun _=>rfl
 simp only [j7,Int.toNat_natCast,Int.toNat_zero,true_and,and_true,eb,bH]
 generalize bV (bI (s.getD 0 0))=f0
 by_cases h0:s=[]
 ·simp [h0]
 have hpos:0 < s.length:=List.length_pos_iff.2 h0
 by_cases h1:s.length<=24
 ·rw [if_neg h0,if_neg (by omega)]
  refine ⟨by omega,?_⟩
  cases f0 with
  | false=>simp
  | true=>
   simp only [Bool.not_true,Bool.false_eq_true,if_false,h0,h1,decide_false,decide_true,Bool.not_false,Bool.true_and]
   refine ⟨⟨0,⟨by omega,rfl⟩,rfl⟩,?_⟩
   rintro k ⟨h3,h4⟩
   split
   ·have hk:k < s.length:=by omega
    rw [fG s k 0 hk,List.all_cons] at h4
    generalize dP (bI (s.getD k 0))=r at h4 ⊢
    refine ⟨by omega,?_⟩
    cases r with
    | false=>simpa using h4.symm
    | true=>
     simp only [Bool.not_true,Bool.false_eq_true,if_false]
     exact ⟨ql hk hlen,k+1,⟨by omega,by simpa using h4⟩,by omega,by omega⟩
   ·have hk:k=s.length:=by omega
    subst hk
    simpa using h4.symm
 ·rw [if_neg h0,if_pos (by omega)]
  simp [h1]
theorem wb (s:Str) (hs:Wf .str s) :
  if decide (s=[])=true then True/\false=bH ck s/\True else if decide ((24:Int) < (↑(List.length s):Int))=true then True/\false=bH ck s/\True else ((0:Int)<=(0:Int)/\(0:Int) < (↑(List.length s):Int))/\if (!ck (↑(UInt8.toNat (List.getD s (Int.toNat (0:Int)) (0:UInt8))):Int))=true then True/\false=bH ck s/\True else (∃(x:Nat),(x<=List.length s/\bH ck s=List.all (List.drop x s) fun (c:UInt8) ↦dP (bI c))/\(0:Int)=(↑x:Int)/\s=s/\false=false/\(↑(List.length s):Int)=(↑(List.length s):Int)/\True)/\∀(x:Nat),(x<=List.length s/\bH ck s=List.all (List.drop x s) fun (c:UInt8) ↦dP (bI c))→if decide ((↑x:Int) < (↑(List.length s):Int))=true then ((0:Int)<=(↑x:Int)/\(↑x:Int) < (↑(List.length s):Int))/\if (!dP (↑(UInt8.toNat (List.getD s (Int.toNat (↑x:Int)) (0:UInt8))):Int))=true then True/\false=bH ck s/\True else inR IntKind.i64 ((↑x:Int)+(1:Int))/\∃(y:Nat),(y<=List.length s/\bH ck s=List.all (List.drop y s) fun (c:UInt8) ↦dP (bI c))/\List.length s - y < List.length s - x/\(↑x:Int)+(1:Int)=(↑y:Int)/\s=s/\false=false/\(↑(List.length s):Int)=(↑(List.length s):Int)/\True else True/\true=bH ck s/\True:=by
 have hlen:=hs.str
 have eb:∀b:UInt8,(b.toNat:Int)=bI b:=fun _=>rfl
 simp only [j7,Int.toNat_natCast,Int.toNat_zero,true_and,and_true,eb,bH]
 generalize ck (bI (s.getD 0 0))=f0
 by_cases h0:s=[]
 ·simp [h0]
 have hpos:0 < s.length:=List.length_pos_iff.2 h0
 by_cases h1:s.length<=24
 ·rw [if_neg h0,if_neg (by omega)]
  refine ⟨by omega,?_⟩
  cases f0 with
  | false=>simp
  | true=>
   simp only [Bool.not_true,Bool.false_eq_true,if_false,h0,h1,decide_false,decide_true,Bool.not_false,Bool.true_and]
   refine ⟨⟨0,⟨by omega,rfl⟩,rfl⟩,?_⟩
   rintro k ⟨h3,h4⟩
   split
   ·have hk:k < s.length:=by omega
    rw [fG s k 0 hk,List.all_cons] at h4
    generalize dP (bI (s.getD k 0))=r at h4 ⊢
    refine ⟨by omega,?_⟩
    cases r with
    | false=>simpa using h4.symm
    | true=>
     simp only [Bool.not_true,Bool.false_eq_true,if_false]
     exact ⟨ql hk hlen,k+1,⟨by omega,by simpa using h4⟩,by omega,by omega⟩
   ·have hk:k=s.length:=by omega
    subst hk
    simpa using h4.symm
 ·rw [if_neg h0,if_pos (by omega)]
  simp [h1]
theorem zw (s:Str)  :
  if decide (s=[(109:UInt8),(111:UInt8),(100:UInt8),(117:UInt8),(108:UInt8),(101:UInt8)])=true then True/\true=cG s/\True else if decide (s=[(105:UInt8),(109:UInt8),(112:UInt8),(111:UInt8),(114:UInt8),(116:UInt8)])=true then True/\true=cG s/\True else if decide (s=[(112:UInt8),(105:UInt8),(110:UInt8)])=true then True/\true=cG s/\True else if decide (s=[(114:UInt8),(97:UInt8),(110:UInt8),(103:UInt8),(101:UInt8)])=true then True/\true=cG s/\True else if decide (s=[(116:UInt8),(121:UInt8),(112:UInt8),(101:UInt8)])=true then True/\true=cG s/\True else if decide (s=[(111:UInt8),(112:UInt8),(97:UInt8),(113:UInt8),(117:UInt8),(101:UInt8)])=true then True/\true=cG s/\True else if decide (s=[(108:UInt8),(101:UInt8),(116:UInt8)])=true then True/\true=cG s/\True else if decide (s=[(105:UInt8),(110:UInt8)])=true then True/\true=cG s/\True else if decide (s=[(101:UInt8),(120:UInt8),(112:UInt8),(111:UInt8),(114:UInt8),(116:UInt8)])=true then True/\true=cG s/\True else if decide (s=[(102:UInt8),(117:UInt8),(110:UInt8)])=true then True/\true=cG s/\True else if decide (s=[(105:UInt8),(102:UInt8)])=true then True/\true=cG s/\True else if decide (s=[(116:UInt8),(104:UInt8),(101:UInt8),(110:UInt8)])=true then True/\true=cG s/\True else if decide (s=[(101:UInt8),(108:UInt8),(115:UInt8),(101:UInt8)])=true then True/\true=cG s/\True else if decide (s=[(99:UInt8),(97:UInt8),(115:UInt8),(101:UInt8)])=true then True/\true=cG s/\True else if decide (s=[(111:UInt8),(102:UInt8)])=true then True/\true=cG s/\True else if decide (s=[(97:UInt8),(115:UInt8)])=true then True/\true=cG s/\True else if decide (s=[(110:UInt8),(101:UInt8),(119:UInt8)])=true then True/\true=cG s/\True else if decide (s=[(114:UInt8),(97:UInt8),(119:UInt8)])=true then True/\true=cG s/\True else if decide (s=[(116:UInt8),(114:UInt8),(117:UInt8),(101:UInt8)])=true then True/\true=cG s/\True else if decide (s=[(102:UInt8),(97:UInt8),(108:UInt8),(115:UInt8),(101:UInt8)])=true then True/\true=cG s/\True else True/\false=cG s/\True:=by
 refine aa (fun h=>?_) (fun h0=>?_)
 ·rw [Xo h];exact ⟨trivial,rfl,trivial⟩
 refine aa (fun h=>?_) (fun h1=>?_)
 ·rw [Xo h];exact ⟨trivial,rfl,trivial⟩
 refine aa (fun h=>?_) (fun h2=>?_)
 ·rw [Xo h];exact ⟨trivial,rfl,trivial⟩
 refine aa (fun h=>?_) (fun h3=>?_)
 ·rw [Xo h];exact ⟨trivial,rfl,trivial⟩
 refine aa (fun h=>?_) (fun h4=>?_)
 ·rw [Xo h];exact ⟨trivial,rfl,trivial⟩
 refine aa (fun h=>?_) (fun h5=>?_)
 ·rw [Xo h];exact ⟨trivial,rfl,trivial⟩
 refine aa (fun h=>?_) (fun h6=>?_)
 ·rw [Xo h];exact ⟨trivial,rfl,trivial⟩
 refine aa (fun h=>?_) (fun h7=>?_)
 ·rw [Xo h];exact ⟨trivial,rfl,trivial⟩
 refine aa (fun h=>?_) (fun h8=>?_)
 ·rw [Xo h];exact ⟨trivial,rfl,trivial⟩
 refine aa (fun h=>?_) (fun h9=>?_)
 ·rw [Xo h];exact ⟨trivial,rfl,trivial⟩
 refine aa (fun h=>?_) (fun h10=>?_)
 ·rw [Xo h];exact ⟨trivial,rfl,trivial⟩
 refine aa (fun h=>?_) (fun h11=>?_)
 ·rw [Xo h];exact ⟨trivial,rfl,trivial⟩
 refine aa (fun h=>?_) (fun h12=>?_)
 ·rw [Xo h];exact ⟨trivial,rfl,trivial⟩
 refine aa (fun h=>?_) (fun h13=>?_)
 ·rw [Xo h];exact ⟨trivial,rfl,trivial⟩
 refine aa (fun h=>?_) (fun h14=>?_)
 ·rw [Xo h];exact ⟨trivial,rfl,trivial⟩
 refine aa (fun h=>?_) (fun h15=>?_)
 ·rw [Xo h];exact ⟨trivial,rfl,trivial⟩
 refine aa (fun h=>?_) (fun h16=>?_)
 ·rw [Xo h];exact ⟨trivial,rfl,trivial⟩
 refine aa (fun h=>?_) (fun h17=>?_)
 ·rw [Xo h];exact ⟨trivial,rfl,trivial⟩
 refine aa (fun h=>?_) (fun h18=>?_)
 ·rw [Xo h];exact ⟨trivial,rfl,trivial⟩
 refine aa (fun h=>?_) (fun h19=>?_)
 ·rw [Xo h];exact ⟨trivial,rfl,trivial⟩
 refine ⟨trivial,?_,trivial⟩
 symm
 refine Xf fun hm=>?_
 unfold zK at hm
 rcases List.mem_cons.1 hm with e | hm
 ·exact h0 (Xd e)
 rcases List.mem_cons.1 hm with e | hm
 ·exact h1 (Xd e)
 rcases List.mem_cons.1 hm with e | hm
 ·exact h2 (Xd e)
 rcases List.mem_cons.1 hm with e | hm
 ·exact h3 (Xd e)
 rcases List.mem_cons.1 hm with e | hm
 ·exact h4 (Xd e)
 rcases List.mem_cons.1 hm with e | hm
 ·exact h5 (Xd e)
 rcases List.mem_cons.1 hm with e | hm
 ·exact h6 (Xd e)
 rcases List.mem_cons.1 hm with e | hm
 ·exact h7 (Xd e)
 rcases List.mem_cons.1 hm with e | hm
 ·exact h8 (Xd e)
 rcases List.mem_cons.1 hm with e | hm
 ·exact h9 (Xd e)
 rcases List.mem_cons.1 hm with e | hm
 ·exact h10 (Xd e)
 rcases List.mem_cons.1 hm with e | hm
 ·exact h11 (Xd e)
 rcases List.mem_cons.1 hm with e | hm
 ·exact h12 (Xd e)
 rcases List.mem_cons.1 hm with e | hm
 ·exact h13 (Xd e)
 rcases List.mem_cons.1 hm with e | hm
 ·exact h14 (Xd e)
 rcases List.mem_cons.1 hm with e | hm
 ·exact h15 (Xd e)
 rcases List.mem_cons.1 hm with e | hm
 ·exact h16 (Xd e)
 rcases List.mem_cons.1 hm with e | hm
 ·exact h17 (Xd e)
 rcases List.mem_cons.1 hm with e | hm
 ·exact h18 (Xd e)
 rcases List.mem_cons.1 hm with e | hm
 ·exact h19 (Xd e)
 exact absurd hm List.not_mem_nil
theorem zx (s:Str)  :
  if bH bV s=true then True/\(!cG s)=cQ s/\True else True/\false=cQ s/\True:=by
 unfold cQ;cases bH bV s <;> simp
theorem yh (s:Str)  :
  True/\bH ck s=gl s/\True:=by
 simp [gl]
theorem wc (a:List Str)  :
  True/\a=a/\True:=by
 trivial
theorem we (n:Int)  :
  inR IntKind.i64 (ja n+(7:Int))/\((8:Int)≠(0:Int)/\inR IntKind.i64 (Int.tdiv (ja n+(7:Int)) (8:Int)))/\True/\Int.tdiv (ja n+(7:Int)) (8:Int)=aM n/\True:=by
 have h1:=qA n
 have h2:=o6 n
 have e:Int.tdiv (ja n+7) 8=aM n:=rfl
 rw [e]
 exact ⟨aN (by omega) (by omega),⟨by omega,aN (by omega) (by omega)⟩,trivial,rfl,trivial⟩
theorem tW (n:Int)  :
  if decide (n < (248:Int))=true then True/\List.map (fun (n:Int) ↦UInt8.ofNat (Int.toNat n)) [IntKind.wrap IntKind.u8 n]=eE n/\True else ((0:Int)<=(1:Int)/\(1:Int)<=(9:Int)/\(9:Int) *(↑(1:Nat):Int)<=(140737488355328:Int))/\inR IntKind.i64 ((247:Int)+aM n)/\((0:Int)<=(0:Int)/\(0:Int) < (↑(List.length (List.replicate (Int.toNat (1:Int)) (0:Int))):Int))/\(Int.toNat (1:Int)=Int.toNat (1:Int)/\Int.toNat (0:Int) < List.length (List.replicate (Int.toNat (1:Int)) (0:Int)))/\inR IntKind.i64 (aM n - (1:Int))/\(∃(x:Nat),(↑x:Int)<=aM n/\aM n - (1:Int)=aM n - (1:Int) - (↑x:Int)/\Int.toNat (1:Int)=(1:Nat)+x/\List.length (List.replicate (Int.toNat (1:Int)) (0:Int))=List.length (gO n x)/\n=n/\fm UInt8=fm UInt8/\false=false/\aM n=aM n/\Int.toNat (1:Int)=(1:Nat)+x/\List.set (List.replicate (Int.toNat (1:Int)) (0:Int)) (Int.toNat (0:Int)) (IntKind.wrap IntKind.u8 ((247:Int)+aM n))=gO n x/\True)/\∀(x:Nat),(↑x:Int)<=aM n→if decide ((0:Int)<=aM n - (1:Int) - (↑x:Int))=true then inR IntKind.i64 ((8:Int) *(aM n - (1:Int) - (↑x:Int)))/\inR IntKind.u64 ((8:Int) *(aM n - (1:Int) - (↑x:Int)))/\(0:Int)<=(8:Int) *(aM n - (1:Int) - (↑x:Int))/\(((1:Nat)+x=(1:Nat)+x/\List.length (gO n x)=List.length (gO n x))/\(List.length (gO n x)+List.length [IntKind.wrap IntKind.u8 (Int.fdiv n ((2:Int) ^ min (Int.toNat ((8:Int) *(aM n - (1:Int) - (↑x:Int)))) (IntKind.bits IntKind.u64)))]) *(1:Nat)<=(140737488355328:Nat))/\inR IntKind.i64 (aM n - (1:Int) - (↑x:Int) - (1:Int))/\∃(y:Nat),(↑y:Int)<=aM n/\Int.toNat (aM n) - y < Int.toNat (aM n) - x/\aM n - (1:Int) - (↑x:Int) - (1:Int)=aM n - (1:Int) - (↑y:Int)/\(1:Nat)+x+List.length [IntKind.wrap IntKind.u8 (Int.fdiv n ((2:Int) ^ min (Int.toNat ((8:Int) *(aM n - (1:Int) - (↑x:Int)))) (IntKind.bits IntKind.u64)))]=(1:Nat)+y/\List.length (gO n x++[IntKind.wrap IntKind.u8 (Int.fdiv n ((2:Int) ^ min (Int.toNat ((8:Int) *(aM n - (1:Int) - (↑x:Int)))) (IntKind.bits IntKind.u64)))])=List.length (gO n y)/\n=n/\fm UInt8=fm UInt8/\false=false/\aM n=aM n/\(1:Nat)+x+List.length [IntKind.wrap IntKind.u8 (Int.fdiv n ((2:Int) ^ min (Int.toNat ((8:Int) *(aM n - (1:Int) - (↑x:Int)))) (IntKind.bits IntKind.u64)))]=(1:Nat)+y/\gO n x++[IntKind.wrap IntKind.u8 (Int.fdiv n ((2:Int) ^ min (Int.toNat ((8:Int) *(aM n - (1:Int) - (↑x:Int)))) (IntKind.bits IntKind.u64)))]=gO n y/\True else ((1:Nat)+x=(1:Nat)+x/\List.length (gO n x)=List.length (gO n x))/\True/\List.map (fun (n:Int) ↦UInt8.ofNat (Int.toNat n)) (gO n x)=eE n/\True:=by
 have hw:=o6 n
 refine aa (fun h=>?_) (fun h=>?_)
 ·replace h:=Xo h
  refine ⟨trivial,?_,trivial⟩
  unfold eE;rw [if_pos h];rfl
 replace h:¬n < 248:=fun e=>h (Xd e)
 refine ⟨⟨by omega,by omega,by omega⟩,aN (by omega) (by omega),⟨by omega,by simp⟩,⟨rfl,by simp⟩,aN (by omega) (by omega),⟨0,by omega,by omega,rfl,by simp [ga],rfl,rfl,rfl,rfl,rfl,rfl,trivial⟩,?_⟩
 intro x hx
 refine aa (fun k=>?_) (fun k=>?_)
 ·replace k:=Xo k
  have e:IntKind.wrap IntKind.u8 (Int.fdiv n ((2:Int) ^ min (Int.toNat ((8:Int) *(aM n - (1:Int) - (x:Int)))) (IntKind.bits IntKind.u64)))=uS n (aM n) x:=rfl
  simp only [e]
  have hl:=ga n x
  have hs:=w6 n x
  refine ⟨aN (by omega) (by omega),⟨by show (0:Int)<=_;omega,by show _<=(18446744073709551615:Int);omega⟩,by omega,⟨⟨by trivial,by trivial⟩,by simp only [List.length_singleton];omega⟩,aN (by omega) (by omega),x+1,by omega,by omega,by omega,by simp only [List.length_singleton];omega,by rw [hs],by trivial,by trivial,by trivial,by trivial,by simp only [List.length_singleton];omega,hs.symm,trivial⟩
 ·replace k:¬(0:Int)<=aM n - 1 - (x:Int):=fun e=>k (Xd e)
  refine ⟨⟨by trivial,by trivial⟩,trivial,?_,trivial⟩
  have e:x=(aM n).toNat:=by omega
  subst e
  unfold eE;rw [if_neg h];rfl
theorem yi (s:Str) (ho:s.length<=140737488355328) :
  inR IntKind.u64 (↑(List.length s):Int)/\List.length (eE (↑(List.length s):Int))+List.length s<=(9223372036854775807:Nat)/\True/\eE (↑(List.length s):Int)++s=bR s/\True:=by
 have h9:=jv (s.length:Int)
 exact ⟨⟨by show (0:Int)<=_;omega,by show _<=(18446744073709551615:Int);omega⟩,by omega,trivial,rfl,trivial⟩
theorem yj (l:List Str) (hl:Wf (.lst .str) l) (ho:(fc l).length<=140737488355328) :
  inR IntKind.u64 (↑(List.length l):Int)/\List.length ([]:Str)+List.length (eE (↑(List.length l):Int))<=(140737488355328:Nat)/\(∃(x:Nat),x<=List.length l/\(0:Int)=(↑x:Int)/\l=l/\fm UInt8=fm UInt8/\l=l/\(↑(List.length l):Int)=(↑(List.length l):Int)/\([]:Str)++eE (↑(List.length l):Int)=eE (↑(List.length l):Int)++List.flatMap bR (List.take x l)/\True)/\∀(x:Nat),x<=List.length l→if decide ((↑x:Int) < (↑(List.length l):Int))=true then ((0:Int)<=(↑x:Int)/\(↑x:Int) < (↑(List.length l):Int))/\List.length (List.getD l (Int.toNat (↑x:Int)) (dfl Ty.str))<=(140737488355328:Nat)/\List.length (eE (↑(List.length l):Int)++List.flatMap bR (List.take x l))+List.length (bR (List.getD l (Int.toNat (↑x:Int)) (dfl Ty.str)))<=(140737488355328:Nat)/\inR IntKind.i64 ((↑x:Int)+(1:Int))/\∃(y:Nat),y<=List.length l/\List.length l - y < List.length l - x/\(↑x:Int)+(1:Int)=(↑y:Int)/\l=l/\fm UInt8=fm UInt8/\l=l/\(↑(List.length l):Int)=(↑(List.length l):Int)/\eE (↑(List.length l):Int)++List.flatMap bR (List.take x l)++bR (List.getD l (Int.toNat (↑x:Int)) (dfl Ty.str))=eE (↑(List.length l):Int)++List.flatMap bR (List.take y l)/\True else List.length (eE (↑(List.length l):Int)++List.flatMap bR (List.take x l))<=aW/\True/\eE (↑(List.length l):Int)++List.flatMap bR (List.take x l)=fc l/\True:=by
 have ln:=hl.len
 have e:∀x,x<=l.length→(eE (l.length:Int)++(l.take x).flatMap bR).length<=140737488355328:=fun x hx=>by
  have h1:(fc l).length=(eE (l.length:Int)++(l.take x).flatMap bR).length+((l.drop x).flatMap bR).length:=by
   unfold fc
   rw [←List.length_append,List.append_assoc,←List.flatMap_append,List.take_append_drop]
  omega
 have h0:=e 0 (Nat.zero_le _)
 simp only [List.take_zero,List.flatMap_nil,List.append_nil] at h0
 refine ⟨⟨by show (0:Int)<=_;omega,by show _<=(18446744073709551615:Int);omega⟩,by simpa using h0,⟨0,Nat.zero_le _,rfl,rfl,rfl,rfl,rfl,by simp,trivial⟩,?_⟩
 intro x hx
 refine aa (fun k=>?_) (fun k=>?_)
 ·replace k:=Xo k
  have k:x < l.length:=by omega
  have hg:l.take (x+1)=l.take x++[l.getD x []]:=by
   rw [List.take_add_one,List.getElem?_eq_getElem k]
   simp [k]
  have he:=e (x+1) k
  rw [hg,List.flatMap_append,←List.append_assoc,List.length_append] at he
  simp only [List.flatMap_cons,List.flatMap_nil,List.append_nil] at he
  simp only [Int.toNat_natCast]
  have ht:(bR (l.getD x [])).length=(eE ((l.getD x []).length:Int)).length+(l.getD x []).length:=by unfold bR;rw [List.length_append]
  have hd:l.getD x (dfl Ty.str)=l.getD x []:=rfl
  rw [hd]
  refine ⟨⟨by omega,by omega⟩,by omega,he,ql k ln,x+1,k,by omega,rfl,by trivial,by trivial,by trivial,by trivial,?_,trivial⟩
  rw [hg,List.flatMap_append,←List.append_assoc]
  simp only [List.flatMap_cons,List.flatMap_nil,List.append_nil]
 ·replace k:¬(x:Int) < (l.length:Int):=fun q=>k (Xd q)
  have k:x=l.length:=by omega
  subst k
  have he:=e l.length (Nat.le_refl _)
  rw [List.take_length] at he ⊢
  exact ⟨Nat.le_trans he (by unfold aW;omega),trivial,rfl,trivial⟩
theorem yk (s:Str) (p:Int) (b:Bool) (ho:AtS s p/\s.length<=9223372036854775807) :
  if decide (p=(↑(List.length s):Int))=true then True/\(0:Int)=(b7 s p b).1/\p=(b7 s p b).2.1/\s=s/\true=(b7 s p b).2.2/\True else inR IntKind.i64 (p+(1:Int))/\inR IntKind.i64 (p+(1:Int) - (1:Int))/\((0:Int)<=p+(1:Int) - (1:Int)/\p+(1:Int) - (1:Int) < (↑(List.length s):Int))/\True/\(↑(UInt8.toNat (List.getD s (Int.toNat (p+(1:Int) - (1:Int))) (0:UInt8))):Int)=(b7 s p b).1/\p+(1:Int)=(b7 s p b).2.1/\s=s/\b=(b7 s p b).2.2/\True:=by
 obtain ⟨⟨h1,h2⟩,ln⟩:=ho
 unfold b7
 refine aa (fun h=>?_) (fun h=>?_)
 ·replace h:=Xo h
  rw [if_pos h]
  exact ⟨trivial,rfl,rfl,rfl,rfl,trivial⟩
 ·replace h:¬p=(s.length:Int):=fun q=>h (Xd q)
  rw [if_neg h]
  have e:p+1 - 1=p:=by omega
  simp only [e]
  exact ⟨aN (by omega) (by omega),aN (by omega) (by omega),⟨by omega,by omega⟩,trivial,rfl,by repeat' (first | exact trivial | rfl | apply And.intro)⟩
theorem yl (s:Str) (p:Int) (hs:Wf .str s) :
  if decide (p < (0:Int))=true then True/\(0:Int)=(aq s p).1/\(0:Int)=(aq s p).2.1/\(2:Int)=(aq s p).2.2/\True else if decide ((↑(List.length s):Int) < p)=true then True/\(0:Int)=(aq s p).1/\(0:Int)=(aq s p).2.1/\(2:Int)=(aq s p).2.2/\True else (AtS s p/\List.length s<=(9223372036854775807:Nat))/\inR IntKind.u64 (b7 s p false).1/\(if decide ((248:Int)<=(b7 s p false).1)=true then inR IntKind.i64 (b7 s p false).1/\inR IntKind.i64 ((b7 s p false).1 - (248:Int))/\inR IntKind.i64 ((b7 s p false).1 - (248:Int)+(1:Int))/\(0:Int)=bA (ae s p).1/\(b7 s p false).1 - (248:Int)+(1:Int)=bD (ae s p).1/\s=s/\p=p/\(0:Int)=(0:Int)/\(0:Int)=(0:Int)/\(0:Int)=(0:Int)/\false=false/\(b7 s p false).1=(b7 s p false).1/\s=s/\(b7 s p false).2.1=(b7 s p false).2.1/\(b7 s p false).2.2=(b7 s p false).2.2/\True else (b7 s p false).1=bA (ae s p).1/\(0:Int)=bD (ae s p).1/\s=s/\p=p/\(0:Int)=(0:Int)/\(0:Int)=(0:Int)/\(0:Int)=(0:Int)/\false=false/\(b7 s p false).1=(b7 s p false).1/\s=s/\(b7 s p false).2.1=(b7 s p false).2.1/\(b7 s p false).2.2=(b7 s p false).2.2/\True)/\(∃(x:Nat),(↑x:Int)<=bD (ae s p).1/\(0:Int)=(↑x:Int)/\bA (ae s p).1=(bJ s x (bA (ae s p).1,(ae s p).2.1,(ae s p).2.2)).1/\bD (ae s p).1=bD (ae s p).1/\s=s/\p=p/\(0:Int)=(0:Int)/\(0:Int)=(0:Int)/\(0:Int)=(0:Int)/\false=false/\(b7 s p false).1=(b7 s p false).1/\bD (ae s p).1=bD (ae s p).1/\(b7 s p false).2.1=(bJ s x (bA (ae s p).1,(ae s p).2.1,(ae s p).2.2)).2.1/\(b7 s p false).2.2=(bJ s x (bA (ae s p).1,(ae s p).2.1,(ae s p).2.2)).2.2/\s=s/\True)/\∀(x:Nat),(↑x:Int)<=bD (ae s p).1→if decide ((↑x:Int) < bD (ae s p).1)=true then (0:Int)<=(8:Int)/\(AtS s (bJ s x (bA (ae s p).1,(ae s p).2.1,(ae s p).2.2)).2.1/\List.length s<=(9223372036854775807:Nat))/\inR IntKind.u64 (b7 s (bJ s x (bA (ae s p).1,(ae s p).2.1,(ae s p).2.2)).2.1 (bJ s x (bA (ae s p).1,(ae s p).2.1,(ae s p).2.2)).2.2).1/\inR IntKind.i64 ((↑x:Int)+(1:Int))/\∃(y:Nat),(↑y:Int)<=bD (ae s p).1/\Int.toNat (bD (ae s p).1) - y < Int.toNat (bD (ae s p).1) - x/\(↑x:Int)+(1:Int)=(↑y:Int)/\IntKind.wrap IntKind.u64 (↑(BitVec.toNat (BitVec.ofInt (IntKind.bits IntKind.u64) (IntKind.wrap IntKind.u64 ((bJ s x (bA (ae s p).1,(ae s p).2.1,(ae s p).2.2)).1 *(2:Int) ^ min (Int.toNat (8:Int)) (IntKind.bits IntKind.u64))) ||| BitVec.ofInt (IntKind.bits IntKind.u64) (b7 s (bJ s x (bA (ae s p).1,(ae s p).2.1,(ae s p).2.2)).2.1 (bJ s x (bA (ae s p).1,(ae s p).2.1,(ae s p).2.2)).2.2).1)):Int)=(bJ s y (bA (ae s p).1,(ae s p).2.1,(ae s p).2.2)).1/\bD (ae s p).1=bD (ae s p).1/\s=s/\p=p/\(0:Int)=(0:Int)/\(0:Int)=(0:Int)/\(0:Int)=(0:Int)/\false=false/\(b7 s p false).1=(b7 s p false).1/\bD (ae s p).1=bD (ae s p).1/\(b7 s (bJ s x (bA (ae s p).1,(ae s p).2.1,(ae s p).2.2)).2.1 (bJ s x (bA (ae s p).1,(ae s p).2.1,(ae s p).2.2)).2.2).2.1=(bJ s y (bA (ae s p).1,(ae s p).2.1,(ae s p).2.2)).2.1
  /\(b7 s (bJ s x (bA (ae s p).1,(ae s p).2.1,(ae s p).2.2)).2.1 (bJ s x (bA (ae s p).1,(ae s p).2.1,(ae s p).2.2)).2.2).2.2=(bJ s y (bA (ae s p).1,(ae s p).2.1,(ae s p).2.2)).2.2/\s=s/\True else if (bJ s x (bA (ae s p).1,(ae s p).2.1,(ae s p).2.2)).2.2=true then True/\(0:Int)=(aq s p).1/\(0:Int)=(aq s p).2.1/\(10:Int)=(aq s p).2.2/\True else if decide ((0:Int) < bD (ae s p).1)=true then if decide ((bJ s x (bA (ae s p).1,(ae s p).2.1,(ae s p).2.2)).1 < (248:Int))=true then True/\(0:Int)=(aq s p).1/\(0:Int)=(aq s p).2.1/\(11:Int)=(aq s p).2.2/\True else if (!decide (aM (bJ s x (bA (ae s p).1,(ae s p).2.1,(ae s p).2.2)).1=bD (ae s p).1))=true then True/\(0:Int)=(aq s p).1/\(0:Int)=(aq s p).2.1/\(11:Int)=(aq s p).2.2/\True else True/\(bJ s x (bA (ae s p).1,(ae s p).2.1,(ae s p).2.2)).1=(aq s p).1/\(bJ s x (bA (ae s p).1,(ae s p).2.1,(ae s p).2.2)).2.1=(aq s p).2.1/\(0:Int)=(aq s p).2.2/\True else True/\(bJ s x (bA (ae s p).1,(ae s p).2.1,(ae s p).2.2)).1=(aq s p).1/\(bJ s x (bA (ae s p).1,(ae s p).2.1,(ae s p).2.2)).2.1=(aq s p).2.1/\(0:Int)=(aq s p).2.2/\True:=by
 have ln:=hs.str
 have eT:∀(a b:Int) (c:Prop),True/\a=b/\c↔a=b/\c:=fun _ _ _=>⟨fun h=>h.2,fun h=>⟨trivial,h⟩⟩
 have bad:p < 0∨(s.length:Int) < p→aq s p=(0,0,2):=fun h=>by unfold aq;rw [if_pos h]
 refine aa (fun h=>?_) (fun h=>?_)
 ·rw [bad (.inl (Xo h))];exact ⟨trivial,rfl,rfl,rfl,trivial⟩
 replace h:¬p < 0:=fun q=>h (Xd q)
 refine aa (fun h2=>?_) (fun h2=>?_)
 ·rw [bad (.inr (Xo h2))];exact ⟨trivial,rfl,rfl,rfl,trivial⟩
 replace h2:¬(s.length:Int) < p:=fun q=>h2 (Xd q)
 have ha:AtS s p:=⟨by omega,by omega⟩
 obtain ⟨b1,b2,b3,b4,b5⟩:=mq (b:=false) ha
 have hK:0<=bD (ae s p).1/\bD (ae s p).1<=8:=by unfold bD ae;split <;> omega
 refine ⟨⟨ha,ln⟩,⟨by show (0:Int)<=_;omega,by show _<=(18446744073709551615:Int);omega⟩,aa (fun k=>?_) (fun k=>?_),⟨0,hK.1,rfl,rfl,rfl,rfl,rfl,rfl,rfl,rfl,rfl,rfl,rfl,rfl,rfl,rfl,trivial⟩,?_⟩
 ·replace k:=Xo k
  refine ⟨aN (by omega) (by omega),aN (by omega) (by omega),aN (by omega) (by omega),?_,?_,rfl,rfl,rfl,rfl,rfl,rfl,rfl,rfl,rfl,rfl,trivial⟩
  ·unfold bA ae;rw [if_pos k]
  ·unfold bD ae;rw [if_pos k];omega
 ·replace k:¬248<=(b7 s p false).1:=fun q=>k (Xd q)
  refine ⟨?_,?_,rfl,rfl,rfl,rfl,rfl,rfl,rfl,rfl,rfl,rfl,trivial⟩
  ·unfold bA ae;rw [if_neg k]
  ·unfold bD ae;rw [if_neg k]
 intro x hx
 obtain ⟨c1,c2,c3,c4⟩:=qB x (bA (ae s p).1,(ae s p).2.1,(ae s p).2.2) b4 (uT b1)
 have d:=mq (b:=(bJ s x (bA (ae s p).1,(ae s p).2.1,(ae s p).2.2)).2.2) c2
 refine aa (fun k=>?_) (fun k=>?_)
 ·replace k:=Xo k
  exact ⟨by omega,⟨c2,ln⟩,⟨by show (0:Int)<=_;omega,by show _<=(18446744073709551615:Int);omega⟩,aN (by omega) (by omega),x+1,by omega,by omega,by omega,rfl,rfl,rfl,rfl,rfl,rfl,rfl,rfl,rfl,rfl,rfl,rfl,rfl,trivial⟩
 replace k:¬(x:Int) < bD (ae s p).1:=fun q=>k (Xd q)
 have ex:x=(bD (ae s p).1).toNat:=by omega
 subst ex
 have e2:bJ s (bD (ae s p).1).toNat (bA (ae s p).1,(ae s p).2.1,(ae s p).2.2)=fQ s p:=rfl
 rw [e2]
 have e:aq s p=if (fQ s p).2.2=true then (0,0,10) else if 0 < bD (ae s p).1/\((fQ s p).1 < 248∨aM (fQ s p).1≠bD (ae s p).1) then (0,0,11) else ((fQ s p).1,(fQ s p).2.1,0):=by
  unfold aq;rw [if_neg (by omega)]
 rw [e]
 refine aa (fun q=>?_) (fun q=>?_)
 ·rw [if_pos q];exact ⟨trivial,rfl,rfl,rfl,trivial⟩
 rw [if_neg q]
 refine aa (fun r=>?_) (fun r=>?_)
 ·replace r:=Xo r
  refine aa (fun t=>?_) (fun t=>?_)
  ·rw [if_pos ⟨r,.inl (Xo t)⟩];exact ⟨trivial,rfl,rfl,rfl,trivial⟩
  replace t:¬(fQ s p).1 < 248:=fun q=>t (Xd q)
  refine aa (fun u=>?_) (fun u=>?_)
  ·have u:¬aM (fQ s p).1=bD (ae s p).1:=by simpa using u
   rw [if_pos ⟨r,.inr u⟩];exact ⟨trivial,rfl,rfl,rfl,trivial⟩
  ·have u:aM (fQ s p).1=bD (ae s p).1:=by simpa using u
   rw [if_neg (fun z=>z.2.elim t (fun z=>z u))];exact ⟨trivial,rfl,rfl,rfl,trivial⟩
 ·replace r:¬0 < bD (ae s p).1:=fun q=>r (Xd q)
  rw [if_neg (fun z=>r z.1)];exact ⟨trivial,rfl,rfl,rfl,trivial⟩
theorem wg (s:Str) (p:Int) (hs:Wf .str s) :
  if (!decide ((aq s p).2.2=(0:Int)))=true then True/\[]=(aC s p).1/\(0:Int)=(aC s p).2.1/\(aq s p).2.2=(aC s p).2.2/\True else inR IntKind.i64 ((↑(List.length s):Int) - (aq s p).2.1)/\inR IntKind.u64 ((↑(List.length s):Int) - (aq s p).2.1)/\if decide ((↑(List.length s):Int) - (aq s p).2.1 < (aq s p).1)=true then True/\[]=(aC s p).1/\(0:Int)=(aC s p).2.1/\(10:Int)=(aC s p).2.2/\True else inR IntKind.i64 (aq s p).1/\inR IntKind.i64 ((aq s p).2.1+(aq s p).1)/\((0:Int)<=(aq s p).2.1/\(aq s p).2.1<=(aq s p).2.1+(aq s p).1/\(aq s p).2.1+(aq s p).1<=(↑(List.length s):Int))/\True/\List.drop (Int.toNat (aq s p).2.1) (List.take (Int.toNat ((aq s p).2.1+(aq s p).1)) s)=(aC s p).1/\(aq s p).2.1+(aq s p).1=(aC s p).2.1/\(0:Int)=(aC s p).2.2/\True:=by
 have ln:=hs.str
 obtain ⟨h1,h2,h3⟩:=jw s p
 unfold aC
 refine aa (fun h=>?_) (fun h=>?_)
 ·have h:(aq s p).2.2≠0:=by simpa using h
  rw [if_pos h];exact ⟨trivial,rfl,rfl,rfl,trivial⟩
 have h:(aq s p).2.2=0:=by simpa using h
 obtain ⟨a1,a2,a3⟩:=h3 h
 rw [if_neg (show ¬(aq s p).2.2≠0 from fun q=>q h)]
 unfold AtS InU at *
 refine ⟨aN (by omega) (by omega),⟨by show (0:Int)<=_;omega,by show _<=(18446744073709551615:Int);omega⟩,aa (fun k=>?_) (fun k=>?_)⟩
 ·rw [if_pos (Xo k)];exact ⟨trivial,rfl,rfl,rfl,trivial⟩
 have k:¬(s.length:Int) - (aq s p).2.1 < (aq s p).1:=fun q=>k (Xd q)
 rw [if_neg k]
 exact ⟨aN (by omega) (by omega),aN (by omega) (by omega),⟨by omega,by omega,by omega⟩,trivial,rfl,rfl,rfl,trivial⟩
theorem wh (s:Str) (p:Int) (hs:Wf .str s) (ho:s.length<=1099511627776) :
  if (!decide ((aq s p).2.2=(0:Int)))=true then True/\(aV s p).1=[]/\(0:Int)=(aV s p).2.1/\(aq s p).2.2=(aV s p).2.2/\True else (∃(x:Nat × Int × List Str × Int),(AtS s x.2.2.2/\(↑(List.length s):Int)+(1:Int)<=(↑x.1:Int)+x.2.2.2/\InU x.2.1/\(↑(wL x.2.2.1):Int)<=x.2.2.2/\dt s x.1 x.2.1 x.2.2.1 x.2.2.2=aV s p)/\(aq s p).1=x.2.1/\x.2.2.1=[]/\(aq s p).2.1=x.2.2.2/\s=s/\(aq s p).2.2=(aq s p).2.2/\false=false/\List.length x.2.2.1=(0:Nat)/\True)/\∀(x:Nat × Int × List Str × Int),AtS s x.2.2.2/\(↑(List.length s):Int)+(1:Int)<=(↑x.1:Int)+x.2.2.2/\InU x.2.1/\(↑(wL x.2.2.1):Int)<=x.2.2.2/\dt s x.1 x.2.1 x.2.2.1 x.2.2.2=aV s p→if decide ((0:Int) < x.2.1)=true then if (!decide ((aC s x.2.2.2).2.2=(0:Int)))=true then True/\(aV s p).1=[]/\(0:Int)=(aV s p).2.1/\(aC s x.2.2.2).2.2=(aV s p).2.2/\True else (List.length x.2.2.1=List.length x.2.2.1/\(List.length x.2.2.1+List.length [(aC s x.2.2.2).1]) *(16:Nat)<=(140737488355328:Nat))/\inR IntKind.u64 (x.2.1 - (1:Int))/\∃(y:Nat × Int × List Str × Int),(AtS s y.2.2.2/\(↑(List.length s):Int)+(1:Int)<=(↑y.1:Int)+y.2.2.2/\InU y.2.1/\(↑(wL y.2.2.1):Int)<=y.2.2.2/\dt s y.1 y.2.1 y.2.2.1 y.2.2.2=aV s p)/\y.1 < x.1/\x.2.1 - (1:Int)=y.2.1/\x.2.2.1++[(aC s x.2.2.2).1]=y.2.2.1/\(aC s x.2.2.2).2.1=y.2.2.2/\s=s/\(aq s p).2.2=(aq s p).2.2/\false=false/\List.length (x.2.2.1++[(aC s x.2.2.2).1])=List.length y.2.2.1/\True else True/\x.2.2.1=(aV s p).1/\x.2.2.2=(aV s p).2.1/\(0:Int)=(aV s p).2.2/\True:=by
 have ln:=hs.str
 obtain ⟨h1,h2,h3⟩:=jw s p
 refine aa (fun h=>?_) (fun h=>?_)
 ·have h:(aq s p).2.2≠0:=by simpa using h
  unfold aV
  rw [if_pos h];exact ⟨trivial,rfl,rfl,rfl,trivial⟩
 have h:(aq s p).2.2=0:=by simpa using h
 obtain ⟨a1,a2,a3⟩:=h3 h
 refine ⟨⟨(s.length+1,(aq s p).1,[],(aq s p).2.1),⟨a2,by unfold AtS at a2;simp only;omega,h1,by unfold AtS at a2;simp only [wL,List.map_nil,List.sum_nil];omega,by unfold aV;rw [if_neg (by simp [h])]⟩,rfl,rfl,rfl,rfl,rfl,rfl,rfl,trivial⟩,?_⟩
 rintro ⟨k,n,acc,q⟩ ⟨g1,g2,g3,g4,g5⟩
 simp only at g1 g2 g3 g4 g5 ⊢
 obtain ⟨t1,t2,t3⟩:=ky s q
 have hw:=w7 acc
 cases k with
 | zero=>unfold AtS at g1;omega
 | succ k=>
 unfold dt at g5
 refine aa (fun r=>?_) (fun r=>?_)
 ·replace r:=Xo r
  rw [if_pos r] at g5
  refine aa (fun u=>?_) (fun u=>?_)
  ·have u:(aC s q).2.2≠0:=by simpa using u
   rw [if_pos u] at g5
   rw [←g5]
   exact ⟨trivial,rfl,rfl,rfl,trivial⟩
  ·have u:(aC s q).2.2=0:=by simpa using u
   rw [if_neg (by simp [u])] at g5
   obtain ⟨v1,v2,v3⟩:=t1 u
   unfold AtS InU at *
   refine ⟨⟨trivial,by simp only [List.length_singleton];omega⟩,⟨by show (0:Int)<=_;omega,by show _<=(18446744073709551615:Int);omega⟩,(k,n - 1,acc++[(aC s q).1],(aC s q).2.1),⟨v2,by simp only;omega,by simp only;omega,?_,g5⟩,by simp,by repeat' (first | exact trivial | rfl | apply And.intro)⟩
   simp only [xU]
   simp [wL] at g4 ⊢
   omega
 ·replace r:=fun z=>r (Xd z)
  rw [if_neg r] at g5
  rw [←g5]
  exact ⟨trivial,rfl,rfl,rfl,trivial⟩
theorem wi (l:List Str) (ho:l.length *16<=140737488355328) :
  (∃(x:Nat),(x<=List.length l/\List.all l cQ=List.all (List.drop x l) cQ)/\(0:Int)=(↑x:Int)/\l=l/\l=l/\(↑(List.length l):Int)=(↑(List.length l):Int)/\True)/\∀(x:Nat),x<=List.length l/\List.all l cQ=List.all (List.drop x l) cQ→if decide ((↑x:Int) < (↑(List.length l):Int))=true then ((0:Int)<=(↑x:Int)/\(↑x:Int) < (↑(List.length l):Int))/\if (!cQ (List.getD l (Int.toNat (↑x:Int)) (dfl Ty.str)))=true then True/\false=fP l/\True else inR IntKind.i64 ((↑x:Int)+(1:Int))/\∃(y:Nat),(y<=List.length l/\List.all l cQ=List.all (List.drop y l) cQ)/\List.length l - y < List.length l - x/\(↑x:Int)+(1:Int)=(↑y:Int)/\l=l/\l=l/\(↑(List.length l):Int)=(↑(List.length l):Int)/\True else List.length l *(16:Nat)<=(140737488355328:Nat)/\List.length (List.mergeSort l fun (x y:Str) ↦decide (x<=y))=List.length (List.mergeSort l fun (x y:Str) ↦decide (x<=y))/\True/\decide ((↑(List.length (Lib.compact (List.mergeSort l fun (x y:Str) ↦decide (x<=y)))):Int)=(↑(List.length l):Int))=fP l/\True:=by
 have hc:=nP l
 unfold dU at hc
 refine ⟨⟨0,⟨Nat.zero_le _,by simp⟩,rfl,rfl,rfl,rfl,trivial⟩,?_⟩
 rintro k ⟨h1,h2⟩
 refine aa (fun h=>?_) (fun h=>?_)
 ·replace h:=Xo h
  have h:k < l.length:=by omega
  simp only [Int.toNat_natCast]
  rw [fG l k (dfl Ty.str) h,List.all_cons] at h2
  refine ⟨⟨by omega,by omega⟩,aa (fun m=>?_) (fun m=>?_)⟩
  ·have m:cQ (l.getD k (dfl Ty.str))=false:=by simpa using m
   rw [m,Bool.false_and] at h2
   refine ⟨trivial,?_,trivial⟩
   unfold fP;rw [h2];rfl
  ·have m:cQ (l.getD k (dfl Ty.str))=true:=by simpa using m
   rw [m,Bool.true_and] at h2
   exact ⟨aN (by omega) (by omega),k+1,⟨h,h2⟩,by omega,by omega,by repeat' (first | exact trivial | rfl | apply And.intro)⟩
 ·replace h:¬(k:Int) < (l.length:Int):=fun q=>h (Xd q)
  have h:k=l.length:=by omega
  subst h
  rw [List.drop_length] at h2
  refine ⟨ho,rfl,trivial,?_,trivial⟩
  unfold fP
  rw [h2,List.all_nil,Bool.true_and,decide_eq_decide,←hc]
  omega
theorem tX (o:Opn) (ho:o.names.length *16<=140737488355328) :
  (if decide (o.kind=(1:Int))=true then true=is8 o.kind/\o=o/\false=false/\false=false/\false=false/\false=false/\o.kind=o.kind/\o=o/\True else if decide (o.kind=(4:Int))=true then true=is8 o.kind/\o=o/\false=false/\false=false/\false=false/\false=false/\o.kind=o.kind/\o=o/\True else if decide (o.kind=(6:Int))=true then true=is8 o.kind/\o=o/\false=false/\false=false/\false=false/\false=false/\o.kind=o.kind/\o=o/\True else if decide (o.kind=(7:Int))=true then true=is8 o.kind/\o=o/\false=false/\false=false/\false=false/\false=false/\o.kind=o.kind/\o=o/\True else if decide (o.kind=(11:Int))=true then true=is8 o.kind/\o=o/\false=false/\false=false/\false=false/\false=false/\o.kind=o.kind/\o=o/\True else if decide (o.kind=(13:Int))=true then true=is8 o.kind/\o=o/\false=false/\false=false/\false=false/\false=false/\o.kind=o.kind/\o=o/\True else if decide (o.kind=(14:Int))=true then true=is8 o.kind/\o=o/\false=false/\false=false/\false=false/\false=false/\o.kind=o.kind/\o=o/\True else decide (o.kind=(15:Int))=is8 o.kind/\o=o/\false=false/\false=false/\false=false/\false=false/\o.kind=o.kind/\o=o/\True)/\if is8 o.kind=true then (if decide (o.kind=(16:Int))=true then (↑(List.length o.names):Int)=toN o/\true=true/\o=o/\false=false/\decide ((0:Int)<=o.n)=decide ((0:Int)<=o.n)/\false=false/\false=false/\o.kind=o.kind/\o=o/\True else (0:Int)=toN o/\true=true/\o=o/\false=false/\decide ((0:Int)<=o.n)=decide ((0:Int)<=o.n)/\false=false/\false=false/\o.kind=o.kind/\o=o/\True)/\if (!decide ((0:Int)<=o.n))=true then if (!decide (o.n=(0:Int)))=true then True/\false=ab o/\True else if decide (o.kind=(3:Int))=true then True/\false=ab o/\True else if decide (o.kind=(5:Int))=true then True/\false=ab o/\True else if (!decide (o.name=[]))=true then True/\false=ab o/\True else if decide ((17:Int)<=o.kind)=true then True/\false=ab o/\True else if decide (o.kind=(9:Int))=true then True/\false=ab o/\True else if decide (o.kind=(10:Int))=true then True/\false=ab o/\True else if decide ((↑(List.length o.names):Int)=(0:Int))=true then if decide ((↑(List.length o.tos):Int)=toN o)=true then True/\decide ((0:Int)<=o.pos)=ab o/\True else True/\false=ab o/\True else True/\false=ab o/\True else if (!decide (o.name=[]))=true then True/\false=ab o/\True else if decide ((17:Int)<=o.kind)=true then True/\false=ab o/\True else if decide (o.kind=(9:Int))=true then True/\false=ab o/\True else if decide (o.kind=(10:Int))=true then True/\false=ab o/\True else if decide ((↑(List.length o.names):Int)=(0:Int))=true then if decide ((↑(List.length o.tos):Int)=toN o)=true then True/\decide ((0:Int)<=o.pos)=ab o/\True else True/\false=ab o/\True else True/\false=ab o/\True else if decide (o.kind=(3:Int))=true then if decide (o.n=(0:Int))=true then (if decide (o.kind=(16:Int))=true then (↑(List.length o.names):Int)=toN o/\false=false/\o=o/\false=false/\true=true/\false=false/\false=false/\o.kind=o.kind/\true=true/\o=o/\True else (0:Int)=toN o/\false=false/\o=o/\false=false/\true=true/\false=false/\false=false/\o.kind=o.kind/\true=true/\o=o/\True)/\if (!decide (o.name=[]))=true then True/\false=ab o/\True else if decide ((17:Int)<=o.kind)=true then True/\false=ab o/\True else if decide (o.kind=(9:Int))=true then True/\false=ab o/\True else if decide (o.kind=(10:Int))=true then True
  /\false=ab o/\True else if decide ((↑(List.length o.names):Int)=(0:Int))=true then if decide ((↑(List.length o.tos):Int)=toN o)=true then True/\decide ((0:Int)<=o.pos)=ab o/\True else True/\false=ab o/\True else True/\false=ab o/\True else (if decide (o.kind=(16:Int))=true then (↑(List.length o.names):Int)=toN o/\false=false/\o=o/\false=false/\decide (o.n=(1:Int))=decide (o.n=(1:Int))/\false=false/\false=false/\o.kind=o.kind/\true=true/\o=o/\True else (0:Int)=toN o/\false=false/\o=o/\false=false/\decide (o.n=(1:Int))=decide (o.n=(1:Int))/\false=false/\false=false/\o.kind=o.kind/\true=true/\o=o/\True)/\if (!decide (o.n=(1:Int)))=true then if (!decide (o.n=(0:Int)))=true then True/\false=ab o/\True else if decide (o.kind=(3:Int))=true then True/\false=ab o/\True else if decide (o.kind=(5:Int))=true then True/\false=ab o/\True else if (!decide (o.name=[]))=true then True/\false=ab o/\True else if decide ((17:Int)<=o.kind)=true then True/\false=ab o/\True else if decide (o.kind=(9:Int))=true then True/\false=ab o/\True else if decide (o.kind=(10:Int))=true then True/\false=ab o/\True else if decide ((↑(List.length o.names):Int)=(0:Int))=true then if decide ((↑(List.length o.tos):Int)=toN o)=true then True/\decide ((0:Int)<=o.pos)=ab o/\True else True/\false=ab o/\True else True/\false=ab o/\True else if (!decide (o.name=[]))=true then True/\false=ab o/\True else if decide ((17:Int)<=o.kind)=true then True/\false=ab o/\True else if decide (o.kind=(9:Int))=true then True/\false=ab o/\True else if decide (o.kind=(10:Int))=true then True/\false=ab o/\True else if decide ((↑(List.length o.names):Int)=(0:Int))=true then if decide ((↑(List.length o.tos):Int)=toN o)=true then True/\decide ((0:Int)<=o.pos)=ab o/\True else True/\false=ab o/\True else True/\false=ab o/\True else if decide (o.kind=(5:Int))=true then (if decide (o.kind=(16:Int))=true then (↑(List.length o.names):Int)=toN o/\false=false/\o=o/\false=false/\decide (o.n=(110:Int))=decide (o.n=(110:Int))/\false=false/\false=false/\o.kind=o.kind/\false=false/\true=true/\o=o/\True else (0:Int)=toN o/\false=false/\o=o/\false=false/\decide (o.n=(110:Int))=decide (o.n=(110:Int))/\false=false/\false=false/\o.kind=o.kind/\false=false/\true=true/\o=o/\True)/\if (!decide (o.n=(110:Int)))=true then if (!decide (o.n=(0:Int)))=true then True/\false=ab o/\True else if decide (o.kind=(3:Int))=true then True/\false=ab o/\True else if decide (o.kind=(5:Int))=true then True/\false=ab o/\True else if (!decide (o.name=[]))=true then True/\false=ab o/\True else if decide ((17:Int)<=o.kind)=true then True/\false=ab o/\True else if decide (o.kind=(9:Int))=true then True/\false=ab o/\True else if decide (o.kind=(10:Int))=true then True/\false=ab o/\True else if decide ((↑(List.length o.names):Int)=(0:Int))=true then if decide ((↑(List.length o.tos):Int)=toN o)=true then True/\decide ((0:Int)<=o.pos)=ab o/\True else True/\false=ab o/\True else True/\false=ab o/\True else if (!decide (o.name=[]))=true then True/\false=ab o/\True else if decide ((17:Int)<=o.kind)=true then True/\false=ab o/\True else if decide (o.kind=(9:Int))=true then True/\false=ab o/\True else if decide (o.kind=(10:Int))=true then True/\false=ab o/\True else if decide ((↑(List.length o.names):Int)=(0:Int))=true
  then if decide ((↑(List.length o.tos):Int)=toN o)=true then True/\decide ((0:Int)<=o.pos)=ab o/\True else True/\false=ab o/\True else True/\false=ab o/\True else if decide (o.kind=(2:Int))=true then (if decide (o.kind=(16:Int))=true then (↑(List.length o.names):Int)=toN o/\false=false/\o=o/\false=false/\false=false/\true=true/\false=false/\o.kind=o.kind/\false=false/\false=false/\true=true/\o=o/\True else (0:Int)=toN o/\false=false/\o=o/\false=false/\false=false/\true=true/\false=false/\o.kind=o.kind/\false=false/\false=false/\true=true/\o=o/\True)/\if (!decide (o.n=(0:Int)))=true then True/\false=ab o/\True else if decide (o.kind=(3:Int))=true then True/\false=ab o/\True else if decide (o.kind=(5:Int))=true then True/\false=ab o/\True else if decide ((↑(List.length o.names):Int)=(0:Int))=true then if decide ((↑(List.length o.tos):Int)=toN o)=true then True/\decide ((0:Int)<=o.pos)=ab o/\True else True/\false=ab o/\True else True/\false=ab o/\True else (if decide (o.kind=(9:Int))=true then true=isB o.kind/\false=false/\o=o/\false=false/\false=false/\false=false/\false=false/\o.kind=o.kind/\false=false/\false=false/\false=false/\o=o/\True else decide (o.kind=(10:Int))=isB o.kind/\false=false/\o=o/\false=false/\false=false/\false=false/\false=false/\o.kind=o.kind/\false=false/\false=false/\false=false/\o=o/\True)/\if isB o.kind=true then (if decide (o.kind=(16:Int))=true then (↑(List.length o.names):Int)=toN o/\true=true/\false=false/\o=o/\false=false/\false=false/\cQ o.name=cQ o.name/\false=false/\o.kind=o.kind/\false=false/\false=false/\false=false/\o=o/\True else (0:Int)=toN o/\true=true/\false=false/\o=o/\false=false/\false=false/\cQ o.name=cQ o.name/\false=false/\o.kind=o.kind/\false=false/\false=false/\false=false/\o=o/\True)/\if (!decide (o.n=(0:Int)))=true then True/\false=ab o/\True else if decide (o.kind=(3:Int))=true then True/\false=ab o/\True else if decide (o.kind=(5:Int))=true then True/\false=ab o/\True else if (!cQ o.name)=true then if (!decide (o.name=[]))=true then True/\false=ab o/\True else if decide ((17:Int)<=o.kind)=true then True/\false=ab o/\True else if decide (o.kind=(9:Int))=true then True/\false=ab o/\True else if decide (o.kind=(10:Int))=true then True/\false=ab o/\True else if decide ((↑(List.length o.names):Int)=(0:Int))=true then if decide ((↑(List.length o.tos):Int)=toN o)=true then True/\decide ((0:Int)<=o.pos)=ab o/\True else True/\false=ab o/\True else True/\false=ab o/\True else if decide ((↑(List.length o.names):Int)=(0:Int))=true then if decide ((↑(List.length o.tos):Int)=toN o)=true then True/\decide ((0:Int)<=o.pos)=ab o/\True else True/\false=ab o/\True else True/\false=ab o/\True else (if decide (o.kind=(17:Int))=true then true=isU o.kind/\false=false/\false=false/\o=o/\false=false/\false=false/\false=false/\false=false/\o.kind=o.kind/\false=false/\false=false/\false=false/\o=o/\True else decide (o.kind=(18:Int))=isU o.kind/\false=false/\false=false/\o=o/\false=false/\false=false/\false=false/\false=false/\o.kind=o.kind/\false=false/\false=false/\false=false/\o=o/\True)/\if isU o.kind=true then (if decide (o.kind=(16:Int))=true then (↑(List.length o.names):Int)=toN o/\true=true/\false=false/\false=false/\o=o/\false=false/\false=false/\gl o.name=gl o.name/\false=false
  /\o.kind=o.kind/\false=false/\false=false/\false=false/\o=o/\True else (0:Int)=toN o/\true=true/\false=false/\false=false/\o=o/\false=false/\false=false/\gl o.name=gl o.name/\false=false/\o.kind=o.kind/\false=false/\false=false/\false=false/\o=o/\True)/\if (!decide (o.n=(0:Int)))=true then True/\false=ab o/\True else if decide (o.kind=(3:Int))=true then True/\false=ab o/\True else if decide (o.kind=(5:Int))=true then True/\false=ab o/\True else if (!gl o.name)=true then if (!decide (o.name=[]))=true then True/\false=ab o/\True else if decide ((17:Int)<=o.kind)=true then True/\false=ab o/\True else if decide (o.kind=(9:Int))=true then True/\false=ab o/\True else if decide (o.kind=(10:Int))=true then True/\false=ab o/\True else if decide ((↑(List.length o.names):Int)=(0:Int))=true then if decide ((↑(List.length o.tos):Int)=toN o)=true then True/\decide ((0:Int)<=o.pos)=ab o/\True else True/\false=ab o/\True else True/\false=ab o/\True else if decide ((↑(List.length o.names):Int)=(0:Int))=true then if decide ((↑(List.length o.tos):Int)=toN o)=true then True/\decide ((0:Int)<=o.pos)=ab o/\True else True/\false=ab o/\True else True/\false=ab o/\True else (if decide (o.kind=(8:Int))=true then true=isR o.kind/\false=false/\false=false/\false=false/\o=o/\false=false/\false=false/\false=false/\false=false/\o.kind=o.kind/\false=false/\false=false/\false=false/\o=o/\True else decide (o.kind=(16:Int))=isR o.kind/\false=false/\false=false/\false=false/\o=o/\false=false/\false=false/\false=false/\false=false/\o.kind=o.kind/\false=false/\false=false/\false=false/\o=o/\True)/\if isR o.kind=true then List.length o.names *(16:Nat)<=(140737488355328:Nat)/\(if decide (o.kind=(16:Int))=true then (↑(List.length o.names):Int)=toN o/\true=true/\false=false/\false=false/\false=false/\o=o/\false=false/\false=false/\false=false/\fP o.names=fP o.names/\o.kind=o.kind/\false=false/\false=false/\false=false/\o=o/\True else (0:Int)=toN o/\true=true/\false=false/\false=false/\false=false/\o=o/\false=false/\false=false/\false=false/\fP o.names=fP o.names/\o.kind=o.kind/\false=false/\false=false/\false=false/\o=o/\True)/\if (!decide (o.n=(0:Int)))=true then True/\false=ab o/\True else if decide (o.kind=(3:Int))=true then True/\false=ab o/\True else if decide (o.kind=(5:Int))=true then True/\false=ab o/\True else if (!decide (o.name=[]))=true then True/\false=ab o/\True else if decide ((17:Int)<=o.kind)=true then True/\false=ab o/\True else if decide (o.kind=(9:Int))=true then True/\false=ab o/\True else if decide (o.kind=(10:Int))=true then True/\false=ab o/\True else if fP o.names=true then if decide ((↑(List.length o.tos):Int)=toN o)=true then True/\decide ((0:Int)<=o.pos)=ab o/\True else True/\false=ab o/\True else if decide ((↑(List.length o.names):Int)=(0:Int))=true then if decide ((↑(List.length o.tos):Int)=toN o)=true then True/\decide ((0:Int)<=o.pos)=ab o/\True else True/\false=ab o/\True else True/\false=ab o/\True else if decide (o.kind=(12:Int))=true then (if decide (o.kind=(16:Int))=true then (↑(List.length o.names):Int)=toN o/\false=false/\false=false/\false=false/\false=false/\o=o/\false=false/\false=false/\false=false/\false=false/\o.kind=o.kind/\false=false/\false=false/\false=false/\true=true/\o=o/\True else (0:Int)=toN o
  /\false=false/\false=false/\false=false/\false=false/\o=o/\false=false/\false=false/\false=false/\false=false/\o.kind=o.kind/\false=false/\false=false/\false=false/\true=true/\o=o/\True)/\if (!decide (o.n=(0:Int)))=true then True/\false=ab o/\True else if decide (o.kind=(3:Int))=true then True/\false=ab o/\True else if decide (o.kind=(5:Int))=true then True/\false=ab o/\True else if (!decide (o.name=[]))=true then True/\false=ab o/\True else if decide ((17:Int)<=o.kind)=true then True/\false=ab o/\True else if decide (o.kind=(9:Int))=true then True/\false=ab o/\True else if decide (o.kind=(10:Int))=true then True/\false=ab o/\True else if decide ((↑(List.length o.names):Int)=(0:Int))=true then if decide ((↑(List.length o.tos):Int)=toN o)=true then True/\decide ((0:Int)<=o.pos)=ab o/\True else True/\false=ab o/\True else True/\false=ab o/\True else True/\false=ab o/\True:=by
 repeat' (first | exact trivial | rfl | refine aa (fun _=>?_) (fun _=>?_) | refine And.intro ?_ ?_)
 all_goals (simp_all [ab,kz,is8,isB,isU,isR,toN] <;> omega)
theorem ym (o:Opn)  :
  (if decide (o.kind=(1:Int))=true then true=is6 o.kind/\o=o/\(0:Int)=(0:Int)/\(0:Int)=(0:Int)/\o.kind=o.kind/\o=o/\True else if decide (o.kind=(2:Int))=true then true=is6 o.kind/\o=o/\(0:Int)=(0:Int)/\(0:Int)=(0:Int)/\o.kind=o.kind/\o=o/\True else if decide (o.kind=(3:Int))=true then true=is6 o.kind/\o=o/\(0:Int)=(0:Int)/\(0:Int)=(0:Int)/\o.kind=o.kind/\o=o/\True else if decide (o.kind=(4:Int))=true then true=is6 o.kind/\o=o/\(0:Int)=(0:Int)/\(0:Int)=(0:Int)/\o.kind=o.kind/\o=o/\True else if decide (o.kind=(6:Int))=true then true=is6 o.kind/\o=o/\(0:Int)=(0:Int)/\(0:Int)=(0:Int)/\o.kind=o.kind/\o=o/\True else decide (o.kind=(5:Int))=is6 o.kind/\o=o/\(0:Int)=(0:Int)/\(0:Int)=(0:Int)/\o.kind=o.kind/\o=o/\True)/\if is6 o.kind=true then True/\(0:Int)=(ag o).1/\(1:Int)=(ag o).2/\True else if decide (o.kind=(7:Int))=true then True/\IntKind.wrap IntKind.i64 (o.n+(1:Int))=(ag o).1/\(1:Int)=(ag o).2/\True else if decide (o.kind=(8:Int))=true then True/\(↑(List.length o.names):Int)=(ag o).1/\(1:Int)=(ag o).2/\True else if decide (o.kind=(11:Int))=true then True/\o.n=(ag o).1/\(1:Int)=(ag o).2/\True else (if decide (o.kind=(9:Int))=true then true=is4 o.kind/\false=false/\o=o/\(0:Int)=(0:Int)/\(0:Int)=(0:Int)/\o.kind=o.kind/\false=false/\false=false/\false=false/\o=o/\True else if decide (o.kind=(10:Int))=true then true=is4 o.kind/\false=false/\o=o/\(0:Int)=(0:Int)/\(0:Int)=(0:Int)/\o.kind=o.kind/\false=false/\false=false/\false=false/\o=o/\True else if decide (o.kind=(17:Int))=true then true=is4 o.kind/\false=false/\o=o/\(0:Int)=(0:Int)/\(0:Int)=(0:Int)/\o.kind=o.kind/\false=false/\false=false/\false=false/\o=o/\True else decide (o.kind=(18:Int))=is4 o.kind/\false=false/\o=o/\(0:Int)=(0:Int)/\(0:Int)=(0:Int)/\o.kind=o.kind/\false=false/\false=false/\false=false/\o=o/\True)/\if is4 o.kind=true then True/\(1:Int)=(ag o).1/\(1:Int)=(ag o).2/\True else if decide (o.kind=(16:Int))=true then if decide ((↑(List.length o.names):Int)=(0:Int))=true then True/\(1:Int)=(ag o).1/\(1:Int)=(ag o).2/\True else True/\(1:Int)=(ag o).1/\(0:Int)=(ag o).2/\True else (if decide (o.kind=(12:Int))=true then true=is2 o.kind/\false=false/\false=false/\o=o/\(0:Int)=(0:Int)/\(0:Int)=(0:Int)/\o.kind=o.kind/\false=false/\false=false/\false=false/\false=false/\o=o/\True else decide (o.kind=(14:Int))=is2 o.kind/\false=false/\false=false/\o=o/\(0:Int)=(0:Int)/\(0:Int)=(0:Int)/\o.kind=o.kind/\false=false/\false=false/\false=false/\false=false/\o=o/\True)/\if is2 o.kind=true then True/\(1:Int)=(ag o).1/\(0:Int)=(ag o).2/\True else True/\(0:Int)=(ag o).1/\(0:Int)=(ag o).2/\True:=by
 repeat' (first | exact trivial | rfl | refine aa (fun _=>?_) (fun _=>?_) | refine And.intro ?_ ?_)
 all_goals simp_all [ag,is6,is4,is2]
theorem yn (l:List Stt) (n:Nat) (tgt:Int) (s:Stt) (ho:0<=tgt/\tgt < n/\n=l.length) :
  ((0:Int)<=tgt/\tgt < (↑n:Int))/\Int.toNat tgt < List.length l/\if decide ((List.getD l (Int.toNat tgt) (dfl (Ty.st SN.stt))).things < (0:Int))=true then ((0:Int)<=tgt/\tgt < (↑n:Int))/\Int.toNat tgt < List.length l/\((0:Int)<=tgt/\tgt < (↑n:Int))/\Int.toNat tgt < List.length (List.set l (Int.toNat tgt) s)/\True/\(decide ((List.getD (List.set l (Int.toNat tgt) s) (Int.toNat tgt) (dfl (Ty.st SN.stt))).things=s.things) && (decide ((List.getD (List.set l (Int.toNat tgt) s) (Int.toNat tgt) (dfl (Ty.st SN.stt))).names=s.names) && true))=cg l tgt s/\n=n/\List.set l (Int.toNat tgt) s=bS l tgt s/\True else ((0:Int)<=tgt/\tgt < (↑n:Int))/\Int.toNat tgt < List.length l/\True/\(decide ((List.getD l (Int.toNat tgt) (dfl (Ty.st SN.stt))).things=s.things) && (decide ((List.getD l (Int.toNat tgt) (dfl (Ty.st SN.stt))).names=s.names) && true))=cg l tgt s/\n=n/\l=bS l tgt s/\True:=by
 obtain ⟨h1,h2,h3⟩:=ho
 have hb:∀x y:Stt,(decide (x.things=y.things) && (decide (x.names=y.names) && true))=eqT x y:=fun x y=>by unfold eqT;simp
 have hd:dfl (Ty.st SN.stt)=(default:Stt):=rfl
 simp only [hb,hd]
 refine ⟨⟨h1,h2⟩,by omega,aa (fun k=>?_) (fun k=>?_)⟩
 ·replace k:=Xo k
  have e:bS l tgt s=l.set tgt.toNat s:=by unfold bS;rw [if_pos k]
  unfold cg
  rw [e]
  exact ⟨⟨h1,h2⟩,by omega,⟨h1,h2⟩,by simp;omega,trivial,rfl,by repeat' (first | exact trivial | rfl | apply And.intro)⟩
 ·replace k:¬(l.getD tgt.toNat default).things < 0:=fun q=>k (Xd q)
  have e:bS l tgt s=l:=by unfold bS;rw [if_neg k]
  unfold cg
  rw [e]
  exact ⟨⟨h1,h2⟩,by omega,trivial,rfl,by repeat' (first | exact trivial | rfl | apply And.intro)⟩
theorem wj (code:List Chnk) (k:Int) (bs:List Stt) (n:Nat) (ho:zl code k bs n) :
  ((0:Int)<=k/\k < (↑(List.length code):Int))/\((0:Int)<=k/\k < (↑n:Int))/\Int.toNat k < List.length bs/\inR IntKind.i64 ((↑(List.length (List.getD code (Int.toNat k) (dfl (Ty.st SN.chunk))).ops):Int)+(1:Int))/\((0:Int)<=(↑(List.length (List.getD code (Int.toNat k) (dfl (Ty.st SN.chunk))).ops):Int)+(1:Int)/\(↑(List.length (List.getD code (Int.toNat k) (dfl (Ty.st SN.chunk))).ops):Int)+(1:Int)<=(↑(List.length (List.getD code (Int.toNat k) (dfl (Ty.st SN.chunk))).ops):Int)+(1:Int)/\((↑(List.length (List.getD code (Int.toNat k) (dfl (Ty.st SN.chunk))).ops):Int)+(1:Int)) *(↑(16:Nat):Int)<=(140737488355328:Int))/\(∃(x:Nat),x<=aA code k+(1:Nat)/\(0:Int)=(↑x:Int)/\k=k/\false=false/\(List.getD code (Int.toNat k) (dfl (Ty.st SN.chunk))).ops=(List.getD code (Int.toNat k) (dfl (Ty.st SN.chunk))).ops/\(↑(Int.toNat ((↑(List.length (List.getD code (Int.toNat k) (dfl (Ty.st SN.chunk))).ops):Int)+(1:Int))):Int)=(↑(Int.toNat ((↑(List.length (List.getD code (Int.toNat k) (dfl (Ty.st SN.chunk))).ops):Int)+(1:Int))):Int)/\List.replicate (Int.toNat ((↑(List.length (List.getD code (Int.toNat k) (dfl (Ty.st SN.chunk))).ops):Int)+(1:Int))) {things:=(0:Int),names:=(0:Int):Stt}=cE (aA code k+(1:Nat)) x/\code=code/\n=n/\bs=bs/\List.getD bs (Int.toNat k) (dfl (Ty.st SN.stt))=List.getD bs (Int.toNat k) (dfl (Ty.st SN.stt))/\Int.toNat ((↑(List.length (List.getD code (Int.toNat k) (dfl (Ty.st SN.chunk))).ops):Int)+(1:Int))=Int.toNat ((↑(List.length (List.getD code (Int.toNat k) (dfl (Ty.st SN.chunk))).ops):Int)+(1:Int))/\True)/\∀(x:Nat),x<=aA code k+(1:Nat)→if decide ((↑x:Int) < (↑(Int.toNat ((↑(List.length (List.getD code (Int.toNat k) (dfl (Ty.st SN.chunk))).ops):Int)+(1:Int))):Int))=true then ((0:Int)<=(↑x:Int)/\(↑x:Int) < (↑(Int.toNat ((↑(List.length (List.getD code (Int.toNat k) (dfl (Ty.st SN.chunk))).ops):Int)+(1:Int))):Int))/\Int.toNat (↑x:Int) < List.length (cE (aA code k+(1:Nat)) x)/\inR IntKind.i64 ((↑x:Int)+(1:Int))/\∃(y:Nat),y<=aA code k+(1:Nat)/\aA code k+(1:Nat) - y < aA code k+(1:Nat) - x/\(↑x:Int)+(1:Int)=(↑y:Int)/\k=k/\false=false/\(List.getD code (Int.toNat k) (dfl (Ty.st SN.chunk))).ops=(List.getD code (Int.toNat k) (dfl (Ty.st SN.chunk))).ops/\(↑(Int.toNat ((↑(List.length (List.getD code (Int.toNat k) (dfl (Ty.st SN.chunk))).ops):Int)+(1:Int))):Int)=(↑(Int.toNat ((↑(List.length (List.getD code (Int.toNat k) (dfl (Ty.st SN.chunk))).ops):Int)+(1:Int))):Int)/\List.set (cE (aA code k+(1:Nat)) x) (Int.toNat (↑x:Int)) {things:=(-1:Int),names:=(List.getD (cE (aA code k+(1:Nat)) x) (Int.toNat (↑x:Int)) (dfl (Ty.st SN.stt))).names:Stt}=cE (aA code k+(1:Nat)) y/\code=code/\n=n/\bs=bs/\List.getD bs (Int.toNat k) (dfl (Ty.st SN.stt))=List.getD bs (Int.toNat k) (dfl (Ty.st SN.stt))/\Int.toNat ((↑(List.length (List.getD code (Int.toNat k) (dfl (Ty.st SN.chunk))).ops):Int)+(1:Int))=Int.toNat ((↑(List.length (List.getD code (Int.toNat k) (dfl (Ty.st SN.chunk))).ops):Int)+(1:Int))/\True else ((0:Int)<=(0:Int)/\(0:Int) < (↑(Int.toNat ((↑(List.length (List.getD code (Int.toNat k) (dfl (Ty.st SN.chunk))).ops):Int)+(1:Int))):Int)/\Int.toNat ((↑(List.length (List.getD code (Int.toNat k) (dfl (Ty.st SN.chunk))).ops):Int)+(1:Int))=List.length (cE (aA code k+(1:Nat)) x))/\if (!cg (cE (aA code k+(1:Nat)) x) (0:Int) (List.getD bs (Int.toNat k) (dfl (Ty.st SN.stt))))=true then True/\false=(aE code k bs).1/\code=code/\n=n/\bs=(aE code k bs).2/\True else (∃(x_1:Nat × List Stt × List Stt),(x_1.1<=aA code k/\List.length x_1.2.1=aA code k+(1:Nat)/\List.length x_1.2.2=List.length code
  /\iy code k (List.getD bs (Int.toNat k) default) (aA code k) (List.drop x_1.1 (aL code k).ops) (↑x_1.1:Int) x_1.2.1 x_1.2.2=aE code k bs)/\(0:Int)=(↑x_1.1:Int)/\(↑x:Int)=(↑x:Int)/\k=k/\(List.getD code (Int.toNat k) (dfl (Ty.st SN.chunk))).ops=(List.getD code (Int.toNat k) (dfl (Ty.st SN.chunk))).ops/\(↑(Int.toNat ((↑(List.length (List.getD code (Int.toNat k) (dfl (Ty.st SN.chunk))).ops):Int)+(1:Int))):Int)=(↑(Int.toNat ((↑(List.length (List.getD code (Int.toNat k) (dfl (Ty.st SN.chunk))).ops):Int)+(1:Int))):Int)/\false=false/\false=false/\(List.getD code (Int.toNat k) (dfl (Ty.st SN.chunk))).ops=(List.getD code (Int.toNat k) (dfl (Ty.st SN.chunk))).ops/\(↑(List.length (List.getD code (Int.toNat k) (dfl (Ty.st SN.chunk))).ops):Int)=(↑(List.length (List.getD code (Int.toNat k) (dfl (Ty.st SN.chunk))).ops):Int)/\bS (cE (aA code k+(1:Nat)) x) (0:Int) (List.getD bs (Int.toNat k) (dfl (Ty.st SN.stt)))=x_1.2.1/\bs=x_1.2.2/\code=code/\n=n/\List.getD bs (Int.toNat k) (dfl (Ty.st SN.stt))=List.getD bs (Int.toNat k) (dfl (Ty.st SN.stt))/\Int.toNat ((↑(List.length (List.getD code (Int.toNat k) (dfl (Ty.st SN.chunk))).ops):Int)+(1:Int))=Int.toNat ((↑(List.length (List.getD code (Int.toNat k) (dfl (Ty.st SN.chunk))).ops):Int)+(1:Int))/\True)/\∀(x_1:Nat × List Stt × List Stt),x_1.1<=aA code k/\List.length x_1.2.1=aA code k+(1:Nat)/\List.length x_1.2.2=List.length code/\iy code k (List.getD bs (Int.toNat k) default) (aA code k) (List.drop x_1.1 (aL code k).ops) (↑x_1.1:Int) x_1.2.1 x_1.2.2=aE code k bs→if decide ((↑x_1.1:Int) < (↑(List.length (List.getD code (Int.toNat k) (dfl (Ty.st SN.chunk))).ops):Int))=true then ((0:Int)<=(↑x_1.1:Int)/\(↑x_1.1:Int) < (↑(List.length (List.getD code (Int.toNat k) (dfl (Ty.st SN.chunk))).ops):Int))/\((0:Int)<=(↑x_1.1:Int)/\(↑x_1.1:Int) < (↑(Int.toNat ((↑(List.length (List.getD code (Int.toNat k) (dfl (Ty.st SN.chunk))).ops):Int)+(1:Int))):Int))/\Int.toNat (↑x_1.1:Int) < List.length x_1.2.1/\if decide ((List.getD x_1.2.1 (Int.toNat (↑x_1.1:Int)) (dfl (Ty.st SN.stt))).things < (0:Int))=true then True/\false=(aE code k bs).1/\code=code/\n=n/\x_1.2.2=(aE code k bs).2/\True else List.length (List.getD (List.getD code (Int.toNat k) (dfl (Ty.st SN.chunk))).ops (Int.toNat (↑x_1.1:Int)) (dfl (Ty.st SN.op))).names *(16:Nat)<=(140737488355328:Nat)/\if (!ab (List.getD (List.getD code (Int.toNat k) (dfl (Ty.st SN.chunk))).ops (Int.toNat (↑x_1.1:Int)) (dfl (Ty.st SN.op))))=true then True/\false=(aE code k bs).1/\code=code/\n=n/\x_1.2.2=(aE code k bs).2/\True else if decide ((List.getD x_1.2.1 (Int.toNat (↑x_1.1:Int)) (dfl (Ty.st SN.stt))).things < (ag (List.getD (List.getD code (Int.toNat k) (dfl (Ty.st SN.chunk))).ops (Int.toNat (↑x_1.1:Int)) (dfl (Ty.st SN.op)))).1)=true then True/\false=(aE code k bs).1/\code=code/\n=n/\x_1.2.2=(aE code k bs).2/\True else (if decide ((List.getD (List.getD code (Int.toNat k) (dfl (Ty.st SN.chunk))).ops (Int.toNat (↑x_1.1:Int)) (dfl (Ty.st SN.op))).kind=(4:Int))=true then decide ((List.getD (List.getD code (Int.toNat k) (dfl (Ty.st SN.chunk))).ops (Int.toNat (↑x_1.1:Int)) (dfl (Ty.st SN.op))).n < (List.getD x_1.2.1 (Int.toNat (↑x_1.1:Int)) (dfl (Ty.st SN.stt))).names)=gF code k (List.getD bs (Int.toNat k) default) (aA code k) (↑x_1.1:Int) (List.getD (aL code k).ops (Int.toNat (↑x_1.1:Int)) default) x_1.2.1 x_1.2.2/\(↑x_1.1:Int)=(↑x_1.1:Int)/\(↑x_1.1:Int)=(↑x_1.1:Int)/\(↑x:Int)=(↑x:Int)/\k=k/\(List.getD code (Int.toNat k) (dfl (Ty.st SN.chunk))).ops=(List.getD code (Int.toNat k) (dfl (Ty.st SN.chunk))).ops
  /\(↑(Int.toNat ((↑(List.length (List.getD code (Int.toNat k) (dfl (Ty.st SN.chunk))).ops):Int)+(1:Int))):Int)=(↑(Int.toNat ((↑(List.length (List.getD code (Int.toNat k) (dfl (Ty.st SN.chunk))).ops):Int)+(1:Int))):Int)/\false=false/\false=false/\(List.getD code (Int.toNat k) (dfl (Ty.st SN.chunk))).ops=(List.getD code (Int.toNat k) (dfl (Ty.st SN.chunk))).ops/\(↑(List.length (List.getD code (Int.toNat k) (dfl (Ty.st SN.chunk))).ops):Int)=(↑(List.length (List.getD code (Int.toNat k) (dfl (Ty.st SN.chunk))).ops):Int)/\true=true/\(ag (List.getD (List.getD code (Int.toNat k) (dfl (Ty.st SN.chunk))).ops (Int.toNat (↑x_1.1:Int)) (dfl (Ty.st SN.op)))).1=(ag (List.getD (List.getD code (Int.toNat k) (dfl (Ty.st SN.chunk))).ops (Int.toNat (↑x_1.1:Int)) (dfl (Ty.st SN.op)))).1/\(ag (List.getD (List.getD code (Int.toNat k) (dfl (Ty.st SN.chunk))).ops (Int.toNat (↑x_1.1:Int)) (dfl (Ty.st SN.op)))).2=(ag (List.getD (List.getD code (Int.toNat k) (dfl (Ty.st SN.chunk))).ops (Int.toNat (↑x_1.1:Int)) (dfl (Ty.st SN.op)))).2/\false=false/\IntKind.wrap IntKind.i64 ((List.getD x_1.2.1 (Int.toNat (↑x_1.1:Int)) (dfl (Ty.st SN.stt))).things+IntKind.wrap IntKind.i64 ((ag (List.getD (List.getD code (Int.toNat k) (dfl (Ty.st SN.chunk))).ops (Int.toNat (↑x_1.1:Int)) (dfl (Ty.st SN.op)))).2 - (ag (List.getD (List.getD code (Int.toNat k) (dfl (Ty.st SN.chunk))).ops (Int.toNat (↑x_1.1:Int)) (dfl (Ty.st SN.op)))).1))=(sF (aA code k) (↑x_1.1:Int) (List.getD (aL code k).ops (Int.toNat (↑x_1.1:Int)) default) x_1.2.1).things/\(List.getD x_1.2.1 (Int.toNat (↑x_1.1:Int)) (dfl (Ty.st SN.stt))).names=(sF (aA code k) (↑x_1.1:Int) (List.getD (aL code k).ops (Int.toNat (↑x_1.1:Int)) default) x_1.2.1).names/\x_1.2.1=lF (aA code k) (↑x_1.1:Int) (List.getD (aL code k).ops (Int.toNat (↑x_1.1:Int)) default) x_1.2.1/\x_1.2.2=bF code k (List.getD bs (Int.toNat k) default) (aA code k) (↑x_1.1:Int) (List.getD (aL code k).ops (Int.toNat (↑x_1.1:Int)) default) x_1.2.1 x_1.2.2/\code=code/\n=n/\List.getD bs (Int.toNat k) (dfl (Ty.st SN.stt))=List.getD bs (Int.toNat k) (dfl (Ty.st SN.stt))/\Int.toNat ((↑(List.length (List.getD code (Int.toNat k) (dfl (Ty.st SN.chunk))).ops):Int)+(1:Int))=Int.toNat ((↑(List.length (List.getD code (Int.toNat k) (dfl (Ty.st SN.chunk))).ops):Int)+(1:Int))/\List.getD (List.getD code (Int.toNat k) (dfl (Ty.st SN.chunk))).ops (Int.toNat (↑x_1.1:Int)) (dfl (Ty.st SN.op))=List.getD (List.getD code (Int.toNat k) (dfl (Ty.st SN.chunk))).ops (Int.toNat (↑x_1.1:Int)) (dfl (Ty.st SN.op))/\True else if decide ((List.getD (List.getD code (Int.toNat k) (dfl (Ty.st SN.chunk))).ops (Int.toNat (↑x_1.1:Int)) (dfl (Ty.st SN.op))).kind=(6:Int))=true then if decide ((List.getD (List.getD code (Int.toNat k) (dfl (Ty.st SN.chunk))).ops (Int.toNat (↑x_1.1:Int)) (dfl (Ty.st SN.op))).n<=k)=true then True/\false=(aE code k bs).1/\code=code/\n=n/\x_1.2.2=(aE code k bs).2/\True else if decide ((↑(List.length code):Int)<=(List.getD (List.getD code (Int.toNat k) (dfl (Ty.st SN.chunk))).ops (Int.toNat (↑x_1.1:Int)) (dfl (Ty.st SN.op))).n)=true then True/\false=(aE code k bs).1/\code=code/\n=n/\x_1.2.2=(aE code k bs).2/\True else ((0:Int)<=(List.getD (List.getD code (Int.toNat k) (dfl (Ty.st SN.chunk))).ops (Int.toNat (↑x_1.1:Int)) (dfl (Ty.st SN.op))).n/\(List.getD (List.getD code (Int.toNat k) (dfl (Ty.st SN.chunk))).ops (Int.toNat (↑x_1.1:Int)) (dfl (Ty.st SN.op))).n < (↑(List.length code):Int))/\((0:Int)<=(List.getD (List.getD code (Int.toNat k) (dfl (Ty.st SN.chunk))).ops (Int.toNat (↑x_1.1:Int)) (dfl (Ty.st SN.op))).n
  /\(List.getD (List.getD code (Int.toNat k) (dfl (Ty.st SN.chunk))).ops (Int.toNat (↑x_1.1:Int)) (dfl (Ty.st SN.op))).n < (↑n:Int))/\Int.toNat (List.getD (List.getD code (Int.toNat k) (dfl (Ty.st SN.chunk))).ops (Int.toNat (↑x_1.1:Int)) (dfl (Ty.st SN.op))).n < List.length x_1.2.2/\if decide ((0:Int)<=(List.getD x_1.2.2 (Int.toNat (List.getD (List.getD code (Int.toNat k) (dfl (Ty.st SN.chunk))).ops (Int.toNat (↑x_1.1:Int)) (dfl (Ty.st SN.op))).n) (dfl (Ty.st SN.stt))).things)=true then ((0:Int)<=(List.getD (List.getD code (Int.toNat k) (dfl (Ty.st SN.chunk))).ops (Int.toNat (↑x_1.1:Int)) (dfl (Ty.st SN.op))).n/\(List.getD (List.getD code (Int.toNat k) (dfl (Ty.st SN.chunk))).ops (Int.toNat (↑x_1.1:Int)) (dfl (Ty.st SN.op))).n < (↑n:Int))/\Int.toNat (List.getD (List.getD code (Int.toNat k) (dfl (Ty.st SN.chunk))).ops (Int.toNat (↑x_1.1:Int)) (dfl (Ty.st SN.op))).n < List.length x_1.2.2/\if (!(decide ((List.getD x_1.2.2 (Int.toNat (List.getD (List.getD code (Int.toNat k) (dfl (Ty.st SN.chunk))).ops (Int.toNat (↑x_1.1:Int)) (dfl (Ty.st SN.op))).n) (dfl (Ty.st SN.stt))).things=(0:Int)) && (decide ((List.getD x_1.2.2 (Int.toNat (List.getD (List.getD code (Int.toNat k) (dfl (Ty.st SN.chunk))).ops (Int.toNat (↑x_1.1:Int)) (dfl (Ty.st SN.op))).n) (dfl (Ty.st SN.stt))).names=IntKind.wrap IntKind.i64 ((List.getD x_1.2.1 (Int.toNat (↑x_1.1:Int)) (dfl (Ty.st SN.stt))).names+(List.getD code (Int.toNat (List.getD (List.getD code (Int.toNat k) (dfl (Ty.st SN.chunk))).ops (Int.toNat (↑x_1.1:Int)) (dfl (Ty.st SN.op))).n) (dfl (Ty.st SN.chunk))).args)) && true)))=true then True/\false=(aE code k bs).1/\code=code/\n=n/\x_1.2.2=(aE code k bs).2/\True else ((0:Int)<=(List.getD (List.getD code (Int.toNat k) (dfl (Ty.st SN.chunk))).ops (Int.toNat (↑x_1.1:Int)) (dfl (Ty.st SN.op))).n/\(List.getD (List.getD code (Int.toNat k) (dfl (Ty.st SN.chunk))).ops (Int.toNat (↑x_1.1:Int)) (dfl (Ty.st SN.op))).n < (↑n:Int))/\Int.toNat (List.getD (List.getD code (Int.toNat k) (dfl (Ty.st SN.chunk))).ops (Int.toNat (↑x_1.1:Int)) (dfl (Ty.st SN.op))).n < List.length x_1.2.2/\true=gF code k (List.getD bs (Int.toNat k) default) (aA code k) (↑x_1.1:Int) (List.getD (aL code k).ops (Int.toNat (↑x_1.1:Int)) default) x_1.2.1 x_1.2.2/\(↑x_1.1:Int)=(↑x_1.1:Int)/\(↑x_1.1:Int)=(↑x_1.1:Int)/\(↑x:Int)=(↑x:Int)/\k=k/\(List.getD code (Int.toNat k) (dfl (Ty.st SN.chunk))).ops=(List.getD code (Int.toNat k) (dfl (Ty.st SN.chunk))).ops/\(↑(Int.toNat ((↑(List.length (List.getD code (Int.toNat k) (dfl (Ty.st SN.chunk))).ops):Int)+(1:Int))):Int)=(↑(Int.toNat ((↑(List.length (List.getD code (Int.toNat k) (dfl (Ty.st SN.chunk))).ops):Int)+(1:Int))):Int)/\false=false/\false=false/\(List.getD code (Int.toNat k) (dfl (Ty.st SN.chunk))).ops=(List.getD code (Int.toNat k) (dfl (Ty.st SN.chunk))).ops/\(↑(List.length (List.getD code (Int.toNat k) (dfl (Ty.st SN.chunk))).ops):Int)=(↑(List.length (List.getD code (Int.toNat k) (dfl (Ty.st SN.chunk))).ops):Int)/\true=true/\(ag (List.getD (List.getD code (Int.toNat k) (dfl (Ty.st SN.chunk))).ops (Int.toNat (↑x_1.1:Int)) (dfl (Ty.st SN.op)))).1=(ag (List.getD (List.getD code (Int.toNat k) (dfl (Ty.st SN.chunk))).ops (Int.toNat (↑x_1.1:Int)) (dfl (Ty.st SN.op)))).1/\(ag (List.getD (List.getD code (Int.toNat k) (dfl (Ty.st SN.chunk))).ops (Int.toNat (↑x_1.1:Int)) (dfl (Ty.st SN.op)))).2=(ag (List.getD (List.getD code (Int.toNat k) (dfl (Ty.st SN.chunk))).ops (Int.toNat (↑x_1.1:Int)) (dfl (Ty.st SN.op)))).2/\false=false
  /\IntKind.wrap IntKind.i64 ((List.getD x_1.2.1 (Int.toNat (↑x_1.1:Int)) (dfl (Ty.st SN.stt))).things+IntKind.wrap IntKind.i64 ((ag (List.getD (List.getD code (Int.toNat k) (dfl (Ty.st SN.chunk))).ops (Int.toNat (↑x_1.1:Int)) (dfl (Ty.st SN.op)))).2 - (ag (List.getD (List.getD code (Int.toNat k) (dfl (Ty.st SN.chunk))).ops (Int.toNat (↑x_1.1:Int)) (dfl (Ty.st SN.op)))).1))=(sF (aA code k) (↑x_1.1:Int) (List.getD (aL code k).ops (Int.toNat (↑x_1.1:Int)) default) x_1.2.1).things/\(List.getD x_1.2.1 (Int.toNat (↑x_1.1:Int)) (dfl (Ty.st SN.stt))).names=(sF (aA code k) (↑x_1.1:Int) (List.getD (aL code k).ops (Int.toNat (↑x_1.1:Int)) default) x_1.2.1).names/\x_1.2.1=lF (aA code k) (↑x_1.1:Int) (List.getD (aL code k).ops (Int.toNat (↑x_1.1:Int)) default) x_1.2.1/\List.set x_1.2.2 (Int.toNat (List.getD (List.getD code (Int.toNat k) (dfl (Ty.st SN.chunk))).ops (Int.toNat (↑x_1.1:Int)) (dfl (Ty.st SN.op))).n) {things:=(0:Int),names:=IntKind.wrap IntKind.i64 ((List.getD x_1.2.1 (Int.toNat (↑x_1.1:Int)) (dfl (Ty.st SN.stt))).names+(List.getD code (Int.toNat (List.getD (List.getD code (Int.toNat k) (dfl (Ty.st SN.chunk))).ops (Int.toNat (↑x_1.1:Int)) (dfl (Ty.st SN.op))).n) (dfl (Ty.st SN.chunk))).args):Stt}=bF code k (List.getD bs (Int.toNat k) default) (aA code k) (↑x_1.1:Int) (List.getD (aL code k).ops (Int.toNat (↑x_1.1:Int)) default) x_1.2.1 x_1.2.2/\code=code/\n=n/\List.getD bs (Int.toNat k) (dfl (Ty.st SN.stt))=List.getD bs (Int.toNat k) (dfl (Ty.st SN.stt))/\Int.toNat ((↑(List.length (List.getD code (Int.toNat k) (dfl (Ty.st SN.chunk))).ops):Int)+(1:Int))=Int.toNat ((↑(List.length (List.getD code (Int.toNat k) (dfl (Ty.st SN.chunk))).ops):Int)+(1:Int))/\List.getD (List.getD code (Int.toNat k) (dfl (Ty.st SN.chunk))).ops (Int.toNat (↑x_1.1:Int)) (dfl (Ty.st SN.op))=List.getD (List.getD code (Int.toNat k) (dfl (Ty.st SN.chunk))).ops (Int.toNat (↑x_1.1:Int)) (dfl (Ty.st SN.op))/\True else ((0:Int)<=(List.getD (List.getD code (Int.toNat k) (dfl (Ty.st SN.chunk))).ops (Int.toNat (↑x_1.1:Int)) (dfl (Ty.st SN.op))).n/\(List.getD (List.getD code (Int.toNat k) (dfl (Ty.st SN.chunk))).ops (Int.toNat (↑x_1.1:Int)) (dfl (Ty.st SN.op))).n < (↑n:Int))/\Int.toNat (List.getD (List.getD code (Int.toNat k) (dfl (Ty.st SN.chunk))).ops (Int.toNat (↑x_1.1:Int)) (dfl (Ty.st SN.op))).n < List.length x_1.2.2/\true=gF code k (List.getD bs (Int.toNat k) default) (aA code k) (↑x_1.1:Int) (List.getD (aL code k).ops (Int.toNat (↑x_1.1:Int)) default) x_1.2.1 x_1.2.2/\(↑x_1.1:Int)=(↑x_1.1:Int)/\(↑x_1.1:Int)=(↑x_1.1:Int)/\(↑x:Int)=(↑x:Int)/\k=k/\(List.getD code (Int.toNat k) (dfl (Ty.st SN.chunk))).ops=(List.getD code (Int.toNat k) (dfl (Ty.st SN.chunk))).ops/\(↑(Int.toNat ((↑(List.length (List.getD code (Int.toNat k) (dfl (Ty.st SN.chunk))).ops):Int)+(1:Int))):Int)=(↑(Int.toNat ((↑(List.length (List.getD code (Int.toNat k) (dfl (Ty.st SN.chunk))).ops):Int)+(1:Int))):Int)/\false=false/\false=false/\(List.getD code (Int.toNat k) (dfl (Ty.st SN.chunk))).ops=(List.getD code (Int.toNat k) (dfl (Ty.st SN.chunk))).ops/\(↑(List.length (List.getD code (Int.toNat k) (dfl (Ty.st SN.chunk))).ops):Int)=(↑(List.length (List.getD code (Int.toNat k) (dfl (Ty.st SN.chunk))).ops):Int)/\true=true/\(ag (List.getD (List.getD code (Int.toNat k) (dfl (Ty.st SN.chunk))).ops (Int.toNat (↑x_1.1:Int)) (dfl (Ty.st SN.op)))).1=(ag (List.getD (List.getD code (Int.toNat k) (dfl (Ty.st SN.chunk))).ops (Int.toNat (↑x_1.1:Int)) (dfl (Ty.st SN.op)))).1
  /\(ag (List.getD (List.getD code (Int.toNat k) (dfl (Ty.st SN.chunk))).ops (Int.toNat (↑x_1.1:Int)) (dfl (Ty.st SN.op)))).2=(ag (List.getD (List.getD code (Int.toNat k) (dfl (Ty.st SN.chunk))).ops (Int.toNat (↑x_1.1:Int)) (dfl (Ty.st SN.op)))).2/\false=false/\IntKind.wrap IntKind.i64 ((List.getD x_1.2.1 (Int.toNat (↑x_1.1:Int)) (dfl (Ty.st SN.stt))).things+IntKind.wrap IntKind.i64 ((ag (List.getD (List.getD code (Int.toNat k) (dfl (Ty.st SN.chunk))).ops (Int.toNat (↑x_1.1:Int)) (dfl (Ty.st SN.op)))).2 - (ag (List.getD (List.getD code (Int.toNat k) (dfl (Ty.st SN.chunk))).ops (Int.toNat (↑x_1.1:Int)) (dfl (Ty.st SN.op)))).1))=(sF (aA code k) (↑x_1.1:Int) (List.getD (aL code k).ops (Int.toNat (↑x_1.1:Int)) default) x_1.2.1).things/\(List.getD x_1.2.1 (Int.toNat (↑x_1.1:Int)) (dfl (Ty.st SN.stt))).names=(sF (aA code k) (↑x_1.1:Int) (List.getD (aL code k).ops (Int.toNat (↑x_1.1:Int)) default) x_1.2.1).names/\x_1.2.1=lF (aA code k) (↑x_1.1:Int) (List.getD (aL code k).ops (Int.toNat (↑x_1.1:Int)) default) x_1.2.1/\List.set x_1.2.2 (Int.toNat (List.getD (List.getD code (Int.toNat k) (dfl (Ty.st SN.chunk))).ops (Int.toNat (↑x_1.1:Int)) (dfl (Ty.st SN.op))).n) {things:=(0:Int),names:=IntKind.wrap IntKind.i64 ((List.getD x_1.2.1 (Int.toNat (↑x_1.1:Int)) (dfl (Ty.st SN.stt))).names+(List.getD code (Int.toNat (List.getD (List.getD code (Int.toNat k) (dfl (Ty.st SN.chunk))).ops (Int.toNat (↑x_1.1:Int)) (dfl (Ty.st SN.op))).n) (dfl (Ty.st SN.chunk))).args):Stt}=bF code k (List.getD bs (Int.toNat k) default) (aA code k) (↑x_1.1:Int) (List.getD (aL code k).ops (Int.toNat (↑x_1.1:Int)) default) x_1.2.1 x_1.2.2/\code=code/\n=n/\List.getD bs (Int.toNat k) (dfl (Ty.st SN.stt))=List.getD bs (Int.toNat k) (dfl (Ty.st SN.stt))/\Int.toNat ((↑(List.length (List.getD code (Int.toNat k) (dfl (Ty.st SN.chunk))).ops):Int)+(1:Int))=Int.toNat ((↑(List.length (List.getD code (Int.toNat k) (dfl (Ty.st SN.chunk))).ops):Int)+(1:Int))/\List.getD (List.getD code (Int.toNat k) (dfl (Ty.st SN.chunk))).ops (Int.toNat (↑x_1.1:Int)) (dfl (Ty.st SN.op))=List.getD (List.getD code (Int.toNat k) (dfl (Ty.st SN.chunk))).ops (Int.toNat (↑x_1.1:Int)) (dfl (Ty.st SN.op))/\True else if decide ((List.getD (List.getD code (Int.toNat k) (dfl (Ty.st SN.chunk))).ops (Int.toNat (↑x_1.1:Int)) (dfl (Ty.st SN.op))).kind=(12:Int))=true then true=gF code k (List.getD bs (Int.toNat k) default) (aA code k) (↑x_1.1:Int) (List.getD (aL code k).ops (Int.toNat (↑x_1.1:Int)) default) x_1.2.1 x_1.2.2/\(↑x_1.1:Int)=(↑x_1.1:Int)/\(↑x_1.1:Int)=(↑x_1.1:Int)/\(↑x:Int)=(↑x:Int)/\k=k/\(List.getD code (Int.toNat k) (dfl (Ty.st SN.chunk))).ops=(List.getD code (Int.toNat k) (dfl (Ty.st SN.chunk))).ops/\(↑(Int.toNat ((↑(List.length (List.getD code (Int.toNat k) (dfl (Ty.st SN.chunk))).ops):Int)+(1:Int))):Int)=(↑(Int.toNat ((↑(List.length (List.getD code (Int.toNat k) (dfl (Ty.st SN.chunk))).ops):Int)+(1:Int))):Int)/\false=false/\false=false/\(List.getD code (Int.toNat k) (dfl (Ty.st SN.chunk))).ops=(List.getD code (Int.toNat k) (dfl (Ty.st SN.chunk))).ops/\(↑(List.length (List.getD code (Int.toNat k) (dfl (Ty.st SN.chunk))).ops):Int)=(↑(List.length (List.getD code (Int.toNat k) (dfl (Ty.st SN.chunk))).ops):Int)/\true=true/\(ag (List.getD (List.getD code (Int.toNat k) (dfl (Ty.st SN.chunk))).ops (Int.toNat (↑x_1.1:Int)) (dfl (Ty.st SN.op)))).1=(ag (List.getD (List.getD code (Int.toNat k) (dfl (Ty.st SN.chunk))).ops (Int.toNat (↑x_1.1:Int)) (dfl (Ty.st SN.op)))).1
  /\(ag (List.getD (List.getD code (Int.toNat k) (dfl (Ty.st SN.chunk))).ops (Int.toNat (↑x_1.1:Int)) (dfl (Ty.st SN.op)))).2=(ag (List.getD (List.getD code (Int.toNat k) (dfl (Ty.st SN.chunk))).ops (Int.toNat (↑x_1.1:Int)) (dfl (Ty.st SN.op)))).2/\false=false/\IntKind.wrap IntKind.i64 ((List.getD x_1.2.1 (Int.toNat (↑x_1.1:Int)) (dfl (Ty.st SN.stt))).things+IntKind.wrap IntKind.i64 ((ag (List.getD (List.getD code (Int.toNat k) (dfl (Ty.st SN.chunk))).ops (Int.toNat (↑x_1.1:Int)) (dfl (Ty.st SN.op)))).2 - (ag (List.getD (List.getD code (Int.toNat k) (dfl (Ty.st SN.chunk))).ops (Int.toNat (↑x_1.1:Int)) (dfl (Ty.st SN.op)))).1))=(sF (aA code k) (↑x_1.1:Int) (List.getD (aL code k).ops (Int.toNat (↑x_1.1:Int)) default) x_1.2.1).things/\IntKind.wrap IntKind.i64 ((List.getD x_1.2.1 (Int.toNat (↑x_1.1:Int)) (dfl (Ty.st SN.stt))).names+(1:Int))=(sF (aA code k) (↑x_1.1:Int) (List.getD (aL code k).ops (Int.toNat (↑x_1.1:Int)) default) x_1.2.1).names/\x_1.2.1=lF (aA code k) (↑x_1.1:Int) (List.getD (aL code k).ops (Int.toNat (↑x_1.1:Int)) default) x_1.2.1/\x_1.2.2=bF code k (List.getD bs (Int.toNat k) default) (aA code k) (↑x_1.1:Int) (List.getD (aL code k).ops (Int.toNat (↑x_1.1:Int)) default) x_1.2.1 x_1.2.2/\code=code/\n=n/\List.getD bs (Int.toNat k) (dfl (Ty.st SN.stt))=List.getD bs (Int.toNat k) (dfl (Ty.st SN.stt))/\Int.toNat ((↑(List.length (List.getD code (Int.toNat k) (dfl (Ty.st SN.chunk))).ops):Int)+(1:Int))=Int.toNat ((↑(List.length (List.getD code (Int.toNat k) (dfl (Ty.st SN.chunk))).ops):Int)+(1:Int))/\List.getD (List.getD code (Int.toNat k) (dfl (Ty.st SN.chunk))).ops (Int.toNat (↑x_1.1:Int)) (dfl (Ty.st SN.op))=List.getD (List.getD code (Int.toNat k) (dfl (Ty.st SN.chunk))).ops (Int.toNat (↑x_1.1:Int)) (dfl (Ty.st SN.op))/\True else if decide ((List.getD (List.getD code (Int.toNat k) (dfl (Ty.st SN.chunk))).ops (Int.toNat (↑x_1.1:Int)) (dfl (Ty.st SN.op))).kind=(13:Int))=true then if decide (IntKind.wrap IntKind.i64 ((List.getD x_1.2.1 (Int.toNat (↑x_1.1:Int)) (dfl (Ty.st SN.stt))).names - (List.getD bs (Int.toNat k) (dfl (Ty.st SN.stt))).names) < (List.getD (List.getD code (Int.toNat k) (dfl (Ty.st SN.chunk))).ops (Int.toNat (↑x_1.1:Int)) (dfl (Ty.st SN.op))).n)=true then True/\false=(aE code k bs).1/\code=code/\n=n/\x_1.2.2=(aE code k bs).2/\True else true=gF code k (List.getD bs (Int.toNat k) default) (aA code k) (↑x_1.1:Int) (List.getD (aL code k).ops (Int.toNat (↑x_1.1:Int)) default) x_1.2.1 x_1.2.2/\(↑x_1.1:Int)=(↑x_1.1:Int)/\(↑x_1.1:Int)=(↑x_1.1:Int)/\(↑x:Int)=(↑x:Int)/\k=k/\(List.getD code (Int.toNat k) (dfl (Ty.st SN.chunk))).ops=(List.getD code (Int.toNat k) (dfl (Ty.st SN.chunk))).ops/\(↑(Int.toNat ((↑(List.length (List.getD code (Int.toNat k) (dfl (Ty.st SN.chunk))).ops):Int)+(1:Int))):Int)=(↑(Int.toNat ((↑(List.length (List.getD code (Int.toNat k) (dfl (Ty.st SN.chunk))).ops):Int)+(1:Int))):Int)/\false=false/\false=false/\(List.getD code (Int.toNat k) (dfl (Ty.st SN.chunk))).ops=(List.getD code (Int.toNat k) (dfl (Ty.st SN.chunk))).ops/\(↑(List.length (List.getD code (Int.toNat k) (dfl (Ty.st SN.chunk))).ops):Int)=(↑(List.length (List.getD code (Int.toNat k) (dfl (Ty.st SN.chunk))).ops):Int)/\true=true/\(ag (List.getD (List.getD code (Int.toNat k) (dfl (Ty.st SN.chunk))).ops (Int.toNat (↑x_1.1:Int)) (dfl (Ty.st SN.op)))).1=(ag (List.getD (List.getD code (Int.toNat k) (dfl (Ty.st SN.chunk))).ops (Int.toNat (↑x_1.1:Int)) (dfl (Ty.st SN.op)))).1
  /\(ag (List.getD (List.getD code (Int.toNat k) (dfl (Ty.st SN.chunk))).ops (Int.toNat (↑x_1.1:Int)) (dfl (Ty.st SN.op)))).2=(ag (List.getD (List.getD code (Int.toNat k) (dfl (Ty.st SN.chunk))).ops (Int.toNat (↑x_1.1:Int)) (dfl (Ty.st SN.op)))).2/\false=false/\IntKind.wrap IntKind.i64 ((List.getD x_1.2.1 (Int.toNat (↑x_1.1:Int)) (dfl (Ty.st SN.stt))).things+IntKind.wrap IntKind.i64 ((ag (List.getD (List.getD code (Int.toNat k) (dfl (Ty.st SN.chunk))).ops (Int.toNat (↑x_1.1:Int)) (dfl (Ty.st SN.op)))).2 - (ag (List.getD (List.getD code (Int.toNat k) (dfl (Ty.st SN.chunk))).ops (Int.toNat (↑x_1.1:Int)) (dfl (Ty.st SN.op)))).1))=(sF (aA code k) (↑x_1.1:Int) (List.getD (aL code k).ops (Int.toNat (↑x_1.1:Int)) default) x_1.2.1).things/\IntKind.wrap IntKind.i64 ((List.getD x_1.2.1 (Int.toNat (↑x_1.1:Int)) (dfl (Ty.st SN.stt))).names - (List.getD (List.getD code (Int.toNat k) (dfl (Ty.st SN.chunk))).ops (Int.toNat (↑x_1.1:Int)) (dfl (Ty.st SN.op))).n)=(sF (aA code k) (↑x_1.1:Int) (List.getD (aL code k).ops (Int.toNat (↑x_1.1:Int)) default) x_1.2.1).names/\x_1.2.1=lF (aA code k) (↑x_1.1:Int) (List.getD (aL code k).ops (Int.toNat (↑x_1.1:Int)) default) x_1.2.1/\x_1.2.2=bF code k (List.getD bs (Int.toNat k) default) (aA code k) (↑x_1.1:Int) (List.getD (aL code k).ops (Int.toNat (↑x_1.1:Int)) default) x_1.2.1 x_1.2.2/\code=code/\n=n/\List.getD bs (Int.toNat k) (dfl (Ty.st SN.stt))=List.getD bs (Int.toNat k) (dfl (Ty.st SN.stt))/\Int.toNat ((↑(List.length (List.getD code (Int.toNat k) (dfl (Ty.st SN.chunk))).ops):Int)+(1:Int))=Int.toNat ((↑(List.length (List.getD code (Int.toNat k) (dfl (Ty.st SN.chunk))).ops):Int)+(1:Int))/\List.getD (List.getD code (Int.toNat k) (dfl (Ty.st SN.chunk))).ops (Int.toNat (↑x_1.1:Int)) (dfl (Ty.st SN.op))=List.getD (List.getD code (Int.toNat k) (dfl (Ty.st SN.chunk))).ops (Int.toNat (↑x_1.1:Int)) (dfl (Ty.st SN.op))/\True else if decide ((List.getD (List.getD code (Int.toNat k) (dfl (Ty.st SN.chunk))).ops (Int.toNat (↑x_1.1:Int)) (dfl (Ty.st SN.op))).kind=(15:Int))=true then if decide ((List.getD (List.getD code (Int.toNat k) (dfl (Ty.st SN.chunk))).ops (Int.toNat (↑x_1.1:Int)) (dfl (Ty.st SN.op))).n<=(↑x_1.1:Int))=true then True/\false=(aE code k bs).1/\code=code/\n=n/\x_1.2.2=(aE code k bs).2/\True else if decide ((↑(List.length (List.getD code (Int.toNat k) (dfl (Ty.st SN.chunk))).ops):Int) < (List.getD (List.getD code (Int.toNat k) (dfl (Ty.st SN.chunk))).ops (Int.toNat (↑x_1.1:Int)) (dfl (Ty.st SN.op))).n)=true then True/\false=(aE code k bs).1/\code=code/\n=n/\x_1.2.2=(aE code k bs).2/\True else ((0:Int)<=(List.getD (List.getD code (Int.toNat k) (dfl (Ty.st SN.chunk))).ops (Int.toNat (↑x_1.1:Int)) (dfl (Ty.st SN.op))).n/\(List.getD (List.getD code (Int.toNat k) (dfl (Ty.st SN.chunk))).ops (Int.toNat (↑x_1.1:Int)) (dfl (Ty.st SN.op))).n < (↑(Int.toNat ((↑(List.length (List.getD code (Int.toNat k) (dfl (Ty.st SN.chunk))).ops):Int)+(1:Int))):Int)/\Int.toNat ((↑(List.length (List.getD code (Int.toNat k) (dfl (Ty.st SN.chunk))).ops):Int)+(1:Int))=List.length x_1.2.1)
  /\if (!cg x_1.2.1 (List.getD (List.getD code (Int.toNat k) (dfl (Ty.st SN.chunk))).ops (Int.toNat (↑x_1.1:Int)) (dfl (Ty.st SN.op))).n {things:=IntKind.wrap IntKind.i64 ((List.getD x_1.2.1 (Int.toNat (↑x_1.1:Int)) (dfl (Ty.st SN.stt))).things+IntKind.wrap IntKind.i64 ((ag (List.getD (List.getD code (Int.toNat k) (dfl (Ty.st SN.chunk))).ops (Int.toNat (↑x_1.1:Int)) (dfl (Ty.st SN.op)))).2 - (ag (List.getD (List.getD code (Int.toNat k) (dfl (Ty.st SN.chunk))).ops (Int.toNat (↑x_1.1:Int)) (dfl (Ty.st SN.op)))).1)),names:=(List.getD x_1.2.1 (Int.toNat (↑x_1.1:Int)) (dfl (Ty.st SN.stt))).names:Stt})=true then True/\false=(aE code k bs).1/\code=code/\n=n/\x_1.2.2=(aE code k bs).2/\True else inR IntKind.i64 ((↑x_1.1:Int)+(1:Int))/\∃(y:Nat × List Stt × List Stt),(y.1<=aA code k/\List.length y.2.1=aA code k+(1:Nat)/\List.length y.2.2=List.length code/\iy code k (List.getD bs (Int.toNat k) default) (aA code k) (List.drop y.1 (aL code k).ops) (↑y.1:Int) y.2.1 y.2.2=aE code k bs)/\aA code k - y.1 < aA code k - x_1.1/\(↑x_1.1:Int)+(1:Int)=(↑y.1:Int)/\(↑x:Int)=(↑x:Int)/\k=k/\(List.getD code (Int.toNat k) (dfl (Ty.st SN.chunk))).ops=(List.getD code (Int.toNat k) (dfl (Ty.st SN.chunk))).ops/\(↑(Int.toNat ((↑(List.length (List.getD code (Int.toNat k) (dfl (Ty.st SN.chunk))).ops):Int)+(1:Int))):Int)=(↑(Int.toNat ((↑(List.length (List.getD code (Int.toNat k) (dfl (Ty.st SN.chunk))).ops):Int)+(1:Int))):Int)/\false=false/\false=false/\(List.getD code (Int.toNat k) (dfl (Ty.st SN.chunk))).ops=(List.getD code (Int.toNat k) (dfl (Ty.st SN.chunk))).ops/\(↑(List.length (List.getD code (Int.toNat k) (dfl (Ty.st SN.chunk))).ops):Int)=(↑(List.length (List.getD code (Int.toNat k) (dfl (Ty.st SN.chunk))).ops):Int)/\bS x_1.2.1 (List.getD (List.getD code (Int.toNat k) (dfl (Ty.st SN.chunk))).ops (Int.toNat (↑x_1.1:Int)) (dfl (Ty.st SN.op))).n {things:=IntKind.wrap IntKind.i64 ((List.getD x_1.2.1 (Int.toNat (↑x_1.1:Int)) (dfl (Ty.st SN.stt))).things+IntKind.wrap IntKind.i64 ((ag (List.getD (List.getD code (Int.toNat k) (dfl (Ty.st SN.chunk))).ops (Int.toNat (↑x_1.1:Int)) (dfl (Ty.st SN.op)))).2 - (ag (List.getD (List.getD code (Int.toNat k) (dfl (Ty.st SN.chunk))).ops (Int.toNat (↑x_1.1:Int)) (dfl (Ty.st SN.op)))).1)),names:=(List.getD x_1.2.1 (Int.toNat (↑x_1.1:Int)) (dfl (Ty.st SN.stt))).names:Stt}=y.2.1/\x_1.2.2=y.2.2/\code=code/\n=n/\List.getD bs (Int.toNat k) (dfl (Ty.st SN.stt))=List.getD bs (Int.toNat k) (dfl (Ty.st SN.stt))/\Int.toNat ((↑(List.length (List.getD code (Int.toNat k) (dfl (Ty.st SN.chunk))).ops):Int)+(1:Int))=Int.toNat ((↑(List.length (List.getD code (Int.toNat k) (dfl (Ty.st SN.chunk))).ops):Int)+(1:Int))/\True else if decide ((List.getD (List.getD code (Int.toNat k) (dfl (Ty.st SN.chunk))).ops (Int.toNat (↑x_1.1:Int)) (dfl (Ty.st SN.op))).kind=(14:Int))=true then if decide ((↑x_1.1:Int) < (List.getD (List.getD code (Int.toNat k) (dfl (Ty.st SN.chunk))).ops (Int.toNat (↑x_1.1:Int)) (dfl (Ty.st SN.op))).n)=true then if decide ((List.getD (List.getD code (Int.toNat k) (dfl (Ty.st SN.chunk))).ops (Int.toNat (↑x_1.1:Int)) (dfl (Ty.st SN.op))).n<=(↑(List.length (List.getD code (Int.toNat k) (dfl (Ty.st SN.chunk))).ops):Int))=true then ((0:Int)<=(List.getD (List.getD code (Int.toNat k) (dfl (Ty.st SN.chunk))).ops (Int.toNat (↑x_1.1:Int)) (dfl (Ty.st SN.op))).n/\(List.getD (List.getD code (Int.toNat k) (dfl (Ty.st SN.chunk))).ops (Int.toNat (↑x_1.1:Int)) (dfl (Ty.st SN.op))).n < (↑(Int.toNat ((↑(List.length (List.getD code (Int.toNat k) (dfl (Ty.st SN.chunk))).ops):Int)+(1:Int))):Int)
  /\Int.toNat ((↑(List.length (List.getD code (Int.toNat k) (dfl (Ty.st SN.chunk))).ops):Int)+(1:Int))=List.length x_1.2.1)/\cg x_1.2.1 (List.getD (List.getD code (Int.toNat k) (dfl (Ty.st SN.chunk))).ops (Int.toNat (↑x_1.1:Int)) (dfl (Ty.st SN.op))).n {things:=IntKind.wrap IntKind.i64 ((List.getD x_1.2.1 (Int.toNat (↑x_1.1:Int)) (dfl (Ty.st SN.stt))).things+IntKind.wrap IntKind.i64 ((ag (List.getD (List.getD code (Int.toNat k) (dfl (Ty.st SN.chunk))).ops (Int.toNat (↑x_1.1:Int)) (dfl (Ty.st SN.op)))).2 - (ag (List.getD (List.getD code (Int.toNat k) (dfl (Ty.st SN.chunk))).ops (Int.toNat (↑x_1.1:Int)) (dfl (Ty.st SN.op)))).1)),names:=(List.getD x_1.2.1 (Int.toNat (↑x_1.1:Int)) (dfl (Ty.st SN.stt))).names:Stt}=gF code k (List.getD bs (Int.toNat k) default) (aA code k) (↑x_1.1:Int) (List.getD (aL code k).ops (Int.toNat (↑x_1.1:Int)) default) x_1.2.1 x_1.2.2/\(↑x_1.1:Int)=(↑x_1.1:Int)/\(↑x_1.1:Int)=(↑x_1.1:Int)/\(↑x:Int)=(↑x:Int)/\k=k/\(List.getD code (Int.toNat k) (dfl (Ty.st SN.chunk))).ops=(List.getD code (Int.toNat k) (dfl (Ty.st SN.chunk))).ops/\(↑(Int.toNat ((↑(List.length (List.getD code (Int.toNat k) (dfl (Ty.st SN.chunk))).ops):Int)+(1:Int))):Int)=(↑(Int.toNat ((↑(List.length (List.getD code (Int.toNat k) (dfl (Ty.st SN.chunk))).ops):Int)+(1:Int))):Int)/\false=false/\false=false/\(List.getD code (Int.toNat k) (dfl (Ty.st SN.chunk))).ops=(List.getD code (Int.toNat k) (dfl (Ty.st SN.chunk))).ops/\(↑(List.length (List.getD code (Int.toNat k) (dfl (Ty.st SN.chunk))).ops):Int)=(↑(List.length (List.getD code (Int.toNat k) (dfl (Ty.st SN.chunk))).ops):Int)/\true=true/\(ag (List.getD (List.getD code (Int.toNat k) (dfl (Ty.st SN.chunk))).ops (Int.toNat (↑x_1.1:Int)) (dfl (Ty.st SN.op)))).1=(ag (List.getD (List.getD code (Int.toNat k) (dfl (Ty.st SN.chunk))).ops (Int.toNat (↑x_1.1:Int)) (dfl (Ty.st SN.op)))).1/\(ag (List.getD (List.getD code (Int.toNat k) (dfl (Ty.st SN.chunk))).ops (Int.toNat (↑x_1.1:Int)) (dfl (Ty.st SN.op)))).2=(ag (List.getD (List.getD code (Int.toNat k) (dfl (Ty.st SN.chunk))).ops (Int.toNat (↑x_1.1:Int)) (dfl (Ty.st SN.op)))).2/\false=false/\IntKind.wrap IntKind.i64 ((List.getD x_1.2.1 (Int.toNat (↑x_1.1:Int)) (dfl (Ty.st SN.stt))).things+IntKind.wrap IntKind.i64 ((ag (List.getD (List.getD code (Int.toNat k) (dfl (Ty.st SN.chunk))).ops (Int.toNat (↑x_1.1:Int)) (dfl (Ty.st SN.op)))).2 - (ag (List.getD (List.getD code (Int.toNat k) (dfl (Ty.st SN.chunk))).ops (Int.toNat (↑x_1.1:Int)) (dfl (Ty.st SN.op)))).1))=(sF (aA code k) (↑x_1.1:Int) (List.getD (aL code k).ops (Int.toNat (↑x_1.1:Int)) default) x_1.2.1).things/\(List.getD x_1.2.1 (Int.toNat (↑x_1.1:Int)) (dfl (Ty.st SN.stt))).names=(sF (aA code k) (↑x_1.1:Int) (List.getD (aL code k).ops (Int.toNat (↑x_1.1:Int)) default) x_1.2.1).names/\bS x_1.2.1 (List.getD (List.getD code (Int.toNat k) (dfl (Ty.st SN.chunk))).ops (Int.toNat (↑x_1.1:Int)) (dfl (Ty.st SN.op))).n {things:=IntKind.wrap IntKind.i64 ((List.getD x_1.2.1 (Int.toNat (↑x_1.1:Int)) (dfl (Ty.st SN.stt))).things+IntKind.wrap IntKind.i64 ((ag (List.getD (List.getD code (Int.toNat k) (dfl (Ty.st SN.chunk))).ops (Int.toNat (↑x_1.1:Int)) (dfl (Ty.st SN.op)))).2 - (ag (List.getD (List.getD code (Int.toNat k) (dfl (Ty.st SN.chunk))).ops (Int.toNat (↑x_1.1:Int)) (dfl (Ty.st SN.op)))).1)),names:=(List.getD x_1.2.1 (Int.toNat (↑x_1.1:Int)) (dfl (Ty.st SN.stt))).names:Stt}=lF (aA code k) (↑x_1.1:Int) (List.getD (aL code k).ops (Int.toNat (↑x_1.1:Int)) default) x_1.2.1/\x_1.2.2=bF code k (List.getD bs (Int.toNat k) default) (aA code k) (↑x_1.1:Int) (List.getD (aL code k).ops (Int.toNat (↑x_1.1:Int)) default) x_1.2.1 x_1.2.2
  /\code=code/\n=n/\List.getD bs (Int.toNat k) (dfl (Ty.st SN.stt))=List.getD bs (Int.toNat k) (dfl (Ty.st SN.stt))/\Int.toNat ((↑(List.length (List.getD code (Int.toNat k) (dfl (Ty.st SN.chunk))).ops):Int)+(1:Int))=Int.toNat ((↑(List.length (List.getD code (Int.toNat k) (dfl (Ty.st SN.chunk))).ops):Int)+(1:Int))/\List.getD (List.getD code (Int.toNat k) (dfl (Ty.st SN.chunk))).ops (Int.toNat (↑x_1.1:Int)) (dfl (Ty.st SN.op))=List.getD (List.getD code (Int.toNat k) (dfl (Ty.st SN.chunk))).ops (Int.toNat (↑x_1.1:Int)) (dfl (Ty.st SN.op))/\True else false=gF code k (List.getD bs (Int.toNat k) default) (aA code k) (↑x_1.1:Int) (List.getD (aL code k).ops (Int.toNat (↑x_1.1:Int)) default) x_1.2.1 x_1.2.2/\(↑x_1.1:Int)=(↑x_1.1:Int)/\(↑x_1.1:Int)=(↑x_1.1:Int)/\(↑x:Int)=(↑x:Int)/\k=k/\(List.getD code (Int.toNat k) (dfl (Ty.st SN.chunk))).ops=(List.getD code (Int.toNat k) (dfl (Ty.st SN.chunk))).ops/\(↑(Int.toNat ((↑(List.length (List.getD code (Int.toNat k) (dfl (Ty.st SN.chunk))).ops):Int)+(1:Int))):Int)=(↑(Int.toNat ((↑(List.length (List.getD code (Int.toNat k) (dfl (Ty.st SN.chunk))).ops):Int)+(1:Int))):Int)/\false=false/\false=false/\(List.getD code (Int.toNat k) (dfl (Ty.st SN.chunk))).ops=(List.getD code (Int.toNat k) (dfl (Ty.st SN.chunk))).ops/\(↑(List.length (List.getD code (Int.toNat k) (dfl (Ty.st SN.chunk))).ops):Int)=(↑(List.length (List.getD code (Int.toNat k) (dfl (Ty.st SN.chunk))).ops):Int)/\true=true/\(ag (List.getD (List.getD code (Int.toNat k) (dfl (Ty.st SN.chunk))).ops (Int.toNat (↑x_1.1:Int)) (dfl (Ty.st SN.op)))).1=(ag (List.getD (List.getD code (Int.toNat k) (dfl (Ty.st SN.chunk))).ops (Int.toNat (↑x_1.1:Int)) (dfl (Ty.st SN.op)))).1/\(ag (List.getD (List.getD code (Int.toNat k) (dfl (Ty.st SN.chunk))).ops (Int.toNat (↑x_1.1:Int)) (dfl (Ty.st SN.op)))).2=(ag (List.getD (List.getD code (Int.toNat k) (dfl (Ty.st SN.chunk))).ops (Int.toNat (↑x_1.1:Int)) (dfl (Ty.st SN.op)))).2/\false=false/\IntKind.wrap IntKind.i64 ((List.getD x_1.2.1 (Int.toNat (↑x_1.1:Int)) (dfl (Ty.st SN.stt))).things+IntKind.wrap IntKind.i64 ((ag (List.getD (List.getD code (Int.toNat k) (dfl (Ty.st SN.chunk))).ops (Int.toNat (↑x_1.1:Int)) (dfl (Ty.st SN.op)))).2 - (ag (List.getD (List.getD code (Int.toNat k) (dfl (Ty.st SN.chunk))).ops (Int.toNat (↑x_1.1:Int)) (dfl (Ty.st SN.op)))).1))=(sF (aA code k) (↑x_1.1:Int) (List.getD (aL code k).ops (Int.toNat (↑x_1.1:Int)) default) x_1.2.1).things/\(List.getD x_1.2.1 (Int.toNat (↑x_1.1:Int)) (dfl (Ty.st SN.stt))).names=(sF (aA code k) (↑x_1.1:Int) (List.getD (aL code k).ops (Int.toNat (↑x_1.1:Int)) default) x_1.2.1).names/\x_1.2.1=lF (aA code k) (↑x_1.1:Int) (List.getD (aL code k).ops (Int.toNat (↑x_1.1:Int)) default) x_1.2.1/\x_1.2.2=bF code k (List.getD bs (Int.toNat k) default) (aA code k) (↑x_1.1:Int) (List.getD (aL code k).ops (Int.toNat (↑x_1.1:Int)) default) x_1.2.1 x_1.2.2/\code=code/\n=n/\List.getD bs (Int.toNat k) (dfl (Ty.st SN.stt))=List.getD bs (Int.toNat k) (dfl (Ty.st SN.stt))/\Int.toNat ((↑(List.length (List.getD code (Int.toNat k) (dfl (Ty.st SN.chunk))).ops):Int)+(1:Int))=Int.toNat ((↑(List.length (List.getD code (Int.toNat k) (dfl (Ty.st SN.chunk))).ops):Int)+(1:Int))/\List.getD (List.getD code (Int.toNat k) (dfl (Ty.st SN.chunk))).ops (Int.toNat (↑x_1.1:Int)) (dfl (Ty.st SN.op))=List.getD (List.getD code (Int.toNat k) (dfl (Ty.st SN.chunk))).ops (Int.toNat (↑x_1.1:Int)) (dfl (Ty.st SN.op))/\True else false=gF code k (List.getD bs (Int.toNat k) default) (aA code k) (↑x_1.1:Int) (List.getD (aL code k).ops (Int.toNat (↑x_1.1:Int)) default) x_1.2.1 x_1.2.2/\(↑x_1.1:Int)=(↑x_1.1:Int)/\(↑x_1.1:Int)=(↑x_1.1:Int)
  /\(↑x:Int)=(↑x:Int)/\k=k/\(List.getD code (Int.toNat k) (dfl (Ty.st SN.chunk))).ops=(List.getD code (Int.toNat k) (dfl (Ty.st SN.chunk))).ops/\(↑(Int.toNat ((↑(List.length (List.getD code (Int.toNat k) (dfl (Ty.st SN.chunk))).ops):Int)+(1:Int))):Int)=(↑(Int.toNat ((↑(List.length (List.getD code (Int.toNat k) (dfl (Ty.st SN.chunk))).ops):Int)+(1:Int))):Int)/\false=false/\false=false/\(List.getD code (Int.toNat k) (dfl (Ty.st SN.chunk))).ops=(List.getD code (Int.toNat k) (dfl (Ty.st SN.chunk))).ops/\(↑(List.length (List.getD code (Int.toNat k) (dfl (Ty.st SN.chunk))).ops):Int)=(↑(List.length (List.getD code (Int.toNat k) (dfl (Ty.st SN.chunk))).ops):Int)/\true=true/\(ag (List.getD (List.getD code (Int.toNat k) (dfl (Ty.st SN.chunk))).ops (Int.toNat (↑x_1.1:Int)) (dfl (Ty.st SN.op)))).1=(ag (List.getD (List.getD code (Int.toNat k) (dfl (Ty.st SN.chunk))).ops (Int.toNat (↑x_1.1:Int)) (dfl (Ty.st SN.op)))).1/\(ag (List.getD (List.getD code (Int.toNat k) (dfl (Ty.st SN.chunk))).ops (Int.toNat (↑x_1.1:Int)) (dfl (Ty.st SN.op)))).2=(ag (List.getD (List.getD code (Int.toNat k) (dfl (Ty.st SN.chunk))).ops (Int.toNat (↑x_1.1:Int)) (dfl (Ty.st SN.op)))).2/\false=false/\IntKind.wrap IntKind.i64 ((List.getD x_1.2.1 (Int.toNat (↑x_1.1:Int)) (dfl (Ty.st SN.stt))).things+IntKind.wrap IntKind.i64 ((ag (List.getD (List.getD code (Int.toNat k) (dfl (Ty.st SN.chunk))).ops (Int.toNat (↑x_1.1:Int)) (dfl (Ty.st SN.op)))).2 - (ag (List.getD (List.getD code (Int.toNat k) (dfl (Ty.st SN.chunk))).ops (Int.toNat (↑x_1.1:Int)) (dfl (Ty.st SN.op)))).1))=(sF (aA code k) (↑x_1.1:Int) (List.getD (aL code k).ops (Int.toNat (↑x_1.1:Int)) default) x_1.2.1).things/\(List.getD x_1.2.1 (Int.toNat (↑x_1.1:Int)) (dfl (Ty.st SN.stt))).names=(sF (aA code k) (↑x_1.1:Int) (List.getD (aL code k).ops (Int.toNat (↑x_1.1:Int)) default) x_1.2.1).names/\x_1.2.1=lF (aA code k) (↑x_1.1:Int) (List.getD (aL code k).ops (Int.toNat (↑x_1.1:Int)) default) x_1.2.1/\x_1.2.2=bF code k (List.getD bs (Int.toNat k) default) (aA code k) (↑x_1.1:Int) (List.getD (aL code k).ops (Int.toNat (↑x_1.1:Int)) default) x_1.2.1 x_1.2.2/\code=code/\n=n/\List.getD bs (Int.toNat k) (dfl (Ty.st SN.stt))=List.getD bs (Int.toNat k) (dfl (Ty.st SN.stt))/\Int.toNat ((↑(List.length (List.getD code (Int.toNat k) (dfl (Ty.st SN.chunk))).ops):Int)+(1:Int))=Int.toNat ((↑(List.length (List.getD code (Int.toNat k) (dfl (Ty.st SN.chunk))).ops):Int)+(1:Int))/\List.getD (List.getD code (Int.toNat k) (dfl (Ty.st SN.chunk))).ops (Int.toNat (↑x_1.1:Int)) (dfl (Ty.st SN.op))=List.getD (List.getD code (Int.toNat k) (dfl (Ty.st SN.chunk))).ops (Int.toNat (↑x_1.1:Int)) (dfl (Ty.st SN.op))/\True else if decide ((List.getD (List.getD code (Int.toNat k) (dfl (Ty.st SN.chunk))).ops (Int.toNat (↑x_1.1:Int)) (dfl (Ty.st SN.op))).kind=(16:Int))=true then if decide ((↑(List.length (List.getD (List.getD code (Int.toNat k) (dfl (Ty.st SN.chunk))).ops (Int.toNat (↑x_1.1:Int)) (dfl (Ty.st SN.op))).tos):Int)=(0:Int))=true then true=gF code k (List.getD bs (Int.toNat k) default) (aA code k) (↑x_1.1:Int) (List.getD (aL code k).ops (Int.toNat (↑x_1.1:Int)) default) x_1.2.1 x_1.2.2/\(↑x_1.1:Int)=(↑x_1.1:Int)/\(↑x_1.1:Int)=(↑x_1.1:Int)/\(↑x:Int)=(↑x:Int)/\k=k/\(List.getD code (Int.toNat k) (dfl (Ty.st SN.chunk))).ops=(List.getD code (Int.toNat k) (dfl (Ty.st SN.chunk))).ops/\(↑(Int.toNat ((↑(List.length (List.getD code (Int.toNat k) (dfl (Ty.st SN.chunk))).ops):Int)+(1:Int))):Int)=(↑(Int.toNat ((↑(List.length (List.getD code (Int.toNat k) (dfl (Ty.st SN.chunk))).ops):Int)+(1:Int))):Int)/\false=false/\false=false
  /\(List.getD code (Int.toNat k) (dfl (Ty.st SN.chunk))).ops=(List.getD code (Int.toNat k) (dfl (Ty.st SN.chunk))).ops/\(↑(List.length (List.getD code (Int.toNat k) (dfl (Ty.st SN.chunk))).ops):Int)=(↑(List.length (List.getD code (Int.toNat k) (dfl (Ty.st SN.chunk))).ops):Int)/\true=true/\(ag (List.getD (List.getD code (Int.toNat k) (dfl (Ty.st SN.chunk))).ops (Int.toNat (↑x_1.1:Int)) (dfl (Ty.st SN.op)))).1=(ag (List.getD (List.getD code (Int.toNat k) (dfl (Ty.st SN.chunk))).ops (Int.toNat (↑x_1.1:Int)) (dfl (Ty.st SN.op)))).1/\(ag (List.getD (List.getD code (Int.toNat k) (dfl (Ty.st SN.chunk))).ops (Int.toNat (↑x_1.1:Int)) (dfl (Ty.st SN.op)))).2=(ag (List.getD (List.getD code (Int.toNat k) (dfl (Ty.st SN.chunk))).ops (Int.toNat (↑x_1.1:Int)) (dfl (Ty.st SN.op)))).2/\false=false/\IntKind.wrap IntKind.i64 ((List.getD x_1.2.1 (Int.toNat (↑x_1.1:Int)) (dfl (Ty.st SN.stt))).things+IntKind.wrap IntKind.i64 ((ag (List.getD (List.getD code (Int.toNat k) (dfl (Ty.st SN.chunk))).ops (Int.toNat (↑x_1.1:Int)) (dfl (Ty.st SN.op)))).2 - (ag (List.getD (List.getD code (Int.toNat k) (dfl (Ty.st SN.chunk))).ops (Int.toNat (↑x_1.1:Int)) (dfl (Ty.st SN.op)))).1))=(sF (aA code k) (↑x_1.1:Int) (List.getD (aL code k).ops (Int.toNat (↑x_1.1:Int)) default) x_1.2.1).things/\(List.getD x_1.2.1 (Int.toNat (↑x_1.1:Int)) (dfl (Ty.st SN.stt))).names=(sF (aA code k) (↑x_1.1:Int) (List.getD (aL code k).ops (Int.toNat (↑x_1.1:Int)) default) x_1.2.1).names/\x_1.2.1=lF (aA code k) (↑x_1.1:Int) (List.getD (aL code k).ops (Int.toNat (↑x_1.1:Int)) default) x_1.2.1/\x_1.2.2=bF code k (List.getD bs (Int.toNat k) default) (aA code k) (↑x_1.1:Int) (List.getD (aL code k).ops (Int.toNat (↑x_1.1:Int)) default) x_1.2.1 x_1.2.2/\code=code/\n=n/\List.getD bs (Int.toNat k) (dfl (Ty.st SN.stt))=List.getD bs (Int.toNat k) (dfl (Ty.st SN.stt))/\Int.toNat ((↑(List.length (List.getD code (Int.toNat k) (dfl (Ty.st SN.chunk))).ops):Int)+(1:Int))=Int.toNat ((↑(List.length (List.getD code (Int.toNat k) (dfl (Ty.st SN.chunk))).ops):Int)+(1:Int))/\List.getD (List.getD code (Int.toNat k) (dfl (Ty.st SN.chunk))).ops (Int.toNat (↑x_1.1:Int)) (dfl (Ty.st SN.op))=List.getD (List.getD code (Int.toNat k) (dfl (Ty.st SN.chunk))).ops (Int.toNat (↑x_1.1:Int)) (dfl (Ty.st SN.op))/\True else (∃(x_2:Nat × List Stt),(x_2.1<=List.length (List.getD (aL code k).ops (Int.toNat (↑x_1.1:Int)) default).tos/\List.length x_2.2=aA code k+(1:Nat)
  /\iu (↑x_1.1:Int) (aA code k) {things:=IntKind.wrap IntKind.i64 ((List.getD x_1.2.1 (Int.toNat (↑x_1.1:Int)) (dfl (Ty.st SN.stt))).things+IntKind.wrap IntKind.i64 ((ag (List.getD (List.getD code (Int.toNat k) (dfl (Ty.st SN.chunk))).ops (Int.toNat (↑x_1.1:Int)) (dfl (Ty.st SN.op)))).2 - (ag (List.getD (List.getD code (Int.toNat k) (dfl (Ty.st SN.chunk))).ops (Int.toNat (↑x_1.1:Int)) (dfl (Ty.st SN.op)))).1)),names:=IntKind.wrap IntKind.i64 ((List.getD x_1.2.1 (Int.toNat (↑x_1.1:Int)) (dfl (Ty.st SN.stt))).names+(1:Int)):Stt} (List.drop x_2.1 (List.getD (aL code k).ops (Int.toNat (↑x_1.1:Int)) default).tos) x_2.2=iu (↑x_1.1:Int) (aA code k) {things:=IntKind.wrap IntKind.i64 ((List.getD x_1.2.1 (Int.toNat (↑x_1.1:Int)) (dfl (Ty.st SN.stt))).things+IntKind.wrap IntKind.i64 ((ag (List.getD (List.getD code (Int.toNat k) (dfl (Ty.st SN.chunk))).ops (Int.toNat (↑x_1.1:Int)) (dfl (Ty.st SN.op)))).2 - (ag (List.getD (List.getD code (Int.toNat k) (dfl (Ty.st SN.chunk))).ops (Int.toNat (↑x_1.1:Int)) (dfl (Ty.st SN.op)))).1)),names:=IntKind.wrap IntKind.i64 ((List.getD x_1.2.1 (Int.toNat (↑x_1.1:Int)) (dfl (Ty.st SN.stt))).names+(1:Int)):Stt} (List.getD (aL code k).ops (Int.toNat (↑x_1.1:Int)) default).tos x_1.2.1)/\(0:Int)=(↑x_2.1:Int)/\(↑x_1.1:Int)=(↑x_1.1:Int)/\(↑x:Int)=(↑x:Int)/\k=k/\(List.getD code (Int.toNat k) (dfl (Ty.st SN.chunk))).ops=(List.getD code (Int.toNat k) (dfl (Ty.st SN.chunk))).ops/\(↑(Int.toNat ((↑(List.length (List.getD code (Int.toNat k) (dfl (Ty.st SN.chunk))).ops):Int)+(1:Int))):Int)=(↑(Int.toNat ((↑(List.length (List.getD code (Int.toNat k) (dfl (Ty.st SN.chunk))).ops):Int)+(1:Int))):Int)/\false=false/\false=false/\(List.getD code (Int.toNat k) (dfl (Ty.st SN.chunk))).ops=(List.getD code (Int.toNat k) (dfl (Ty.st SN.chunk))).ops/\(↑(List.length (List.getD code (Int.toNat k) (dfl (Ty.st SN.chunk))).ops):Int)=(↑(List.length (List.getD code (Int.toNat k) (dfl (Ty.st SN.chunk))).ops):Int)/\true=true/\(↑x_1.1:Int)=(↑x_1.1:Int)/\(ag (List.getD (List.getD code (Int.toNat k) (dfl (Ty.st SN.chunk))).ops (Int.toNat (↑x_1.1:Int)) (dfl (Ty.st SN.op)))).1=(ag (List.getD (List.getD code (Int.toNat k) (dfl (Ty.st SN.chunk))).ops (Int.toNat (↑x_1.1:Int)) (dfl (Ty.st SN.op)))).1/\(ag (List.getD (List.getD code (Int.toNat k) (dfl (Ty.st SN.chunk))).ops (Int.toNat (↑x_1.1:Int)) (dfl (Ty.st SN.op)))).2=(ag (List.getD (List.getD code (Int.toNat k) (dfl (Ty.st SN.chunk))).ops (Int.toNat (↑x_1.1:Int)) (dfl (Ty.st SN.op)))).2/\false=false/\true=true/\(List.getD (List.getD code (Int.toNat k) (dfl (Ty.st SN.chunk))).ops (Int.toNat (↑x_1.1:Int)) (dfl (Ty.st SN.op))).kind=(List.getD (List.getD code (Int.toNat k) (dfl (Ty.st SN.chunk))).ops (Int.toNat (↑x_1.1:Int)) (dfl (Ty.st SN.op))).kind/\false=false/\false=false/\false=false/\false=false/\false=false/\false=false/\true=true/\false=false/\(List.getD (List.getD code (Int.toNat k) (dfl (Ty.st SN.chunk))).ops (Int.toNat (↑x_1.1:Int)) (dfl (Ty.st SN.op))).tos=(List.getD (List.getD code (Int.toNat k) (dfl (Ty.st SN.chunk))).ops (Int.toNat (↑x_1.1:Int)) (dfl (Ty.st SN.op))).tos/\(↑(List.length (List.getD (List.getD code (Int.toNat k) (dfl (Ty.st SN.chunk))).ops (Int.toNat (↑x_1.1:Int)) (dfl (Ty.st SN.op))).tos):Int)=(↑(List.length (List.getD (List.getD code (Int.toNat k) (dfl (Ty.st SN.chunk))).ops (Int.toNat (↑x_1.1:Int)) (dfl (Ty.st SN.op))).tos):Int)/\x_1.2.1=x_2.2/\x_1.2.2=x_1.2.2/\code=code/\n=n/\List.getD bs (Int.toNat k) (dfl (Ty.st SN.stt))=List.getD bs (Int.toNat k) (dfl (Ty.st SN.stt))
  /\Int.toNat ((↑(List.length (List.getD code (Int.toNat k) (dfl (Ty.st SN.chunk))).ops):Int)+(1:Int))=Int.toNat ((↑(List.length (List.getD code (Int.toNat k) (dfl (Ty.st SN.chunk))).ops):Int)+(1:Int))/\List.getD (List.getD code (Int.toNat k) (dfl (Ty.st SN.chunk))).ops (Int.toNat (↑x_1.1:Int)) (dfl (Ty.st SN.op))=List.getD (List.getD code (Int.toNat k) (dfl (Ty.st SN.chunk))).ops (Int.toNat (↑x_1.1:Int)) (dfl (Ty.st SN.op))/\IntKind.wrap IntKind.i64 ((List.getD x_1.2.1 (Int.toNat (↑x_1.1:Int)) (dfl (Ty.st SN.stt))).things+IntKind.wrap IntKind.i64 ((ag (List.getD (List.getD code (Int.toNat k) (dfl (Ty.st SN.chunk))).ops (Int.toNat (↑x_1.1:Int)) (dfl (Ty.st SN.op)))).2 - (ag (List.getD (List.getD code (Int.toNat k) (dfl (Ty.st SN.chunk))).ops (Int.toNat (↑x_1.1:Int)) (dfl (Ty.st SN.op)))).1))=IntKind.wrap IntKind.i64 ((List.getD x_1.2.1 (Int.toNat (↑x_1.1:Int)) (dfl (Ty.st SN.stt))).things+IntKind.wrap IntKind.i64 ((ag (List.getD (List.getD code (Int.toNat k) (dfl (Ty.st SN.chunk))).ops (Int.toNat (↑x_1.1:Int)) (dfl (Ty.st SN.op)))).2 - (ag (List.getD (List.getD code (Int.toNat k) (dfl (Ty.st SN.chunk))).ops (Int.toNat (↑x_1.1:Int)) (dfl (Ty.st SN.op)))).1))/\IntKind.wrap IntKind.i64 ((List.getD x_1.2.1 (Int.toNat (↑x_1.1:Int)) (dfl (Ty.st SN.stt))).names+(1:Int))=IntKind.wrap IntKind.i64 ((List.getD x_1.2.1 (Int.toNat (↑x_1.1:Int)) (dfl (Ty.st SN.stt))).names+(1:Int))/\True)/\∀(x_2:Nat × List Stt),x_2.1<=List.length (List.getD (aL code k).ops (Int.toNat (↑x_1.1:Int)) default).tos/\List.length x_2.2=aA code k+(1:Nat)/\iu (↑x_1.1:Int) (aA code k) {things:=IntKind.wrap IntKind.i64 ((List.getD x_1.2.1 (Int.toNat (↑x_1.1:Int)) (dfl (Ty.st SN.stt))).things+IntKind.wrap IntKind.i64 ((ag (List.getD (List.getD code (Int.toNat k) (dfl (Ty.st SN.chunk))).ops (Int.toNat (↑x_1.1:Int)) (dfl (Ty.st SN.op)))).2 - (ag (List.getD (List.getD code (Int.toNat k) (dfl (Ty.st SN.chunk))).ops (Int.toNat (↑x_1.1:Int)) (dfl (Ty.st SN.op)))).1)),names:=IntKind.wrap IntKind.i64 ((List.getD x_1.2.1 (Int.toNat (↑x_1.1:Int)) (dfl (Ty.st SN.stt))).names+(1:Int)):Stt} (List.drop x_2.1 (List.getD (aL code k).ops (Int.toNat (↑x_1.1:Int)) default).tos) x_2.2=iu (↑x_1.1:Int) (aA code k) {things:=IntKind.wrap IntKind.i64 ((List.getD x_1.2.1 (Int.toNat (↑x_1.1:Int)) (dfl (Ty.st SN.stt))).things+IntKind.wrap IntKind.i64 ((ag (List.getD (List.getD code (Int.toNat k) (dfl (Ty.st SN.chunk))).ops (Int.toNat (↑x_1.1:Int)) (dfl (Ty.st SN.op)))).2 - (ag (List.getD (List.getD code (Int.toNat k) (dfl (Ty.st SN.chunk))).ops (Int.toNat (↑x_1.1:Int)) (dfl (Ty.st SN.op)))).1)),names:=IntKind.wrap IntKind.i64 ((List.getD x_1.2.1 (Int.toNat (↑x_1.1:Int)) (dfl (Ty.st SN.stt))).names+(1:Int)):Stt} (List.getD (aL code k).ops (Int.toNat (↑x_1.1:Int)) default).tos x_1.2.1→if decide ((↑x_2.1:Int) < (↑(List.length (List.getD (List.getD code (Int.toNat k) (dfl (Ty.st SN.chunk))).ops (Int.toNat (↑x_1.1:Int)) (dfl (Ty.st SN.op))).tos):Int))=true then ((0:Int)<=(↑x_2.1:Int)/\(↑x_2.1:Int) < (↑(List.length (List.getD (List.getD code (Int.toNat k) (dfl (Ty.st SN.chunk))).ops (Int.toNat (↑x_1.1:Int)) (dfl (Ty.st SN.op))).tos):Int))/\if decide (List.getD (List.getD (List.getD code (Int.toNat k) (dfl (Ty.st SN.chunk))).ops (Int.toNat (↑x_1.1:Int)) (dfl (Ty.st SN.op))).tos (Int.toNat (↑x_2.1:Int)) (dfl (Ty.int IntKind.i64))<=(↑x_1.1:Int))=true then True/\false=(aE code k bs).1/\code=code/\n=n/\x_1.2.2=(aE code k bs).2/\True
  else if decide ((↑(List.length (List.getD code (Int.toNat k) (dfl (Ty.st SN.chunk))).ops):Int) < List.getD (List.getD (List.getD code (Int.toNat k) (dfl (Ty.st SN.chunk))).ops (Int.toNat (↑x_1.1:Int)) (dfl (Ty.st SN.op))).tos (Int.toNat (↑x_2.1:Int)) (dfl (Ty.int IntKind.i64)))=true then True/\false=(aE code k bs).1/\code=code/\n=n/\x_1.2.2=(aE code k bs).2/\True else ((0:Int)<=List.getD (List.getD (List.getD code (Int.toNat k) (dfl (Ty.st SN.chunk))).ops (Int.toNat (↑x_1.1:Int)) (dfl (Ty.st SN.op))).tos (Int.toNat (↑x_2.1:Int)) (dfl (Ty.int IntKind.i64))/\List.getD (List.getD (List.getD code (Int.toNat k) (dfl (Ty.st SN.chunk))).ops (Int.toNat (↑x_1.1:Int)) (dfl (Ty.st SN.op))).tos (Int.toNat (↑x_2.1:Int)) (dfl (Ty.int IntKind.i64)) < (↑(Int.toNat ((↑(List.length (List.getD code (Int.toNat k) (dfl (Ty.st SN.chunk))).ops):Int)+(1:Int))):Int)/\Int.toNat ((↑(List.length (List.getD code (Int.toNat k) (dfl (Ty.st SN.chunk))).ops):Int)+(1:Int))=List.length x_2.2)/\if (!cg x_2.2 (List.getD (List.getD (List.getD code (Int.toNat k) (dfl (Ty.st SN.chunk))).ops (Int.toNat (↑x_1.1:Int)) (dfl (Ty.st SN.op))).tos (Int.toNat (↑x_2.1:Int)) (dfl (Ty.int IntKind.i64))) {things:=IntKind.wrap IntKind.i64 ((List.getD x_1.2.1 (Int.toNat (↑x_1.1:Int)) (dfl (Ty.st SN.stt))).things+IntKind.wrap IntKind.i64 ((ag (List.getD (List.getD code (Int.toNat k) (dfl (Ty.st SN.chunk))).ops (Int.toNat (↑x_1.1:Int)) (dfl (Ty.st SN.op)))).2 - (ag (List.getD (List.getD code (Int.toNat k) (dfl (Ty.st SN.chunk))).ops (Int.toNat (↑x_1.1:Int)) (dfl (Ty.st SN.op)))).1)),names:=IntKind.wrap IntKind.i64 ((List.getD x_1.2.1 (Int.toNat (↑x_1.1:Int)) (dfl (Ty.st SN.stt))).names+(1:Int)):Stt})=true then True/\false=(aE code k bs).1/\code=code/\n=n/\x_1.2.2=(aE code k bs).2/\True else inR IntKind.i64 ((↑x_2.1:Int)+(1:Int))/\∃(y:Nat × List Stt),(y.1<=List.length (List.getD (aL code k).ops (Int.toNat (↑x_1.1:Int)) default).tos/\List.length y.2=aA code k+(1:Nat)/\iu (↑x_1.1:Int) (aA code k) {things:=IntKind.wrap IntKind.i64 ((List.getD x_1.2.1 (Int.toNat (↑x_1.1:Int)) (dfl (Ty.st SN.stt))).things+IntKind.wrap IntKind.i64 ((ag (List.getD (List.getD code (Int.toNat k) (dfl (Ty.st SN.chunk))).ops (Int.toNat (↑x_1.1:Int)) (dfl (Ty.st SN.op)))).2 - (ag (List.getD (List.getD code (Int.toNat k) (dfl (Ty.st SN.chunk))).ops (Int.toNat (↑x_1.1:Int)) (dfl (Ty.st SN.op)))).1)),names:=IntKind.wrap IntKind.i64 ((List.getD x_1.2.1 (Int.toNat (↑x_1.1:Int)) (dfl (Ty.st SN.stt))).names+(1:Int)):Stt} (List.drop y.1 (List.getD (aL code k).ops (Int.toNat (↑x_1.1:Int)) default).tos) y.2=iu (↑x_1.1:Int) (aA code k) {things:=IntKind.wrap IntKind.i64 ((List.getD x_1.2.1 (Int.toNat (↑x_1.1:Int)) (dfl (Ty.st SN.stt))).things+IntKind.wrap IntKind.i64 ((ag (List.getD (List.getD code (Int.toNat k) (dfl (Ty.st SN.chunk))).ops (Int.toNat (↑x_1.1:Int)) (dfl (Ty.st SN.op)))).2 - (ag (List.getD (List.getD code (Int.toNat k) (dfl (Ty.st SN.chunk))).ops (Int.toNat (↑x_1.1:Int)) (dfl (Ty.st SN.op)))).1)),names:=IntKind.wrap IntKind.i64 ((List.getD x_1.2.1 (Int.toNat (↑x_1.1:Int)) (dfl (Ty.st SN.stt))).names+(1:Int)):Stt} (List.getD (aL code k).ops (Int.toNat (↑x_1.1:Int)) default).tos x_1.2.1)/\List.length (List.getD (aL code k).ops (Int.toNat (↑x_1.1:Int)) default).tos - y.1 < List.length (List.getD (aL code k).ops (Int.toNat (↑x_1.1:Int)) default).tos - x_2.1/\(↑x_2.1:Int)+(1:Int)=(↑y.1:Int)/\(↑x_1.1:Int)=(↑x_1.1:Int)/\(↑x:Int)=(↑x:Int)/\k=k/\(List.getD code (Int.toNat k) (dfl (Ty.st SN.chunk))).ops=(List.getD code (Int.toNat k) (dfl (Ty.st SN.chunk))).ops
  /\(↑(Int.toNat ((↑(List.length (List.getD code (Int.toNat k) (dfl (Ty.st SN.chunk))).ops):Int)+(1:Int))):Int)=(↑(Int.toNat ((↑(List.length (List.getD code (Int.toNat k) (dfl (Ty.st SN.chunk))).ops):Int)+(1:Int))):Int)/\false=false/\false=false/\(List.getD code (Int.toNat k) (dfl (Ty.st SN.chunk))).ops=(List.getD code (Int.toNat k) (dfl (Ty.st SN.chunk))).ops/\(↑(List.length (List.getD code (Int.toNat k) (dfl (Ty.st SN.chunk))).ops):Int)=(↑(List.length (List.getD code (Int.toNat k) (dfl (Ty.st SN.chunk))).ops):Int)/\true=true/\(↑x_1.1:Int)=(↑x_1.1:Int)/\(ag (List.getD (List.getD code (Int.toNat k) (dfl (Ty.st SN.chunk))).ops (Int.toNat (↑x_1.1:Int)) (dfl (Ty.st SN.op)))).1=(ag (List.getD (List.getD code (Int.toNat k) (dfl (Ty.st SN.chunk))).ops (Int.toNat (↑x_1.1:Int)) (dfl (Ty.st SN.op)))).1/\(ag (List.getD (List.getD code (Int.toNat k) (dfl (Ty.st SN.chunk))).ops (Int.toNat (↑x_1.1:Int)) (dfl (Ty.st SN.op)))).2=(ag (List.getD (List.getD code (Int.toNat k) (dfl (Ty.st SN.chunk))).ops (Int.toNat (↑x_1.1:Int)) (dfl (Ty.st SN.op)))).2/\false=false/\true=true/\(List.getD (List.getD code (Int.toNat k) (dfl (Ty.st SN.chunk))).ops (Int.toNat (↑x_1.1:Int)) (dfl (Ty.st SN.op))).kind=(List.getD (List.getD code (Int.toNat k) (dfl (Ty.st SN.chunk))).ops (Int.toNat (↑x_1.1:Int)) (dfl (Ty.st SN.op))).kind/\false=false/\false=false/\false=false/\false=false/\false=false/\false=false/\true=true/\false=false/\(List.getD (List.getD code (Int.toNat k) (dfl (Ty.st SN.chunk))).ops (Int.toNat (↑x_1.1:Int)) (dfl (Ty.st SN.op))).tos=(List.getD (List.getD code (Int.toNat k) (dfl (Ty.st SN.chunk))).ops (Int.toNat (↑x_1.1:Int)) (dfl (Ty.st SN.op))).tos/\(↑(List.length (List.getD (List.getD code (Int.toNat k) (dfl (Ty.st SN.chunk))).ops (Int.toNat (↑x_1.1:Int)) (dfl (Ty.st SN.op))).tos):Int)=(↑(List.length (List.getD (List.getD code (Int.toNat k) (dfl (Ty.st SN.chunk))).ops (Int.toNat (↑x_1.1:Int)) (dfl (Ty.st SN.op))).tos):Int)/\bS x_2.2 (List.getD (List.getD (List.getD code (Int.toNat k) (dfl (Ty.st SN.chunk))).ops (Int.toNat (↑x_1.1:Int)) (dfl (Ty.st SN.op))).tos (Int.toNat (↑x_2.1:Int)) (dfl (Ty.int IntKind.i64))) {things:=IntKind.wrap IntKind.i64 ((List.getD x_1.2.1 (Int.toNat (↑x_1.1:Int)) (dfl (Ty.st SN.stt))).things+IntKind.wrap IntKind.i64 ((ag (List.getD (List.getD code (Int.toNat k) (dfl (Ty.st SN.chunk))).ops (Int.toNat (↑x_1.1:Int)) (dfl (Ty.st SN.op)))).2 - (ag (List.getD (List.getD code (Int.toNat k) (dfl (Ty.st SN.chunk))).ops (Int.toNat (↑x_1.1:Int)) (dfl (Ty.st SN.op)))).1)),names:=IntKind.wrap IntKind.i64 ((List.getD x_1.2.1 (Int.toNat (↑x_1.1:Int)) (dfl (Ty.st SN.stt))).names+(1:Int)):Stt}=y.2/\x_1.2.2=x_1.2.2/\code=code/\n=n/\List.getD bs (Int.toNat k) (dfl (Ty.st SN.stt))=List.getD bs (Int.toNat k) (dfl (Ty.st SN.stt))/\Int.toNat ((↑(List.length (List.getD code (Int.toNat k) (dfl (Ty.st SN.chunk))).ops):Int)+(1:Int))=Int.toNat ((↑(List.length (List.getD code (Int.toNat k) (dfl (Ty.st SN.chunk))).ops):Int)+(1:Int))/\List.getD (List.getD code (Int.toNat k) (dfl (Ty.st SN.chunk))).ops (Int.toNat (↑x_1.1:Int)) (dfl (Ty.st SN.op))=List.getD (List.getD code (Int.toNat k) (dfl (Ty.st SN.chunk))).ops (Int.toNat (↑x_1.1:Int)) (dfl (Ty.st SN.op))
  /\IntKind.wrap IntKind.i64 ((List.getD x_1.2.1 (Int.toNat (↑x_1.1:Int)) (dfl (Ty.st SN.stt))).things+IntKind.wrap IntKind.i64 ((ag (List.getD (List.getD code (Int.toNat k) (dfl (Ty.st SN.chunk))).ops (Int.toNat (↑x_1.1:Int)) (dfl (Ty.st SN.op)))).2 - (ag (List.getD (List.getD code (Int.toNat k) (dfl (Ty.st SN.chunk))).ops (Int.toNat (↑x_1.1:Int)) (dfl (Ty.st SN.op)))).1))=IntKind.wrap IntKind.i64 ((List.getD x_1.2.1 (Int.toNat (↑x_1.1:Int)) (dfl (Ty.st SN.stt))).things+IntKind.wrap IntKind.i64 ((ag (List.getD (List.getD code (Int.toNat k) (dfl (Ty.st SN.chunk))).ops (Int.toNat (↑x_1.1:Int)) (dfl (Ty.st SN.op)))).2 - (ag (List.getD (List.getD code (Int.toNat k) (dfl (Ty.st SN.chunk))).ops (Int.toNat (↑x_1.1:Int)) (dfl (Ty.st SN.op)))).1))/\IntKind.wrap IntKind.i64 ((List.getD x_1.2.1 (Int.toNat (↑x_1.1:Int)) (dfl (Ty.st SN.stt))).names+(1:Int))=IntKind.wrap IntKind.i64 ((List.getD x_1.2.1 (Int.toNat (↑x_1.1:Int)) (dfl (Ty.st SN.stt))).names+(1:Int))/\True else inR IntKind.i64 ((↑x_1.1:Int)+(1:Int))/\∃(y:Nat × List Stt × List Stt),(y.1<=aA code k/\List.length y.2.1=aA code k+(1:Nat)/\List.length y.2.2=List.length code/\iy code k (List.getD bs (Int.toNat k) default) (aA code k) (List.drop y.1 (aL code k).ops) (↑y.1:Int) y.2.1 y.2.2=aE code k bs)/\aA code k - y.1 < aA code k - x_1.1/\(↑x_1.1:Int)+(1:Int)=(↑y.1:Int)/\(↑x:Int)=(↑x:Int)/\k=k/\(List.getD code (Int.toNat k) (dfl (Ty.st SN.chunk))).ops=(List.getD code (Int.toNat k) (dfl (Ty.st SN.chunk))).ops/\(↑(Int.toNat ((↑(List.length (List.getD code (Int.toNat k) (dfl (Ty.st SN.chunk))).ops):Int)+(1:Int))):Int)=(↑(Int.toNat ((↑(List.length (List.getD code (Int.toNat k) (dfl (Ty.st SN.chunk))).ops):Int)+(1:Int))):Int)/\false=false/\false=false/\(List.getD code (Int.toNat k) (dfl (Ty.st SN.chunk))).ops=(List.getD code (Int.toNat k) (dfl (Ty.st SN.chunk))).ops/\(↑(List.length (List.getD code (Int.toNat k) (dfl (Ty.st SN.chunk))).ops):Int)=(↑(List.length (List.getD code (Int.toNat k) (dfl (Ty.st SN.chunk))).ops):Int)/\x_2.2=y.2.1/\x_1.2.2=y.2.2/\code=code/\n=n/\List.getD bs (Int.toNat k) (dfl (Ty.st SN.stt))=List.getD bs (Int.toNat k) (dfl (Ty.st SN.stt))/\Int.toNat ((↑(List.length (List.getD code (Int.toNat k) (dfl (Ty.st SN.chunk))).ops):Int)+(1:Int))=Int.toNat ((↑(List.length (List.getD code (Int.toNat k) (dfl (Ty.st SN.chunk))).ops):Int)+(1:Int))/\True else true=gF code k (List.getD bs (Int.toNat k) default) (aA code k) (↑x_1.1:Int) (List.getD (aL code k).ops (Int.toNat (↑x_1.1:Int)) default) x_1.2.1 x_1.2.2/\(↑x_1.1:Int)=(↑x_1.1:Int)/\(↑x_1.1:Int)=(↑x_1.1:Int)/\(↑x:Int)=(↑x:Int)/\k=k/\(List.getD code (Int.toNat k) (dfl (Ty.st SN.chunk))).ops=(List.getD code (Int.toNat k) (dfl (Ty.st SN.chunk))).ops/\(↑(Int.toNat ((↑(List.length (List.getD code (Int.toNat k) (dfl (Ty.st SN.chunk))).ops):Int)+(1:Int))):Int)=(↑(Int.toNat ((↑(List.length (List.getD code (Int.toNat k) (dfl (Ty.st SN.chunk))).ops):Int)+(1:Int))):Int)/\false=false/\false=false/\(List.getD code (Int.toNat k) (dfl (Ty.st SN.chunk))).ops=(List.getD code (Int.toNat k) (dfl (Ty.st SN.chunk))).ops/\(↑(List.length (List.getD code (Int.toNat k) (dfl (Ty.st SN.chunk))).ops):Int)=(↑(List.length (List.getD code (Int.toNat k) (dfl (Ty.st SN.chunk))).ops):Int)/\true=true/\(ag (List.getD (List.getD code (Int.toNat k) (dfl (Ty.st SN.chunk))).ops (Int.toNat (↑x_1.1:Int)) (dfl (Ty.st SN.op)))).1=(ag (List.getD (List.getD code (Int.toNat k) (dfl (Ty.st SN.chunk))).ops (Int.toNat (↑x_1.1:Int)) (dfl (Ty.st SN.op)))).1
  /\(ag (List.getD (List.getD code (Int.toNat k) (dfl (Ty.st SN.chunk))).ops (Int.toNat (↑x_1.1:Int)) (dfl (Ty.st SN.op)))).2=(ag (List.getD (List.getD code (Int.toNat k) (dfl (Ty.st SN.chunk))).ops (Int.toNat (↑x_1.1:Int)) (dfl (Ty.st SN.op)))).2/\false=false/\IntKind.wrap IntKind.i64 ((List.getD x_1.2.1 (Int.toNat (↑x_1.1:Int)) (dfl (Ty.st SN.stt))).things+IntKind.wrap IntKind.i64 ((ag (List.getD (List.getD code (Int.toNat k) (dfl (Ty.st SN.chunk))).ops (Int.toNat (↑x_1.1:Int)) (dfl (Ty.st SN.op)))).2 - (ag (List.getD (List.getD code (Int.toNat k) (dfl (Ty.st SN.chunk))).ops (Int.toNat (↑x_1.1:Int)) (dfl (Ty.st SN.op)))).1))=(sF (aA code k) (↑x_1.1:Int) (List.getD (aL code k).ops (Int.toNat (↑x_1.1:Int)) default) x_1.2.1).things/\(List.getD x_1.2.1 (Int.toNat (↑x_1.1:Int)) (dfl (Ty.st SN.stt))).names=(sF (aA code k) (↑x_1.1:Int) (List.getD (aL code k).ops (Int.toNat (↑x_1.1:Int)) default) x_1.2.1).names/\x_1.2.1=lF (aA code k) (↑x_1.1:Int) (List.getD (aL code k).ops (Int.toNat (↑x_1.1:Int)) default) x_1.2.1/\x_1.2.2=bF code k (List.getD bs (Int.toNat k) default) (aA code k) (↑x_1.1:Int) (List.getD (aL code k).ops (Int.toNat (↑x_1.1:Int)) default) x_1.2.1 x_1.2.2/\code=code/\n=n/\List.getD bs (Int.toNat k) (dfl (Ty.st SN.stt))=List.getD bs (Int.toNat k) (dfl (Ty.st SN.stt))/\Int.toNat ((↑(List.length (List.getD code (Int.toNat k) (dfl (Ty.st SN.chunk))).ops):Int)+(1:Int))=Int.toNat ((↑(List.length (List.getD code (Int.toNat k) (dfl (Ty.st SN.chunk))).ops):Int)+(1:Int))/\List.getD (List.getD code (Int.toNat k) (dfl (Ty.st SN.chunk))).ops (Int.toNat (↑x_1.1:Int)) (dfl (Ty.st SN.op))=List.getD (List.getD code (Int.toNat k) (dfl (Ty.st SN.chunk))).ops (Int.toNat (↑x_1.1:Int)) (dfl (Ty.st SN.op))/\True)/\if (!gF code k (List.getD bs (Int.toNat k) default) (aA code k) (↑x_1.1:Int) (List.getD (aL code k).ops (Int.toNat (↑x_1.1:Int)) default) x_1.2.1 x_1.2.2)=true then True/\false=(aE code k bs).1/\code=code/\n=n/\bF code k (List.getD bs (Int.toNat k) default) (aA code k) (↑x_1.1:Int) (List.getD (aL code k).ops (Int.toNat (↑x_1.1:Int)) default) x_1.2.1 x_1.2.2=(aE code k bs).2/\True else inR IntKind.i64 ((↑x_1.1:Int)+(1:Int))/\((0:Int)<=(↑x_1.1:Int)+(1:Int)/\(↑x_1.1:Int)+(1:Int) < (↑(Int.toNat ((↑(List.length (List.getD code (Int.toNat k) (dfl (Ty.st SN.chunk))).ops):Int)+(1:Int))):Int)/\Int.toNat ((↑(List.length (List.getD code (Int.toNat k) (dfl (Ty.st SN.chunk))).ops):Int)+(1:Int))=List.length (lF (aA code k) (↑x_1.1:Int) (List.getD (aL code k).ops (Int.toNat (↑x_1.1:Int)) default) x_1.2.1))/\if (!cg (lF (aA code k) (↑x_1.1:Int) (List.getD (aL code k).ops (Int.toNat (↑x_1.1:Int)) default) x_1.2.1) ((↑x_1.1:Int)+(1:Int)) (sF (aA code k) (↑x_1.1:Int) (List.getD (aL code k).ops (Int.toNat (↑x_1.1:Int)) default) x_1.2.1))=true then True/\false=(aE code k bs).1/\code=code/\n=n/\bF code k (List.getD bs (Int.toNat k) default) (aA code k) (↑x_1.1:Int) (List.getD (aL code k).ops (Int.toNat (↑x_1.1:Int)) default) x_1.2.1 x_1.2.2=(aE code k bs).2/\True else inR IntKind.i64 ((↑x_1.1:Int)+(1:Int))/\∃(y:Nat × List Stt × List Stt),(y.1<=aA code k/\List.length y.2.1=aA code k+(1:Nat)/\List.length y.2.2=List.length code/\iy code k (List.getD bs (Int.toNat k) default) (aA code k) (List.drop y.1 (aL code k).ops) (↑y.1:Int) y.2.1 y.2.2=aE code k bs)/\aA code k - y.1 < aA code k - x_1.1/\(↑x_1.1:Int)+(1:Int)=(↑y.1:Int)/\(↑x:Int)=(↑x:Int)/\k=k
  /\(List.getD code (Int.toNat k) (dfl (Ty.st SN.chunk))).ops=(List.getD code (Int.toNat k) (dfl (Ty.st SN.chunk))).ops/\(↑(Int.toNat ((↑(List.length (List.getD code (Int.toNat k) (dfl (Ty.st SN.chunk))).ops):Int)+(1:Int))):Int)=(↑(Int.toNat ((↑(List.length (List.getD code (Int.toNat k) (dfl (Ty.st SN.chunk))).ops):Int)+(1:Int))):Int)/\false=false/\false=false/\(List.getD code (Int.toNat k) (dfl (Ty.st SN.chunk))).ops=(List.getD code (Int.toNat k) (dfl (Ty.st SN.chunk))).ops/\(↑(List.length (List.getD code (Int.toNat k) (dfl (Ty.st SN.chunk))).ops):Int)=(↑(List.length (List.getD code (Int.toNat k) (dfl (Ty.st SN.chunk))).ops):Int)/\bS (lF (aA code k) (↑x_1.1:Int) (List.getD (aL code k).ops (Int.toNat (↑x_1.1:Int)) default) x_1.2.1) ((↑x_1.1:Int)+(1:Int)) (sF (aA code k) (↑x_1.1:Int) (List.getD (aL code k).ops (Int.toNat (↑x_1.1:Int)) default) x_1.2.1)=y.2.1/\bF code k (List.getD bs (Int.toNat k) default) (aA code k) (↑x_1.1:Int) (List.getD (aL code k).ops (Int.toNat (↑x_1.1:Int)) default) x_1.2.1 x_1.2.2=y.2.2/\code=code/\n=n/\List.getD bs (Int.toNat k) (dfl (Ty.st SN.stt))=List.getD bs (Int.toNat k) (dfl (Ty.st SN.stt))/\Int.toNat ((↑(List.length (List.getD code (Int.toNat k) (dfl (Ty.st SN.chunk))).ops):Int)+(1:Int))=Int.toNat ((↑(List.length (List.getD code (Int.toNat k) (dfl (Ty.st SN.chunk))).ops):Int)+(1:Int))/\True else ((0:Int)<=(↑(List.length (List.getD code (Int.toNat k) (dfl (Ty.st SN.chunk))).ops):Int)/\(↑(List.length (List.getD code (Int.toNat k) (dfl (Ty.st SN.chunk))).ops):Int) < (↑(Int.toNat ((↑(List.length (List.getD code (Int.toNat k) (dfl (Ty.st SN.chunk))).ops):Int)+(1:Int))):Int))/\Int.toNat (↑(List.length (List.getD code (Int.toNat k) (dfl (Ty.st SN.chunk))).ops):Int) < List.length x_1.2.1/\True/\(decide ((List.getD x_1.2.1 (Int.toNat (↑(List.length (List.getD code (Int.toNat k) (dfl (Ty.st SN.chunk))).ops):Int)) (dfl (Ty.st SN.stt))).things=(1:Int)) && (decide ((List.getD x_1.2.1 (Int.toNat (↑(List.length (List.getD code (Int.toNat k) (dfl (Ty.st SN.chunk))).ops):Int)) (dfl (Ty.st SN.stt))).names=(List.getD bs (Int.toNat k) (dfl (Ty.st SN.stt))).names) && true))=(aE code k bs).1/\code=code/\n=n/\x_1.2.2=(aE code k bs).2/\True:=by
 obtain ⟨h1,h2,h3,h4,h5,h6⟩:=ho
 subst h4
 have dC:code.getD k.toNat (dfl (Ty.st SN.chunk))=aL code k:=rfl
 have dS:dfl (Ty.st SN.stt)=(default:Stt):=rfl
 have dO:dfl (Ty.st SN.op)=(default:Opn):=rfl
 have dI:dfl (Ty.int IntKind.i64)=(0:Int):=rfl
 have dN:(aL code k).ops.length=aA code k:=rfl
 have hb:∀x y:Stt,(decide (x.things=y.things) && (decide (x.names=y.names) && true))=eqT x y:=fun x y=>by unfold eqT;simp
 simp only [dC,dS,dO,dI,dN,Int.toNat_natCast]
 have tN:(((aA code k:Nat):Int)+1).toNat=aA code k+1:=by omega
 simp only [tN]
 have cN:((aA code k+1:Nat):Int)=(aA code k:Int)+1:=by omega
 generalize hN:aA code k=N at *
 generalize hbb:bs.getD k.toNat (default:Stt)=bb at *
 refine ⟨⟨h1,h2⟩,⟨h1,h2⟩,by omega,aN (by omega) (by omega),⟨by omega,by omega,by omega⟩,⟨0,Nat.zero_le _,rfl,by repeat' (first | exact trivial | rfl | apply And.intro)⟩,?_⟩
 intro x hx
 refine aa (fun q=>?_) (fun q=>?_)
 ·replace q:=Xo q
  have q:x < N+1:=by omega
  refine ⟨⟨by omega,by omega⟩,by rw [dA hx];exact q,aN (by omega) (by omega),x+1,by omega,by omega,by omega,?_⟩
  rw [pn q]
  have e:(cE (N+1) x).set x {things:=-1,names:=({things:=0,names:=0}:Stt).names}=cE (N+1) (x+1):=s8 q default
  repeat' (first | exact trivial | exact e | rfl | apply And.intro)
 replace q:¬(x:Int) < ((N+1:Nat):Int):=fun z=>q (Xd z)
 have q:x=N+1:=by omega
 subst q
 have e0:∀h:cg (cE (N+1) (N+1)) 0 bb=false,aE code k bs=(false,bs):=fun h=>by unfold aE;rw [hbb,hN,if_neg (by rw [h];exact fun z=>by cases z)]
 have e1:∀h:cg (cE (N+1) (N+1)) 0 bb=true,iy code k bb N (aL code k).ops 0 (bS (cE (N+1) (N+1)) 0 bb) bs=aE code k bs:=fun h=>by unfold aE;rw [hbb,hN,if_pos h]
 refine ⟨⟨by omega,by omega,by rw [dA (Nat.le_refl _)]⟩,aa (fun q=>?_) (fun q=>?_)⟩
 ·have q:cg (cE (N+1) (N+1)) 0 bb=false:=by simpa using q
  rw [e0 q]
  repeat' (first | exact trivial | rfl | apply And.intro)
 have q:cg (cE (N+1) (N+1)) 0 bb=true:=by simpa using q
 refine ⟨⟨(0,bS (cE (N+1) (N+1)) 0 bb,bs),⟨Nat.zero_le _,by rw [cX,dA (Nat.le_refl _)],h3,by rw [List.drop_zero];exact e1 q⟩,by repeat' (first | exact trivial | rfl | apply And.intro)⟩,?_⟩
 clear e0 e1 q
 rintro ⟨i,l,b⟩ ⟨i1,i2,i3,i4⟩
 simp only at i1 i2 i3 i4 ⊢
 refine aa (fun q=>?_) (fun q=>?_)
 ·replace q:=Xo q
  have q:i < N:=by omega
  have qi:i < (aL code k).ops.length:=by omega
  rw [fG (aL code k).ops i (default:Opn) qi] at i4
  obtain ⟨hO,hO2⟩:=h6 _ (ry (aL code k).ops i (default:Opn) qi)
  generalize (aL code k).ops.getD i (default:Opn)=O at *
  generalize hcf:aE code k bs=cf at *
  have bad:gF code k bb N i O l b=false→cf=(false,b):=fun h=>by rw [←i4];exact uX _ h
  have ci:((i+1:Nat):Int)=(i:Int)+1:=by omega
  refine ⟨⟨by omega,by omega⟩,⟨by omega,by omega⟩,by omega,aa (fun m=>?_) (fun m=>?_)⟩
  ·rw [bad (by unfold gF;rw [Int.toNat_natCast,if_pos (.inl (Xo m))])];repeat' (first | exact trivial | rfl | apply And.intro)
  have m:¬(l.getD i default).things < 0:=fun z=>m (Xd z)
  refine ⟨hO,aa (fun m2=>?_) (fun m2=>?_)⟩
  ·rw [bad (by unfold gF;rw [if_pos (.inr (.inl (by simpa using m2)))])];repeat' (first | exact trivial | rfl | apply And.intro)
  refine aa (fun m3=>?_) (fun m3=>?_)
  ·rw [bad (by unfold gF;rw [Int.toNat_natCast,if_pos (.inr (.inr (Xo m3)))])];repeat' (first | exact trivial | rfl | apply And.intro)
  have m3:¬(l.getD i default).things < (ag O).1:=fun z=>m3 (Xd z)
  have g0:gF code k bb N i O l b=gK code k bb N i O l b:=by unfold gF;rw [Int.toNat_natCast,if_neg (fun z=>z.elim m (fun z=>z.elim (fun z=>by simp [z] at m2) m3))]
  have q1:({things:=IntKind.wrap IntKind.i64 ((l.getD i default).things+IntKind.wrap IntKind.i64 ((ag O).2 - (ag O).1)),names:=(l.getD i default).names}:Stt)=s1F O (l.getD i default):=rfl
  simp only [q1]
  refine ⟨?_,aa (fun z=>?_) (fun z=>?_)⟩
  ·refine aa (fun K=>?_) (fun K=>?_)
   ·have K:=Xo K
    rw [g0]
    simp only [gK,sF,lF,bF,K,Int.toNat_natCast]
    repeat' (first | exact trivial | rfl | apply And.intro)
   have K1:¬O.kind=4:=fun z=>K (Xd z)
   refine aa (fun K=>?_) (fun K=>?_)
   ·have K:=Xo K
    have q3:(decide ((b.getD O.n.toNat default).things=0) && (decide ((b.getD O.n.toNat default).names=IntKind.wrap IntKind.i64 ((l.getD i default).names+(code.getD O.n.toNat (dfl (Ty.st SN.chunk))).args)) && true))=eqT (b.getD O.n.toNat default) (s6 code O (l.getD i default)):=hb _ (s6 code O (l.getD i default))
    have g1:gF code k bb N i O l b=(!(decide (O.n<=k) || decide ((code.length:Int)<=O.n)) && !(decide (0<=(b.getD O.n.toNat default).things) && !eqT (b.getD O.n.toNat default) (s6 code O (l.getD i default)))):=by
     rw [g0];unfold gK;rw [if_neg K1,if_pos K];rfl
    have g2:sF N i O l=s1F O (l.getD i default):=by simp only [sF,K,Int.toNat_natCast];rfl
    have g3:lF N i O l=l:=by simp only [lF,K];rfl
    have g4:gF code k bb N i O l b=true→bF code k bb N i O l b=b.set O.n.toNat (s6 code O (l.getD i default)):=fun z=>by unfold bF;rw [if_pos ⟨K,z⟩];rfl
    simp only [q3]
    refine aa (fun y=>?_) (fun y=>?_)
    ·rw [bad (by rw [g1,y];rfl)];repeat' (first | exact trivial | rfl | apply And.intro)
    have y:decide (O.n<=k)=false:=by simpa using y
    refine aa (fun w=>?_) (fun w=>?_)
    ·rw [bad (by rw [g1,w,y];rfl)];repeat' (first | exact trivial | rfl | apply And.intro)
    have w:decide ((code.length:Int)<=O.n)=false:=by simpa using w
    have y':=of_decide_eq_false y
    have w':=of_decide_eq_false w
    refine ⟨⟨by omega,by omega⟩,⟨by omega,by omega⟩,by omega,aa (fun v=>?_) (fun v=>?_)⟩
    ·refine ⟨⟨by omega,by omega⟩,by omega,aa (fun u=>?_) (fun u=>?_)⟩
     ·have u:eqT (b.getD O.n.toNat default) (s6 code O (l.getD i default))=false:=by simpa using u
      rw [bad (by rw [g1,w,y,v,u];rfl)];repeat' (first | exact trivial | rfl | apply And.intro)
     ·have u:eqT (b.getD O.n.toNat default) (s6 code O (l.getD i default))=true:=by simpa using u
      have g5:gF code k bb N i O l b=true:=by rw [g1,w,y,u];simp
      refine ⟨⟨by omega,by omega⟩,by omega,?_⟩
      rw [g4 g5,g5,g2,g3]
      repeat' (first | exact trivial | rfl | apply And.intro)
    ·have v:decide (0<=(b.getD O.n.toNat default).things)=false:=by simpa using v
     have g5:gF code k bb N i O l b=true:=by rw [g1,w,y,v];simp
     refine ⟨⟨by omega,by omega⟩,by omega,?_⟩
     rw [g4 g5,g5,g2,g3]
     repeat' (first | exact trivial | rfl | apply And.intro)
   have K2:¬O.kind=6:=fun z=>K (Xd z)
   have g4:bF code k bb N i O l b=b:=by unfold bF;rw [if_neg (fun z=>K2 z.1)]
   refine aa (fun K=>?_) (fun K=>?_)
   ·have K:=Xo K
    rw [g4,g0]
    simp only [gK,sF,lF,K,Int.toNat_natCast]
    repeat' (first | exact trivial | rfl | apply And.intro)
   have K3:¬O.kind=12:=fun z=>K (Xd z)
   refine aa (fun K=>?_) (fun K=>?_)
   ·have K:=Xo K
    have g1:gF code k bb N i O l b=!decide (IntKind.i64.wrap ((l.getD i default).names - bb.names) < O.n):=by rw [g0];simp only [gK,K,Int.toNat_natCast];rfl
    refine aa (fun y=>?_) (fun y=>?_)
    ·rw [bad (by rw [g1,y];rfl)];repeat' (first | exact trivial | rfl | apply And.intro)
    ·have y:decide (IntKind.i64.wrap ((l.getD i default).names - bb.names) < O.n)=false:=by simpa using y
     rw [g4,g1,y]
     simp only [sF,lF,K,Int.toNat_natCast]
     repeat' (first | exact trivial | rfl | apply And.intro)
   have K4:¬O.kind=13:=fun z=>K (Xd z)
   refine aa (fun K=>?_) (fun K=>?_)
   ·have K:=Xo K
    have g1:gF code k bb N i O l b=(decide ((i:Int) < O.n) && decide (O.n<=(N:Int)) && cg l O.n (s1F O (l.getD i default))):=by rw [g0];simp only [gK,K,Int.toNat_natCast];rfl
    refine aa (fun y=>?_) (fun y=>?_)
    ·have y:=Xo y
     rw [bad (by rw [g1,Xf (show ¬(i:Int) < O.n by omega)];rfl)];repeat' (first | exact trivial | rfl | apply And.intro)
    have y:¬O.n<=(i:Int):=fun z=>y (Xd z)
    refine aa (fun w=>?_) (fun w=>?_)
    ·have w:=Xo w
     rw [bad (by rw [g1,Xf (show ¬O.n<=(N:Int) by omega),Bool.and_false];rfl)];repeat' (first | exact trivial | rfl | apply And.intro)
    have w:¬(N:Int) < O.n:=fun z=>w (Xd z)
    refine ⟨⟨by omega,by omega,by omega⟩,aa (fun v=>?_) (fun v=>?_)⟩
    ·have v:cg l O.n (s1F O (l.getD i default))=false:=by simpa using v
     rw [bad (by rw [g1,v,Bool.and_false])];repeat' (first | exact trivial | rfl | apply And.intro)
    ·have v:cg l O.n (s1F O (l.getD i default))=true:=by simpa using v
     have g5:gF code k bb N i O l b=true:=by rw [g1,v,Xd (show (i:Int) < O.n by omega),Xd (show O.n<=(N:Int) by omega)];rfl
     have g3:lF N i O l=bS l O.n (s1F O (l.getD i default)):=by unfold lF;rw [if_pos ⟨.inl K,by omega,by omega⟩,Int.toNat_natCast]
     have g2:sF N i O l=(lF N i O l).getD ((i:Int)+1).toNat default:=by unfold sF;rw [if_neg K3,if_neg K4,if_pos (.inl K)]
     rw [s7 _ g5 g2,g3,g4] at i4
     refine ⟨aN (by omega) (by omega),(i+1,bS l O.n (s1F O (l.getD i default)),b),⟨q,by rw [cX];exact i2,i3,by rw [ci];exact i4⟩,by simp only;omega,by repeat' (first | exact trivial | rfl | apply And.intro)⟩
   have K5:¬O.kind=15:=fun z=>K (Xd z)
   refine aa (fun K=>?_) (fun K=>?_)
   ·have K:=Xo K
    have g1:gF code k bb N i O l b=(decide ((i:Int) < O.n) && decide (O.n<=(N:Int)) && cg l O.n (s1F O (l.getD i default))):=by rw [g0];simp only [gK,K,Int.toNat_natCast];rfl
    have g2:sF N i O l=s1F O (l.getD i default):=by simp only [sF,K,Int.toNat_natCast];rfl
    have off:¬((i:Int) < O.n/\O.n<=(N:Int))→gF code k bb N i O l b=false/\lF N i O l=l:=fun z=>by
     refine ⟨?_,?_⟩
     ·rw [g1]
      by_cases y:(i:Int) < O.n
      ·rw [Xf (show ¬O.n<=(N:Int) from fun w=>z ⟨y,w⟩),Bool.and_false];rfl
      ·rw [Xf y];rfl
     ·unfold lF;rw [if_neg (fun y=>z y.2),if_neg (fun y=>by rw [K] at y;exact absurd y.1 (by decide))]
    refine aa (fun y=>?_) (fun y=>?_)
    ·have y:=Xo y
     refine aa (fun w=>?_) (fun w=>?_)
     ·have w:=Xo w
      have g3:lF N i O l=bS l O.n (s1F O (l.getD i default)):=by unfold lF;rw [if_pos ⟨.inr K,y,w⟩,Int.toNat_natCast]
      refine ⟨⟨by omega,by omega,by omega⟩,?_⟩
      rw [g4,g3,g2,g1,Xd y,Xd w]
      repeat' (first | exact trivial | rfl | apply And.intro)
     ·have w:¬O.n<=(N:Int):=fun z=>w (Xd z)
      obtain ⟨o1,o2⟩:=off (fun z=>w z.2)
      rw [g4,o1,o2,g2]
      repeat' (first | exact trivial | rfl | apply And.intro)
    ·have y:¬(i:Int) < O.n:=fun z=>y (Xd z)
     obtain ⟨o1,o2⟩:=off (fun z=>y z.1)
     rw [g4,o1,o2,g2]
     repeat' (first | exact trivial | rfl | apply And.intro)
   have K6:¬O.kind=14:=fun z=>K (Xd z)
   have K56:¬(O.kind=15∨O.kind=14):=fun z=>z.elim K5 K6
   have cC:¬(O.kind=16/\O.tos.length≠0)→gF code k bb N i O l b=true/\sF N i O l=s1F O (l.getD i default)/\lF N i O l=l:=fun z=>by
    refine ⟨?_,?_,?_⟩
    ·rw [g0];unfold gK;rw [if_neg K1,if_neg K2,if_neg K4,if_neg K56,if_neg z]
    ·unfold sF;rw [if_neg K3,if_neg K4,if_neg (fun y=>y.elim K5 z),Int.toNat_natCast]
    ·unfold lF;rw [if_neg (fun y=>K56 y.1),if_neg z]
   refine aa (fun K=>?_) (fun K=>?_)
   ·have K:=Xo K
    refine aa (fun y=>?_) (fun y=>?_)
    ·have y:=Xo y
     obtain ⟨o1,o2,o3⟩:=cC (fun z=>z.2 (by omega))
     rw [g4,o1,o2,o3]
     repeat' (first | exact trivial | rfl | apply And.intro)
    have y:O.tos.length≠0:=fun z=>y (Xd (by omega))
    have q4:({things:=IntKind.wrap IntKind.i64 ((l.getD i default).things+IntKind.wrap IntKind.i64 ((ag O).2 - (ag O).1)),names:=IntKind.wrap IntKind.i64 ((l.getD i default).names+1)}:Stt)=⟨(s1F O (l.getD i default)).things,IntKind.i64.wrap ((l.getD i default).names+1)⟩:=rfl
    simp only [q4]
    generalize hs2:(⟨(s1F O (l.getD i default)).things,IntKind.i64.wrap ((l.getD i default).names+1)⟩:Stt)=s2 at *
    have g1:gF code k bb N i O l b=(iu i N s2 O.tos l).1:=by rw [g0];unfold gK;rw [if_neg K1,if_neg K2,if_neg K4,if_neg K56,if_pos ⟨K,y⟩,Int.toNat_natCast,hs2]
    have g3:lF N i O l=(iu i N s2 O.tos l).2:=by unfold lF;rw [if_neg (fun y=>K56 y.1),if_pos ⟨K,y⟩,Int.toNat_natCast,hs2]
    have g2:sF N i O l=(lF N i O l).getD ((i:Int)+1).toNat default:=by unfold sF;rw [if_neg K3,if_neg K4,if_pos (.inr ⟨K,y⟩)]
    refine ⟨⟨(0,l),⟨Nat.zero_le _,i2,by rw [List.drop_zero]⟩,by repeat' (first | exact trivial | rfl | apply And.intro)⟩,?_⟩
    rintro ⟨j,a⟩ ⟨j1,j2,j3⟩
    simp only at j1 j2 j3 ⊢
    refine aa (fun v=>?_) (fun v=>?_)
    ·have v:=Xo v
     have v:j < O.tos.length:=by omega
     rw [fG O.tos j (0:Int) v] at j3
     generalize O.tos.getD j (0:Int)=tgt at *
     have no:¬(¬tgt<=(i:Int)/\¬(N:Int) < tgt/\cg a tgt s2=true)→cf=(false,b):=fun z=>bad (by
      rw [g1,←j3]
      unfold iu
      rw [if_pos]
      by_cases c1:tgt<=(i:Int)
      ·exact .inl c1
      by_cases c2:(N:Int) < tgt
      ·exact .inr (.inl c2)
      refine .inr (.inr (Bool.eq_false_iff.2 fun c3=>z ⟨c1,c2,c3⟩)))
     refine ⟨⟨by omega,by omega⟩,aa (fun u=>?_) (fun u=>?_)⟩
     ·rw [no (fun z=>z.1 (Xo u))];repeat' (first | exact trivial | rfl | apply And.intro)
     have u:¬tgt<=(i:Int):=fun z=>u (Xd z)
     refine aa (fun t=>?_) (fun t=>?_)
     ·rw [no (fun z=>z.2.1 (Xo t))];repeat' (first | exact trivial | rfl | apply And.intro)
     have t:¬(N:Int) < tgt:=fun z=>t (Xd z)
     refine ⟨⟨by omega,by omega,by omega⟩,aa (fun r=>?_) (fun r=>?_)⟩
     ·rw [no (fun z=>by rw [z.2.2] at r;cases r)];repeat' (first | exact trivial | rfl | apply And.intro)
     have r:cg a tgt s2=true:=by simpa using r
     have j4:iu i N s2 (O.tos.drop (j+1)) (bS a tgt s2)=iu i N s2 O.tos l:=by
      rw [←j3]
      conv=>rhs;unfold iu
      rw [if_neg (fun z=>z.elim u (fun z=>z.elim t (fun z=>by rw [r] at z;cases z)))]
     refine ⟨aN (by omega) (by omega),(j+1,bS a tgt s2),⟨v,by rw [cX];exact j2,j4⟩,by simp only;omega,by repeat' (first | exact trivial | rfl | apply And.intro)⟩
    ·have v:¬(j:Int) < (O.tos.length:Int):=fun z=>v (Xd z)
     have v:j=O.tos.length:=by omega
     subst v
     rw [List.drop_length] at j3
     have g5:gF code k bb N i O l b=true:=by rw [g1,←j3];rfl
     have g6:lF N i O l=a:=by rw [g3,←j3];rfl
     rw [s7 _ g5 g2,g6,g4] at i4
     refine ⟨aN (by omega) (by omega),(i+1,a,b),⟨q,j2,i3,by rw [ci];exact i4⟩,by simp only;omega,by repeat' (first | exact trivial | rfl | apply And.intro)⟩
   have K7:¬O.kind=16:=fun z=>K (Xd z)
   obtain ⟨o1,o2,o3⟩:=cC (fun z=>K7 z.1)
   rw [g4,o1,o2,o3]
   repeat' (first | exact trivial | rfl | apply And.intro)
  ·have z:gF code k bb N i O l b=false:=by simpa using z
   rw [bad z]
   have e:bF code k bb N i O l b=b:=by unfold bF;rw [if_neg (fun y=>by rw [z] at y;cases y.2)]
   rw [e]
   repeat' (first | exact trivial | rfl | apply And.intro)
  ·have z:gF code k bb N i O l b=true:=by simpa using z
   rw [tU _ z] at i4
   refine ⟨aN (by omega) (by omega),⟨by omega,by omega,by rw [pj];omega⟩,aa (fun y=>?_) (fun y=>?_)⟩
   ·have y:cg (lF N i O l) (i+1) (sF N i O l)=false:=by simpa using y
    rw [if_neg (by rw [y];exact fun w=>by cases w)] at i4
    rw [←i4]
    repeat' (first | exact trivial | rfl | apply And.intro)
   ·have y:cg (lF N i O l) (i+1) (sF N i O l)=true:=by simpa using y
    rw [if_pos y] at i4
    refine ⟨aN (by omega) (by omega),(i+1,bS (lF N i O l) (i+1) (sF N i O l),bF code k bb N i O l b),⟨q,by rw [cX,pj];exact i2,by rw [ld];exact i3,by rw [ci];exact i4⟩,by simp only;omega,by repeat' (first | exact trivial | rfl | apply And.intro)⟩
 ·replace q:¬(i:Int) < (N:Int):=fun z=>q (Xd z)
  have q:i=N:=by omega
  subst q
  have e:(aL code k).ops.drop i=[]:=List.drop_eq_nil_of_le (by omega)
  rw [e] at i4
  unfold iy at i4
  rw [←i4]
  refine ⟨⟨by omega,by omega⟩,by omega,trivial,hb _ ⟨1,bb.names⟩,by repeat' (first | exact trivial | rfl | apply And.intro)⟩
theorem tY (l:List Chnk) (n:Int) (hl:Wf (.lst (.st .chunk)) l) (ho:gR l) :
  if decide (n < (0:Int))=true then True/\(310:Int)=fq l n/\True else if decide ((1000000:Int) < n)=true then True/\(310:Int)=fq l n/\True else if decide ((↑(List.length l):Int)=(0:Int))=true then True/\(310:Int)=fq l n/\True else if decide ((4096:Int) < (↑(List.length l):Int))=true then True/\(310:Int)=fq l n/\True else ((0:Int)<=(0:Int)/\(0:Int) < (↑(List.length l):Int))/\if (!decide ((List.getD l (Int.toNat (0:Int)) (dfl (Ty.st SN.chunk))).args=(0:Int)))=true then True/\(310:Int)=fq l n/\True else (∃(x:Nat × Int),(x.1<=List.length l/\(0:Int)<=x.2/\x.2<=(4096:Int)/\fe (List.drop x.1 l) x.2=fe l (0:Int)/\∀(j:Nat),j < x.1→List.length (List.getD l j default).ops<=(4096:Nat))/\(0:Int)=(↑x.1:Int)/\(0:Int)=x.2/\l=l/\n=n/\false=false/\l=l/\(↑(List.length l):Int)=(↑(List.length l):Int)/\True)/\∀(x:Nat × Int),(x.1<=List.length l/\(0:Int)<=x.2/\x.2<=(4096:Int)/\fe (List.drop x.1 l) x.2=fe l (0:Int)/\∀(j:Nat),j < x.1→List.length (List.getD l j default).ops<=(4096:Nat))→if decide ((↑x.1:Int) < (↑(List.length l):Int))=true then ((0:Int)<=(↑x.1:Int)/\(↑x.1:Int) < (↑(List.length l):Int))/\if decide ((List.getD l (Int.toNat (↑x.1:Int)) (dfl (Ty.st SN.chunk))).args < (0:Int))=true then True/\(310:Int)=fq l n/\True else if decide ((4096:Int) < (List.getD l (Int.toNat (↑x.1:Int)) (dfl (Ty.st SN.chunk))).args)=true then True/\(310:Int)=fq l n/\True else inR IntKind.i64 ((4096:Int) - x.2)/\if decide ((4096:Int) - x.2 < (↑(List.length (List.getD l (Int.toNat (↑x.1:Int)) (dfl (Ty.st SN.chunk))).ops):Int))=true then True/\(310:Int)=fq l n/\True else inR IntKind.i64 (x.2+(↑(List.length (List.getD l (Int.toNat (↑x.1:Int)) (dfl (Ty.st SN.chunk))).ops):Int))/\inR IntKind.i64 ((↑x.1:Int)+(1:Int))/\∃(y:Nat × Int),(y.1<=List.length l/\(0:Int)<=y.2/\y.2<=(4096:Int)/\fe (List.drop y.1 l) y.2=fe l (0:Int)/\∀(j:Nat),j < y.1→List.length (List.getD l j default).ops<=(4096:Nat))/\List.length l - y.1 < List.length l - x.1/\(↑x.1:Int)+(1:Int)=(↑y.1:Int)/\x.2+(↑(List.length (List.getD l (Int.toNat (↑x.1:Int)) (dfl (Ty.st SN.chunk))).ops):Int)=y.2/\l=l/\n=n/\false=false/\l=l/\(↑(List.length l):Int)=(↑(List.length l):Int)/\True else ((0:Int)<=(↑(List.length l):Int)/\(↑(List.length l):Int)<=(↑(List.length l):Int)/\(↑(List.length l):Int) *(↑(16:Nat):Int)<=(140737488355328:Int))/\(∃(x_1:Nat),x_1<=List.length l/\(0:Int)=(↑x_1:Int)/\(↑x.1:Int)=(↑x.1:Int)/\x.2=x.2/\l=l/\n=n/\false=false/\l=l/\(↑(List.length l):Int)=(↑(List.length l):Int)/\false=false/\(↑(Int.toNat (↑(List.length l):Int)):Int)=(↑(Int.toNat (↑(List.length l):Int)):Int)/\List.replicate (Int.toNat (↑(List.length l):Int)) {things:=(0:Int),names:=(0:Int):Stt}=cE (List.length l) x_1/\l=l/\Int.toNat (↑(List.length l):Int)=Int.toNat (↑(List.length l):Int)/\True)/\∀(x_1:Nat),x_1<=List.length l→if decide ((↑x_1:Int) < (↑(Int.toNat (↑(List.length l):Int)):Int))=true then ((0:Int)<=(↑x_1:Int)/\(↑x_1:Int) < (↑(Int.toNat (↑(List.length l):Int)):Int))/\Int.toNat (↑x_1:Int) < List.length (cE (List.length l) x_1)/\inR IntKind.i64 ((↑x_1:Int)+(1:Int))/\∃(y:Nat),y<=List.length l/\List.length l - y < List.length l - x_1/\(↑x_1:Int)+(1:Int)=(↑y:Int)/\(↑x.1:Int)=(↑x.1:Int)/\x.2=x.2/\l=l/\n=n/\false=false/\l=l/\(↑(List.length l):Int)=(↑(List.length l):Int)/\false=false/\(↑(Int.toNat (↑(List.length l):Int)):Int)=(↑(Int.toNat (↑(List.length l):Int)):Int)
  /\List.set (cE (List.length l) x_1) (Int.toNat (↑x_1:Int)) {things:=(-1:Int),names:=(List.getD (cE (List.length l) x_1) (Int.toNat (↑x_1:Int)) (dfl (Ty.st SN.stt))).names:Stt}=cE (List.length l) y/\l=l/\Int.toNat (↑(List.length l):Int)=Int.toNat (↑(List.length l):Int)/\True else ((0:Int)<=(0:Int)/\(0:Int) < (↑(Int.toNat (↑(List.length l):Int)):Int))/\Int.toNat (0:Int) < List.length (cE (List.length l) x_1)/\(∃(x_2:Nat × List Stt),(x_2.1<=List.length l/\List.length x_2.2=List.length l/\lf l (List.length l - x_2.1) x_2.1 x_2.2=lf l (List.length l) (0:Nat) (bg0 (List.length l) n))/\(0:Int)=(↑x_2.1:Int)/\(↑x_1:Int)=(↑x_1:Int)/\(↑x.1:Int)=(↑x.1:Int)/\x.2=x.2/\l=l/\n=n/\false=false/\l=l/\(↑(List.length l):Int)=(↑(List.length l):Int)/\false=false/\(↑(Int.toNat (↑(List.length l):Int)):Int)=(↑(Int.toNat (↑(List.length l):Int)):Int)/\false=false/\(↑(List.length l):Int)=(↑(List.length l):Int)/\List.set (cE (List.length l) x_1) (Int.toNat (0:Int)) {things:=(0:Int),names:=n:Stt}=x_2.2/\l=l/\Int.toNat (↑(List.length l):Int)=Int.toNat (↑(List.length l):Int)/\True)/\∀(x_2:Nat × List Stt),x_2.1<=List.length l/\List.length x_2.2=List.length l/\lf l (List.length l - x_2.1) x_2.1 x_2.2=lf l (List.length l) (0:Nat) (bg0 (List.length l) n)→if decide ((↑x_2.1:Int) < (↑(List.length l):Int))=true then ((0:Int)<=(↑x_2.1:Int)/\(↑x_2.1:Int) < (↑(Int.toNat (↑(List.length l):Int)):Int))/\Int.toNat (↑x_2.1:Int) < List.length x_2.2/\if decide ((List.getD x_2.2 (Int.toNat (↑x_2.1:Int)) (dfl (Ty.st SN.stt))).things < (0:Int))=true then True/\(310:Int)=fq l n/\True else zl l (↑x_2.1:Int) x_2.2 (Int.toNat (↑(List.length l):Int))/\if (!(aE l (↑x_2.1:Int) x_2.2).1)=true then True/\(310:Int)=fq l n/\True else inR IntKind.i64 ((↑x_2.1:Int)+(1:Int))/\∃(y:Nat × List Stt),(y.1<=List.length l/\List.length y.2=List.length l/\lf l (List.length l - y.1) y.1 y.2=lf l (List.length l) (0:Nat) (bg0 (List.length l) n))/\List.length l - y.1 < List.length l - x_2.1/\(↑x_2.1:Int)+(1:Int)=(↑y.1:Int)/\(↑x_1:Int)=(↑x_1:Int)/\(↑x.1:Int)=(↑x.1:Int)/\x.2=x.2/\l=l/\n=n/\false=false/\l=l/\(↑(List.length l):Int)=(↑(List.length l):Int)/\false=false/\(↑(Int.toNat (↑(List.length l):Int)):Int)=(↑(Int.toNat (↑(List.length l):Int)):Int)/\false=false/\(↑(List.length l):Int)=(↑(List.length l):Int)/\(aE l (↑x_2.1:Int) x_2.2).2=y.2/\l=l/\Int.toNat (↑(List.length l):Int)=Int.toNat (↑(List.length l):Int)/\True else True/\(0:Int)=fq l n/\True:=by
 have dC:dfl (Ty.st SN.chunk)=(default:Chnk):=rfl
 have dS:dfl (Ty.st SN.stt)=(default:Stt):=rfl
 simp only [dC,dS,Int.toNat_natCast,Int.toNat_zero]
 have bad:n < 0∨1000000 < n∨l.length=0∨4096 < l.length∨(l.getD 0 default).args≠0→fq l n=310:=fun h=>by unfold fq;rw [if_pos h]
 refine aa (fun h=>?_) (fun h=>?_)
 ·rw [bad (.inl (Xo h))];repeat' (first | exact trivial | rfl | apply And.intro)
 have h1:¬n < 0:=fun z=>h (Xd z)
 refine aa (fun h=>?_) (fun h=>?_)
 ·rw [bad (.inr (.inl (Xo h)))];repeat' (first | exact trivial | rfl | apply And.intro)
 have h2:¬1000000 < n:=fun z=>h (Xd z)
 refine aa (fun h=>?_) (fun h=>?_)
 ·have:=Xo h
  rw [bad (.inr (.inr (.inl (by omega))))];repeat' (first | exact trivial | rfl | apply And.intro)
 have h3:¬l.length=0:=fun z=>h (Xd (by omega))
 refine aa (fun h=>?_) (fun h=>?_)
 ·have:=Xo h
  rw [bad (.inr (.inr (.inr (.inl (by omega)))))];repeat' (first | exact trivial | rfl | apply And.intro)
 have h4:¬4096 < l.length:=fun z=>h (Xd (by omega))
 refine ⟨⟨by omega,by omega⟩,aa (fun h=>?_) (fun h=>?_)⟩
 ·have h:(l.getD 0 default).args≠0:=by simpa using h
  rw [bad (.inr (.inr (.inr (.inr h))))];repeat' (first | exact trivial | rfl | apply And.intro)
 have h5:(l.getD 0 default).args=0:=by simpa using h
 have e0:fq l n=if fe l 0=false then 310 else if lf l l.length 0 (bg0 l.length n)=true then 0 else 310:=by
  unfold fq
  rw [if_neg (fun z=>z.elim h1 (fun z=>z.elim h2 (fun z=>z.elim h3 (fun z=>z.elim h4 (fun z=>z h5)))))]
 clear bad
 generalize fq l n=vf at *
 refine ⟨⟨(0,0),⟨Nat.zero_le _,Int.le_refl _,by omega,rfl,fun j hj=>absurd hj (Nat.not_lt_zero _)⟩,by repeat' (first | exact trivial | rfl | apply And.intro)⟩,?_⟩
 rintro ⟨i,z⟩ ⟨i1,i2,i3,i4,i5⟩
 simp only at i1 i2 i3 i4 i5 ⊢
 refine aa (fun q=>?_) (fun q=>?_)
 ·have q:=Xo q
  have q:i < l.length:=by omega
  rw [fG l i (default:Chnk) q] at i4
  have i6:¬((l.getD i default).args < 0∨4096 < (l.getD i default).args∨4096 - z < ((l.getD i default).ops.length:Int))→fe (l.drop (i+1)) (z+(l.getD i default).ops.length)=fe l 0:=fun w=>by
   rw [←i4]
   conv=>rhs;unfold fe
   rw [if_neg w]
  have i7:(l.getD i default).args < 0∨4096 < (l.getD i default).args∨4096 - z < ((l.getD i default).ops.length:Int)→vf=310:=fun w=>by
   have e:fe l 0=false:=by rw [←i4];unfold fe;rw [if_pos w]
   rw [e0,if_pos e]
  refine ⟨⟨by omega,by omega⟩,aa (fun w=>?_) (fun w=>?_)⟩
  ·rw [i7 (.inl (Xo w))];repeat' (first | exact trivial | rfl | apply And.intro)
  have w1:¬(l.getD i default).args < 0:=fun z=>w (Xd z)
  refine aa (fun w=>?_) (fun w=>?_)
  ·rw [i7 (.inr (.inl (Xo w)))];repeat' (first | exact trivial | rfl | apply And.intro)
  have w2:¬4096 < (l.getD i default).args:=fun z=>w (Xd z)
  refine ⟨aN (by omega) (by omega),aa (fun w=>?_) (fun w=>?_)⟩
  ·rw [i7 (.inr (.inr (Xo w)))];repeat' (first | exact trivial | rfl | apply And.intro)
  have w3:¬4096 - z < ((l.getD i default).ops.length:Int):=fun z=>w (Xd z)
  refine ⟨aN (by omega) (by omega),aN (by omega) (by omega),(i+1,z+(l.getD i default).ops.length),⟨q,by simp only;omega,by simp only;omega,i6 (by omega),fun j hj=>?_⟩,by simp only;omega,by repeat' (first | exact trivial | rfl | apply And.intro)⟩
  simp only at hj
  by_cases hji:j=i
  ·subst hji;omega
  ·exact i5 j (by omega)
 have q:¬(i:Int) < (l.length:Int):=fun z=>q (Xd z)
 have q:i=l.length:=by omega
 subst q
 rw [List.drop_length] at i4
 have e1:fe l 0=true:=by rw [←i4];rfl
 rw [e1,if_neg (by decide)] at e0
 generalize hR:lf l l.length 0 (bg0 l.length n)=R at *
 refine ⟨⟨by omega,by omega,by omega⟩,⟨0,Nat.zero_le _,rfl,by repeat' (first | exact trivial | rfl | apply And.intro)⟩,?_⟩
 intro x hx
 refine aa (fun q=>?_) (fun q=>?_)
 ·have q:=Xo q
  have q:x < l.length:=by omega
  refine ⟨⟨by omega,by omega⟩,by rw [dA hx];exact q,aN (by omega) (by omega),x+1,by omega,by omega,by omega,?_⟩
  rw [pn q]
  have e:(cE l.length x).set x {things:=-1,names:=({things:=0,names:=0}:Stt).names}=cE l.length (x+1):=s8 q default
  repeat' (first | exact trivial | exact e | rfl | apply And.intro)
 have q:¬(x:Int) < (l.length:Int):=fun z=>q (Xd z)
 have q:x=l.length:=by omega
 subst q
 refine ⟨⟨by omega,by omega⟩,by rw [dA (Nat.le_refl _)];omega,⟨(0,bg0 l.length n),⟨Nat.zero_le _,tV _ _,hR⟩,by repeat' (first | exact trivial | rfl | apply And.intro)⟩,?_⟩
 rintro ⟨k,bs⟩ ⟨k1,k2,k3⟩
 simp only at k1 k2 k3 ⊢
 refine aa (fun q=>?_) (fun q=>?_)
 ·have q:=Xo q
  have q:k < l.length:=by omega
  have ek:l.length - k=(l.length - (k+1))+1:=by omega
  rw [ek] at k3
  unfold lf at k3
  refine ⟨⟨by omega,by omega⟩,by omega,aa (fun w=>?_) (fun w=>?_)⟩
  ·rw [if_pos (Xo w)] at k3
   rw [←k3] at e0
   rw [e0]
   repeat' (first | exact trivial | rfl | apply And.intro)
  have w:¬(bs.getD k default).things < 0:=fun z=>w (Xd z)
  rw [if_neg w] at k3
  have hm:aL l (k:Int)∈l:=by unfold aL;rw [Int.toNat_natCast];exact ry l k default q
  refine ⟨⟨by omega,by omega,k2,rfl,by unfold aA aL;rw [Int.toNat_natCast];exact i5 k q,fun o hO=>zo ho hm hO⟩,aa (fun v=>?_) (fun v=>?_)⟩
  ·rw [if_neg (fun z=>by rw [z] at v;cases v)] at k3
   rw [←k3] at e0
   rw [e0]
   repeat' (first | exact trivial | rfl | apply And.intro)
  ·have v:(aE l (k:Int) bs).1=true:=by simpa using v
   rw [if_pos v] at k3
   refine ⟨aN (by omega) (by omega),(k+1,(aE l (k:Int) bs).2),⟨q,by rw [oM];exact k2,k3⟩,by simp only;omega,by repeat' (first | exact trivial | rfl | apply And.intro)⟩
 ·have q:¬(k:Int) < (l.length:Int):=fun z=>q (Xd z)
  have q:k=l.length:=by omega
  subst q
  rw [Nat.sub_self] at k3
  rw [←k3] at e0
  rw [e0]
  repeat' (first | exact trivial | rfl | apply And.intro)
theorem zy (s:Str) (p:Int) (b:Bool)  :
  if b=true then True/\(0:Int)=(tkN s p b).1/\s=s/\p=(tkN s p b).2.1/\true=(tkN s p b).2.2/\True else if (!decide ((aq s p).2.2=(0:Int)))=true then True/\(0:Int)=(tkN s p b).1/\s=s/\p=(tkN s p b).2.1/\true=(tkN s p b).2.2/\True else if decide ((9223372036854775807:Int) < (aq s p).1)=true then True/\(0:Int)=(tkN s p b).1/\s=s/\p=(tkN s p b).2.1/\true=(tkN s p b).2.2/\True else inR IntKind.i64 (aq s p).1/\True/\(aq s p).1=(tkN s p b).1/\s=s/\(aq s p).2.1=(tkN s p b).2.1/\b=(tkN s p b).2.2/\True:=by
 obtain ⟨h1,h2,h3⟩:=jw s p
 unfold InU at h1
 unfold tkN
 refine aa (fun h=>?_) (fun h=>?_)
 ·rw [if_pos (.inl h)];exact ⟨trivial,rfl,rfl,rfl,rfl,trivial⟩
 refine aa (fun k=>?_) (fun k=>?_)
 ·have k:(aq s p).2.2≠0:=by simpa using k
  rw [if_pos (.inr (.inl k))];exact ⟨trivial,rfl,rfl,rfl,rfl,trivial⟩
 have k:(aq s p).2.2=0:=by simpa using k
 refine aa (fun m=>?_) (fun m=>?_)
 ·rw [if_pos (.inr (.inr (Xo m)))];exact ⟨trivial,rfl,rfl,rfl,rfl,trivial⟩
 have m:¬9223372036854775807 < (aq s p).1:=fun q=>m (Xd q)
 rw [if_neg (fun z=>z.elim h (fun z=>z.elim (fun z=>z k) m))]
 exact ⟨aN (by omega) (by omega),trivial,rfl,rfl,rfl,rfl,trivial⟩
theorem As (s:Str) (p:Int) (b:Bool) (ho:AtS s p/\s.length<=68719476736) :
  if (tkN s (tkN s p b).2.1 (tkN s p b).2.2).2.2=true then True/\(tkN s p b).1=(opF s p b).1.kind/\(tkN s (tkN s p b).2.1 (tkN s p b).2.2).1=(opF s p b).1.n/\[]=(opF s p b).1.name/\(opF s p b).1.names=[]/\(opF s p b).1.tos=[]/\(0:Int)=(opF s p b).1.pos/\s=s/\(tkN s (tkN s p b).2.1 (tkN s p b).2.2).2.1=(opF s p b).2.1/\true=(opF s p b).2.2/\True else if (!decide ((aC s (tkN s (tkN s p b).2.1 (tkN s p b).2.2).2.1).2.2=(0:Int)))=true then True/\(tkN s p b).1=(opF s p b).1.kind/\(tkN s (tkN s p b).2.1 (tkN s p b).2.2).1=(opF s p b).1.n/\[]=(opF s p b).1.name/\(opF s p b).1.names=[]/\(opF s p b).1.tos=[]/\(0:Int)=(opF s p b).1.pos/\s=s/\(tkN s (tkN s p b).2.1 (tkN s p b).2.2).2.1=(opF s p b).2.1/\true=(opF s p b).2.2/\True else List.length s<=(1099511627776:Nat)/\if (!decide ((aV s (aC s (tkN s (tkN s p b).2.1 (tkN s p b).2.2).2.1).2.1).2.2=(0:Int)))=true then True/\(tkN s p b).1=(opF s p b).1.kind/\(tkN s (tkN s p b).2.1 (tkN s p b).2.2).1=(opF s p b).1.n/\[]=(opF s p b).1.name/\(opF s p b).1.names=[]/\(opF s p b).1.tos=[]/\(0:Int)=(opF s p b).1.pos/\s=s/\(tkN s (tkN s p b).2.1 (tkN s p b).2.2).2.1=(opF s p b).2.1/\true=(opF s p b).2.2/\True else (∃(x:Nat × Int × List Int × Int × Bool),(AtS s x.2.2.2.1/\x.2.1<=(9223372036854775807:Int)/\cH s x.2.2.2.1 x.2.2.2.2<=(↑x.1:Int)/\(↑(List.length x.2.2.1):Int)<=x.2.2.2.1+aQ x.2.2.2.2 (1:Int)/\toL s x.1 x.2.1 x.2.2.1 x.2.2.2.1 x.2.2.2.2=op6 s p b)/\(tkN s (aV s (aC s (tkN s (tkN s p b).2.1 (tkN s p b).2.2).2.1).2.1).2.1 (tkN s (tkN s p b).2.1 (tkN s p b).2.2).2.2).1=x.2.1/\(aC s (tkN s (tkN s p b).2.1 (tkN s p b).2.2).2.1).1=(aC s (tkN s (tkN s p b).2.1 (tkN s p b).2.2).2.1).1/\(aV s (aC s (tkN s (tkN s p b).2.1 (tkN s p b).2.2).2.1).2.1).2.1=(aV s (aC s (tkN s (tkN s p b).2.1 (tkN s p b).2.2).2.1).2.1).2.1/\(aV s (aC s (tkN s (tkN s p b).2.1 (tkN s p b).2.2).2.1).2.1).2.2=(aV s (aC s (tkN s (tkN s p b).2.1 (tkN s p b).2.2).2.1).2.1).2.2/\false=false/\(aV s (aC s (tkN s (tkN s p b).2.1 (tkN s p b).2.2).2.1).2.1).1=(aV s (aC s (tkN s (tkN s p b).2.1 (tkN s p b).2.2).2.1).2.1).1/\false=false/\(tkN s p b).1=(op1 s p b).1/\(tkN s (tkN s p b).2.1 (tkN s p b).2.2).1=(op2 s p b).1/\(aC s (tkN s (tkN s p b).2.1 (tkN s p b).2.2).2.1).1=(op3 s p b).1/\(aV s (aC s (tkN s (tkN s p b).2.1 (tkN s p b).2.2).2.1).2.1).1=(op4 s p b).1/\x.2.2.1=[]/\(0:Int)=(0:Int)/\s=s/\(tkN s (aV s (aC s (tkN s (tkN s p b).2.1 (tkN s p b).2.2).2.1).2.1).2.1 (tkN s (tkN s p b).2.1 (tkN s p b).2.2).2.2).2.1=x.2.2.2.1/\(tkN s (aV s (aC s (tkN s (tkN s p b).2.1 (tkN s p b).2.2).2.1).2.1).2.1 (tkN s (tkN s p b).2.1 (tkN s p b).2.2).2.2).2.2=x.2.2.2.2/\List.length x.2.2.1=(0:Nat)/\(0:Int)=(0:Int)/\(0:Int)=(0:Int)/\fm UInt8=fm UInt8/\(0:Int)=(0:Int)/\True)/\∀(x:Nat × Int × List Int × Int × Bool),AtS s x.2.2.2.1/\x.2.1<=(9223372036854775807:Int)/\cH s x.2.2.2.1 x.2.2.2.2<=(↑x.1:Int)/\(↑(List.length x.2.2.1):Int)<=x.2.2.2.1+aQ x.2.2.2.2 (1:Int)
  /\toL s x.1 x.2.1 x.2.2.1 x.2.2.2.1 x.2.2.2.2=op6 s p b→if decide ((0:Int) < x.2.1)=true then if (!x.2.2.2.2)=true then (List.length x.2.2.1=List.length x.2.2.1/\(List.length x.2.2.1+List.length [(tkN s x.2.2.2.1 x.2.2.2.2).1]) *(8:Nat)<=(140737488355328:Nat))/\inR IntKind.i64 (x.2.1 - (1:Int))/\∃(y:Nat × Int × List Int × Int × Bool),(AtS s y.2.2.2.1/\y.2.1<=(9223372036854775807:Int)/\cH s y.2.2.2.1 y.2.2.2.2<=(↑y.1:Int)/\(↑(List.length y.2.2.1):Int)<=y.2.2.2.1+aQ y.2.2.2.2 (1:Int)/\toL s y.1 y.2.1 y.2.2.1 y.2.2.2.1 y.2.2.2.2=op6 s p b)/\y.1 < x.1/\x.2.1 - (1:Int)=y.2.1/\(aC s (tkN s (tkN s p b).2.1 (tkN s p b).2.2).2.1).1=(aC s (tkN s (tkN s p b).2.1 (tkN s p b).2.2).2.1).1/\(aV s (aC s (tkN s (tkN s p b).2.1 (tkN s p b).2.2).2.1).2.1).2.1=(aV s (aC s (tkN s (tkN s p b).2.1 (tkN s p b).2.2).2.1).2.1).2.1/\(aV s (aC s (tkN s (tkN s p b).2.1 (tkN s p b).2.2).2.1).2.1).2.2=(aV s (aC s (tkN s (tkN s p b).2.1 (tkN s p b).2.2).2.1).2.1).2.2/\false=false/\(aV s (aC s (tkN s (tkN s p b).2.1 (tkN s p b).2.2).2.1).2.1).1=(aV s (aC s (tkN s (tkN s p b).2.1 (tkN s p b).2.2).2.1).2.1).1/\false=false/\(op1 s p b).1=(op1 s p b).1/\(op2 s p b).1=(op2 s p b).1/\(op3 s p b).1=(op3 s p b).1/\(op4 s p b).1=(op4 s p b).1/\x.2.2.1++[(tkN s x.2.2.2.1 x.2.2.2.2).1]=y.2.2.1/\(0:Int)=(0:Int)/\s=s/\(tkN s x.2.2.2.1 x.2.2.2.2).2.1=y.2.2.2.1/\(tkN s x.2.2.2.1 x.2.2.2.2).2.2=y.2.2.2.2/\List.length (x.2.2.1++[(tkN s x.2.2.2.1 x.2.2.2.2).1])=List.length y.2.2.1/\(0:Int)=(0:Int)/\(0:Int)=(0:Int)/\fm UInt8=fm UInt8/\(0:Int)=(0:Int)/\True else True/\(op1 s p b).1=(opF s p b).1.kind/\(op2 s p b).1=(opF s p b).1.n/\(op3 s p b).1=(opF s p b).1.name/\(op4 s p b).1=(opF s p b).1.names/\x.2.2.1=(opF s p b).1.tos/\(tkN s x.2.2.2.1 x.2.2.2.2).1=(opF s p b).1.pos/\s=s/\(tkN s x.2.2.2.1 x.2.2.2.2).2.1=(opF s p b).2.1/\(tkN s x.2.2.2.1 x.2.2.2.2).2.2=(opF s p b).2.2/\True else True/\(op1 s p b).1=(opF s p b).1.kind/\(op2 s p b).1=(opF s p b).1.n/\(op3 s p b).1=(opF s p b).1.name/\(op4 s p b).1=(opF s p b).1.names/\x.2.2.1=(opF s p b).1.tos/\(tkN s x.2.2.2.1 x.2.2.2.2).1=(opF s p b).1.pos/\s=s/\(tkN s x.2.2.2.1 x.2.2.2.2).2.1=(opF s p b).2.1/\(tkN s x.2.2.2.1 x.2.2.2.2).2.2=(opF s p b).2.2/\True:=by
 obtain ⟨ha,hl⟩:=ho
 have q2:tkN s (tkN s p b).2.1 (tkN s p b).2.2=op2 s p b:=rfl
 have q3:aC s (op2 s p b).2.1=op3 s p b:=rfl
 have q4:aV s (op3 s p b).2.1=op4 s p b:=rfl
 have q5:tkN s (op4 s p b).2.1 (op2 s p b).2.2=op5 s p b:=rfl
 have q1:tkN s p b=op1 s p b:=rfl
 simp only [q2,q3,q4,q5]
 simp only [q1]
 refine aa (fun h=>?_) (fun h=>?_)
 ·have e:opF s p b=(⟨(op1 s p b).1,(op2 s p b).1,[],[],[],0⟩,(op2 s p b).2.1,true):=by unfold opF;rw [if_pos (.inl h)]
  rw [e];repeat' (first | exact trivial | rfl | apply And.intro)
 refine aa (fun k=>?_) (fun k=>?_)
 ·have k:(op3 s p b).2.2≠0:=by simpa using k
  have e:opF s p b=(⟨(op1 s p b).1,(op2 s p b).1,[],[],[],0⟩,(op2 s p b).2.1,true):=by unfold opF;rw [if_pos (.inr k)]
  rw [e];repeat' (first | exact trivial | rfl | apply And.intro)
 have k:(op3 s p b).2.2=0:=by simpa using k
 have n1:¬((op2 s p b).2.2=true∨(op3 s p b).2.2≠0):=fun z=>z.elim h (fun z=>z k)
 refine ⟨by omega,aa (fun m=>?_) (fun m=>?_)⟩
 ·have m:(op4 s p b).2.2≠0:=by simpa using m
  have e:opF s p b=(⟨(op1 s p b).1,(op2 s p b).1,[],[],[],0⟩,(op2 s p b).2.1,true):=by unfold opF;rw [if_neg n1,if_pos m]
  rw [e];repeat' (first | exact trivial | rfl | apply And.intro)
 have m:(op4 s p b).2.2=0:=by simpa using m
 have e:opF s p b=(⟨(op1 s p b).1,(op2 s p b).1,(op3 s p b).1,(op4 s p b).1,(op6 s p b).1,(op7 s p b).1⟩,(op7 s p b).2.1,(op7 s p b).2.2):=by unfold opF;rw [if_neg n1,if_neg (fun z=>z m)]
 obtain ⟨g1,g2⟩:=AT ha k m
 have fin:∀(l:List Int) (q:Int) (c:Bool),(l,q,c)=op6 s p b→True/\(op1 s p b).1=(opF s p b).1.kind/\(op2 s p b).1=(opF s p b).1.n/\(op3 s p b).1=(opF s p b).1.name/\(op4 s p b).1=(opF s p b).1.names/\
   l=(opF s p b).1.tos/\(tkN s q c).1=(opF s p b).1.pos/\True/\(tkN s q c).2.1=(opF s p b).2.1/\(tkN s q c).2.2=(opF s p b).2.2/\True:=by
  intro l q c hq
  have e7:tkN s q c=op7 s p b:=by unfold op7;rw [←hq]
  rw [e,e7]
  simp only [←hq]
  repeat' (first | exact trivial | rfl | apply And.intro)
 refine ⟨⟨(s.length+2,(op5 s p b).1,[],(op5 s p b).2.1,(op5 s p b).2.2),⟨g1,g2,gQ g1,by have:=g1.1;simp only [List.length_nil];unfold aQ;split <;> omega,rfl⟩,by repeat' (first | exact trivial | rfl | apply And.intro)⟩,?_⟩
 rintro ⟨f,n,l,q,c⟩ ⟨i1,i2,i3,i4,i5⟩
 simp only at i1 i2 i3 i4 i5 ⊢
 cases f with
 | zero=>have:=fH (b:=c) i1;omega
 | succ f=>
 unfold toL at i5
 refine aa (fun r=>?_) (fun r=>?_)
 ·replace r:=Xo r
  refine aa (fun t=>?_) (fun t=>?_)
  ·have t:c=false:=by simpa using t
   subst t
   rw [if_pos ⟨r,rfl⟩] at i5
   obtain ⟨j1,j2,j3,j4,j5⟩:=gP (b:=false) i1
   have hs:=eF i1 j3 (fun q=>(j5 q).2)
   have i6:=i1.2
   simp only [aQ,Bool.false_eq_true,if_false] at i4
   refine ⟨⟨by trivial,by simp only [List.length_singleton];omega⟩,aN (by omega) (by omega),(f,n - 1,l++[(tkN s q false).1],(tkN s q false).2.1,(tkN s q false).2.2),⟨j3,by simp only;omega,by simp only;omega,?_,i5⟩,by simp,by repeat' (first | exact trivial | rfl | apply And.intro)⟩
   simp only [List.length_append,List.length_singleton]
   unfold aQ
   split
   ·omega
   ·rename_i z
    have:=(j5 (Bool.eq_false_iff.2 z)).2
    omega
  ·have t:c=true:=by simpa using t
   rw [if_neg (fun z=>by rw [t] at z;cases z.2)] at i5
   exact fin l q c i5
 ·replace r:¬0 < n:=fun z=>r (Xd z)
  rw [if_neg (fun z=>r z.1)] at i5
  exact fin l q c i5
theorem yo (n:Int)  :
  True/\eE (IntKind.wrap IntKind.u64 n)=bU n/\True:=by
 exact ⟨trivial,rfl,trivial⟩
theorem tZ (l:List Chnk) (hl:Wf (.lst (.st .chunk)) l) (ho:gR l) :
  gR l/\if (!decide (fq l (1000:Int)=(0:Int)))=true then True/\[]=(dT l).1/\(310:Int)=(dT l).2/\True else (∃(x:Nat),x<=List.length l/\(0:Int)=(↑x:Int)/\bU (↑(List.length l):Int)=prC l x/\l=l/\fm UInt8=fm UInt8/\(0:Int)=(0:Int)/\false=false/\l=l/\(↑(List.length l):Int)=(↑(List.length l):Int)/\True)/\∀(x:Nat),x<=List.length l→if decide ((↑x:Int) < (↑(List.length l):Int))=true then ((0:Int)<=(↑x:Int)/\(↑x:Int) < (↑(List.length l):Int))/\List.length (bU (List.getD l (Int.toNat (↑x:Int)) (dfl (Ty.st SN.chunk))).args)+List.length (bU (↑(List.length (List.getD l (Int.toNat (↑x:Int)) (dfl (Ty.st SN.chunk))).ops):Int))<=(9223372036854775807:Nat)/\List.length (prC l x)+List.length (bU (List.getD l (Int.toNat (↑x:Int)) (dfl (Ty.st SN.chunk))).args++bU (↑(List.length (List.getD l (Int.toNat (↑x:Int)) (dfl (Ty.st SN.chunk))).ops):Int))<=(9223372036854775807:Nat)/\(∃(x_1:Nat),x_1<=List.length (List.getD l (Int.toNat (↑x:Int)) default).ops/\(0:Int)=(↑x_1:Int)/\prC l x++(bU (List.getD l (Int.toNat (↑x:Int)) (dfl (Ty.st SN.chunk))).args++bU (↑(List.length (List.getD l (Int.toNat (↑x:Int)) (dfl (Ty.st SN.chunk))).ops):Int))=prC l (Int.toNat (↑x:Int))++prO (List.getD l (Int.toNat (↑x:Int)) default) x_1/\(↑x:Int)=(↑x:Int)/\l=l/\fm UInt8=fm UInt8/\(0:Int)=(0:Int)/\false=false/\l=l/\(↑(List.length l):Int)=(↑(List.length l):Int)/\true=true/\(List.getD l (Int.toNat (↑x:Int)) (dfl (Ty.st SN.chunk))).ops=(List.getD l (Int.toNat (↑x:Int)) (dfl (Ty.st SN.chunk))).ops/\(↑(List.length (List.getD l (Int.toNat (↑x:Int)) (dfl (Ty.st SN.chunk))).ops):Int)=(↑(List.length (List.getD l (Int.toNat (↑x:Int)) (dfl (Ty.st SN.chunk))).ops):Int)/\List.getD l (Int.toNat (↑x:Int)) (dfl (Ty.st SN.chunk))=List.getD l (Int.toNat (↑x:Int)) (dfl (Ty.st SN.chunk))/\True)/\∀(x_1:Nat),x_1<=List.length (List.getD l (Int.toNat (↑x:Int)) default).ops→if decide ((↑x_1:Int) < (↑(List.length (List.getD l (Int.toNat (↑x:Int)) (dfl (Ty.st SN.chunk))).ops):Int))=true then ((0:Int)<=(↑x_1:Int)/\(↑x_1:Int) < (↑(List.length (List.getD l (Int.toNat (↑x:Int)) (dfl (Ty.st SN.chunk))).ops):Int))/\List.length (bU (List.getD (List.getD l (Int.toNat (↑x:Int)) (dfl (Ty.st SN.chunk))).ops (Int.toNat (↑x_1:Int)) (dfl (Ty.st SN.op))).kind)+List.length (bU (List.getD (List.getD l (Int.toNat (↑x:Int)) (dfl (Ty.st SN.chunk))).ops (Int.toNat (↑x_1:Int)) (dfl (Ty.st SN.op))).n)<=(9223372036854775807:Nat)/\List.length (List.getD (List.getD l (Int.toNat (↑x:Int)) (dfl (Ty.st SN.chunk))).ops (Int.toNat (↑x_1:Int)) (dfl (Ty.st SN.op))).name<=(140737488355328:Nat)/\List.length (bU (List.getD (List.getD l (Int.toNat (↑x:Int)) (dfl (Ty.st SN.chunk))).ops (Int.toNat (↑x_1:Int)) (dfl (Ty.st SN.op))).kind++bU (List.getD (List.getD l (Int.toNat (↑x:Int)) (dfl (Ty.st SN.chunk))).ops (Int.toNat (↑x_1:Int)) (dfl (Ty.st SN.op))).n)+List.length (bR (List.getD (List.getD l (Int.toNat (↑x:Int)) (dfl (Ty.st SN.chunk))).ops (Int.toNat (↑x_1:Int)) (dfl (Ty.st SN.op))).name)<=(9223372036854775807:Nat)/\List.length (fc (List.getD (List.getD l (Int.toNat (↑x:Int)) (dfl (Ty.st SN.chunk))).ops (Int.toNat (↑x_1:Int)) (dfl (Ty.st SN.op))).names)<=(140737488355328:Nat)
  /\List.length (bU (List.getD (List.getD l (Int.toNat (↑x:Int)) (dfl (Ty.st SN.chunk))).ops (Int.toNat (↑x_1:Int)) (dfl (Ty.st SN.op))).kind++bU (List.getD (List.getD l (Int.toNat (↑x:Int)) (dfl (Ty.st SN.chunk))).ops (Int.toNat (↑x_1:Int)) (dfl (Ty.st SN.op))).n++bR (List.getD (List.getD l (Int.toNat (↑x:Int)) (dfl (Ty.st SN.chunk))).ops (Int.toNat (↑x_1:Int)) (dfl (Ty.st SN.op))).name)+List.length (fc (List.getD (List.getD l (Int.toNat (↑x:Int)) (dfl (Ty.st SN.chunk))).ops (Int.toNat (↑x_1:Int)) (dfl (Ty.st SN.op))).names)<=(9223372036854775807:Nat)/\List.length (bU (List.getD (List.getD l (Int.toNat (↑x:Int)) (dfl (Ty.st SN.chunk))).ops (Int.toNat (↑x_1:Int)) (dfl (Ty.st SN.op))).kind++bU (List.getD (List.getD l (Int.toNat (↑x:Int)) (dfl (Ty.st SN.chunk))).ops (Int.toNat (↑x_1:Int)) (dfl (Ty.st SN.op))).n++bR (List.getD (List.getD l (Int.toNat (↑x:Int)) (dfl (Ty.st SN.chunk))).ops (Int.toNat (↑x_1:Int)) (dfl (Ty.st SN.op))).name++fc (List.getD (List.getD l (Int.toNat (↑x:Int)) (dfl (Ty.st SN.chunk))).ops (Int.toNat (↑x_1:Int)) (dfl (Ty.st SN.op))).names)+List.length (bU (↑(List.length (List.getD (List.getD l (Int.toNat (↑x:Int)) (dfl (Ty.st SN.chunk))).ops (Int.toNat (↑x_1:Int)) (dfl (Ty.st SN.op))).tos):Int))<=(9223372036854775807:Nat)/\List.length (prC l (Int.toNat (↑x:Int))++prO (List.getD l (Int.toNat (↑x:Int)) default) x_1)+List.length (bU (List.getD (List.getD l (Int.toNat (↑x:Int)) (dfl (Ty.st SN.chunk))).ops (Int.toNat (↑x_1:Int)) (dfl (Ty.st SN.op))).kind++bU (List.getD (List.getD l (Int.toNat (↑x:Int)) (dfl (Ty.st SN.chunk))).ops (Int.toNat (↑x_1:Int)) (dfl (Ty.st SN.op))).n++bR (List.getD (List.getD l (Int.toNat (↑x:Int)) (dfl (Ty.st SN.chunk))).ops (Int.toNat (↑x_1:Int)) (dfl (Ty.st SN.op))).name++fc (List.getD (List.getD l (Int.toNat (↑x:Int)) (dfl (Ty.st SN.chunk))).ops (Int.toNat (↑x_1:Int)) (dfl (Ty.st SN.op))).names++bU (↑(List.length (List.getD (List.getD l (Int.toNat (↑x:Int)) (dfl (Ty.st SN.chunk))).ops (Int.toNat (↑x_1:Int)) (dfl (Ty.st SN.op))).tos):Int))<=(9223372036854775807:Nat)/\(∃(x_2:Nat),x_2<=List.length (List.getD (List.getD l (Int.toNat (↑x:Int)) default).ops (Int.toNat (↑x_1:Int)) default).tos/\(0:Int)=(↑x_2:Int)/\prC l (Int.toNat (↑x:Int))++prO (List.getD l (Int.toNat (↑x:Int)) default) x_1++(bU (List.getD (List.getD l (Int.toNat (↑x:Int)) (dfl (Ty.st SN.chunk))).ops (Int.toNat (↑x_1:Int)) (dfl (Ty.st SN.op))).kind++bU (List.getD (List.getD l (Int.toNat (↑x:Int)) (dfl (Ty.st SN.chunk))).ops (Int.toNat (↑x_1:Int)) (dfl (Ty.st SN.op))).n++bR (List.getD (List.getD l (Int.toNat (↑x:Int)) (dfl (Ty.st SN.chunk))).ops (Int.toNat (↑x_1:Int)) (dfl (Ty.st SN.op))).name++fc (List.getD (List.getD l (Int.toNat (↑x:Int)) (dfl (Ty.st SN.chunk))).ops (Int.toNat (↑x_1:Int)) (dfl (Ty.st SN.op))).names++bU (↑(List.length (List.getD (List.getD l (Int.toNat (↑x:Int)) (dfl (Ty.st SN.chunk))).ops (Int.toNat (↑x_1:Int)) (dfl (Ty.st SN.op))).tos):Int))=prC l (Int.toNat (↑x:Int))++prO (List.getD l (Int.toNat (↑x:Int)) default) (Int.toNat (↑x_1:Int))++prT (List.getD (List.getD l (Int.toNat (↑x:Int)) default).ops (Int.toNat (↑x_1:Int)) default) x_2/\(↑x_1:Int)=(↑x_1:Int)/\(↑x:Int)=(↑x:Int)/\l=l/\fm UInt8=fm UInt8/\(0:Int)=(0:Int)/\false=false/\l=l/\(↑(List.length l):Int)=(↑(List.length l):Int)/\true=true/\(List.getD l (Int.toNat (↑x:Int)) (dfl (Ty.st SN.chunk))).ops=(List.getD l (Int.toNat (↑x:Int)) (dfl (Ty.st SN.chunk))).ops/\(↑(List.length (List.getD l (Int.toNat (↑x:Int)) (dfl (Ty.st SN.chunk))).ops):Int)=(↑(List.length (List.getD l (Int.toNat (↑x:Int)) (dfl (Ty.st SN.chunk))).ops):Int)/\true=true
  /\(List.getD (List.getD l (Int.toNat (↑x:Int)) (dfl (Ty.st SN.chunk))).ops (Int.toNat (↑x_1:Int)) (dfl (Ty.st SN.op))).tos=(List.getD (List.getD l (Int.toNat (↑x:Int)) (dfl (Ty.st SN.chunk))).ops (Int.toNat (↑x_1:Int)) (dfl (Ty.st SN.op))).tos/\(↑(List.length (List.getD (List.getD l (Int.toNat (↑x:Int)) (dfl (Ty.st SN.chunk))).ops (Int.toNat (↑x_1:Int)) (dfl (Ty.st SN.op))).tos):Int)=(↑(List.length (List.getD (List.getD l (Int.toNat (↑x:Int)) (dfl (Ty.st SN.chunk))).ops (Int.toNat (↑x_1:Int)) (dfl (Ty.st SN.op))).tos):Int)/\List.getD l (Int.toNat (↑x:Int)) (dfl (Ty.st SN.chunk))=List.getD l (Int.toNat (↑x:Int)) (dfl (Ty.st SN.chunk))/\List.getD (List.getD l (Int.toNat (↑x:Int)) (dfl (Ty.st SN.chunk))).ops (Int.toNat (↑x_1:Int)) (dfl (Ty.st SN.op))=List.getD (List.getD l (Int.toNat (↑x:Int)) (dfl (Ty.st SN.chunk))).ops (Int.toNat (↑x_1:Int)) (dfl (Ty.st SN.op))/\True)/\∀(x_2:Nat),x_2<=List.length (List.getD (List.getD l (Int.toNat (↑x:Int)) default).ops (Int.toNat (↑x_1:Int)) default).tos→if decide ((↑x_2:Int) < (↑(List.length (List.getD (List.getD l (Int.toNat (↑x:Int)) (dfl (Ty.st SN.chunk))).ops (Int.toNat (↑x_1:Int)) (dfl (Ty.st SN.op))).tos):Int))=true then ((0:Int)<=(↑x_2:Int)/\(↑x_2:Int) < (↑(List.length (List.getD (List.getD l (Int.toNat (↑x:Int)) (dfl (Ty.st SN.chunk))).ops (Int.toNat (↑x_1:Int)) (dfl (Ty.st SN.op))).tos):Int))/\List.length (prC l (Int.toNat (↑x:Int))++prO (List.getD l (Int.toNat (↑x:Int)) default) (Int.toNat (↑x_1:Int))++prT (List.getD (List.getD l (Int.toNat (↑x:Int)) default).ops (Int.toNat (↑x_1:Int)) default) x_2)+List.length (bU (List.getD (List.getD (List.getD l (Int.toNat (↑x:Int)) (dfl (Ty.st SN.chunk))).ops (Int.toNat (↑x_1:Int)) (dfl (Ty.st SN.op))).tos (Int.toNat (↑x_2:Int)) (dfl (Ty.int IntKind.i64))))<=(9223372036854775807:Nat)/\inR IntKind.i64 ((↑x_2:Int)+(1:Int))/\∃(y:Nat),y<=List.length (List.getD (List.getD l (Int.toNat (↑x:Int)) default).ops (Int.toNat (↑x_1:Int)) default).tos/\List.length (List.getD (List.getD l (Int.toNat (↑x:Int)) default).ops (Int.toNat (↑x_1:Int)) default).tos - y < List.length (List.getD (List.getD l (Int.toNat (↑x:Int)) default).ops (Int.toNat (↑x_1:Int)) default).tos - x_2/\(↑x_2:Int)+(1:Int)=(↑y:Int)/\prC l (Int.toNat (↑x:Int))++prO (List.getD l (Int.toNat (↑x:Int)) default) (Int.toNat (↑x_1:Int))++prT (List.getD (List.getD l (Int.toNat (↑x:Int)) default).ops (Int.toNat (↑x_1:Int)) default) x_2++bU (List.getD (List.getD (List.getD l (Int.toNat (↑x:Int)) (dfl (Ty.st SN.chunk))).ops (Int.toNat (↑x_1:Int)) (dfl (Ty.st SN.op))).tos (Int.toNat (↑x_2:Int)) (dfl (Ty.int IntKind.i64)))=prC l (Int.toNat (↑x:Int))++prO (List.getD l (Int.toNat (↑x:Int)) default) (Int.toNat (↑x_1:Int))++prT (List.getD (List.getD l (Int.toNat (↑x:Int)) default).ops (Int.toNat (↑x_1:Int)) default) y/\(↑x_1:Int)=(↑x_1:Int)/\(↑x:Int)=(↑x:Int)/\l=l/\fm UInt8=fm UInt8/\(0:Int)=(0:Int)/\false=false/\l=l/\(↑(List.length l):Int)=(↑(List.length l):Int)/\true=true/\(List.getD l (Int.toNat (↑x:Int)) (dfl (Ty.st SN.chunk))).ops=(List.getD l (Int.toNat (↑x:Int)) (dfl (Ty.st SN.chunk))).ops/\(↑(List.length (List.getD l (Int.toNat (↑x:Int)) (dfl (Ty.st SN.chunk))).ops):Int)=(↑(List.length (List.getD l (Int.toNat (↑x:Int)) (dfl (Ty.st SN.chunk))).ops):Int)/\true=true/\(List.getD (List.getD l (Int.toNat (↑x:Int)) (dfl (Ty.st SN.chunk))).ops (Int.toNat (↑x_1:Int)) (dfl (Ty.st SN.op))).tos=(List.getD (List.getD l (Int.toNat (↑x:Int)) (dfl (Ty.st SN.chunk))).ops (Int.toNat (↑x_1:Int)) (dfl (Ty.st SN.op))).tos
  /\(↑(List.length (List.getD (List.getD l (Int.toNat (↑x:Int)) (dfl (Ty.st SN.chunk))).ops (Int.toNat (↑x_1:Int)) (dfl (Ty.st SN.op))).tos):Int)=(↑(List.length (List.getD (List.getD l (Int.toNat (↑x:Int)) (dfl (Ty.st SN.chunk))).ops (Int.toNat (↑x_1:Int)) (dfl (Ty.st SN.op))).tos):Int)/\List.getD l (Int.toNat (↑x:Int)) (dfl (Ty.st SN.chunk))=List.getD l (Int.toNat (↑x:Int)) (dfl (Ty.st SN.chunk))/\List.getD (List.getD l (Int.toNat (↑x:Int)) (dfl (Ty.st SN.chunk))).ops (Int.toNat (↑x_1:Int)) (dfl (Ty.st SN.op))=List.getD (List.getD l (Int.toNat (↑x:Int)) (dfl (Ty.st SN.chunk))).ops (Int.toNat (↑x_1:Int)) (dfl (Ty.st SN.op))/\True else List.length (prC l (Int.toNat (↑x:Int))++prO (List.getD l (Int.toNat (↑x:Int)) default) (Int.toNat (↑x_1:Int))++prT (List.getD (List.getD l (Int.toNat (↑x:Int)) default).ops (Int.toNat (↑x_1:Int)) default) x_2)+List.length (bU (List.getD (List.getD l (Int.toNat (↑x:Int)) (dfl (Ty.st SN.chunk))).ops (Int.toNat (↑x_1:Int)) (dfl (Ty.st SN.op))).pos)<=(9223372036854775807:Nat)/\inR IntKind.i64 ((↑x_1:Int)+(1:Int))/\∃(y:Nat),y<=List.length (List.getD l (Int.toNat (↑x:Int)) default).ops/\List.length (List.getD l (Int.toNat (↑x:Int)) default).ops - y < List.length (List.getD l (Int.toNat (↑x:Int)) default).ops - x_1/\(↑x_1:Int)+(1:Int)=(↑y:Int)/\prC l (Int.toNat (↑x:Int))++prO (List.getD l (Int.toNat (↑x:Int)) default) (Int.toNat (↑x_1:Int))++prT (List.getD (List.getD l (Int.toNat (↑x:Int)) default).ops (Int.toNat (↑x_1:Int)) default) x_2++bU (List.getD (List.getD l (Int.toNat (↑x:Int)) (dfl (Ty.st SN.chunk))).ops (Int.toNat (↑x_1:Int)) (dfl (Ty.st SN.op))).pos=prC l (Int.toNat (↑x:Int))++prO (List.getD l (Int.toNat (↑x:Int)) default) y/\(↑x:Int)=(↑x:Int)/\l=l/\fm UInt8=fm UInt8/\(0:Int)=(0:Int)/\false=false/\l=l/\(↑(List.length l):Int)=(↑(List.length l):Int)/\true=true/\(List.getD l (Int.toNat (↑x:Int)) (dfl (Ty.st SN.chunk))).ops=(List.getD l (Int.toNat (↑x:Int)) (dfl (Ty.st SN.chunk))).ops/\(↑(List.length (List.getD l (Int.toNat (↑x:Int)) (dfl (Ty.st SN.chunk))).ops):Int)=(↑(List.length (List.getD l (Int.toNat (↑x:Int)) (dfl (Ty.st SN.chunk))).ops):Int)/\List.getD l (Int.toNat (↑x:Int)) (dfl (Ty.st SN.chunk))=List.getD l (Int.toNat (↑x:Int)) (dfl (Ty.st SN.chunk))/\True else inR IntKind.i64 ((↑x:Int)+(1:Int))/\∃(y:Nat),y<=List.length l/\List.length l - y < List.length l - x/\(↑x:Int)+(1:Int)=(↑y:Int)/\prC l (Int.toNat (↑x:Int))++prO (List.getD l (Int.toNat (↑x:Int)) default) x_1=prC l y/\l=l/\fm UInt8=fm UInt8/\(0:Int)=(0:Int)/\false=false/\l=l/\(↑(List.length l):Int)=(↑(List.length l):Int)/\True else True/\prC l x=(dT l).1/\(0:Int)=(dT l).2/\True:=by
 have ln:=hl.len
 have hT:(lV l).length<=8796093022208:=ho
 have dC:dfl (Ty.st SN.chunk)=(default:Chnk):=rfl
 have dO:dfl (Ty.st SN.op)=(default:Opn):=rfl
 have dI:dfl (Ty.int IntKind.i64)=(0:Int):=rfl
 simp only [Int.toNat_natCast,dC,dO,dI]
 refine ⟨ho,aa (fun h=>?_) (fun h=>?_)⟩
 ·have h:fq l 1000≠0:=by simpa using h
  unfold dT;rw [if_pos h];exact ⟨trivial,rfl,rfl,trivial⟩
 have h:fq l 1000=0:=by simpa using h
 refine ⟨⟨0,Nat.zero_le _,rfl,by unfold prC;simp,by repeat' (first | exact trivial | rfl | apply And.intro)⟩,?_⟩
 intro x hx
 have px:=y0 l x
 refine aa (fun k=>?_) (fun k=>?_)
 ·replace k:=Xo k
  have k:x < l.length:=by omega
  have eC:=s4 k
  have sC:=rY k
  generalize l.getD x default=C at *
  have oC:=tT C
  have a1:=cv C.args
  have a2:=cv (C.ops.length:Int)
  refine ⟨⟨by omega,by omega⟩,by omega,by simp only [List.length_append];omega,⟨0,Nat.zero_le _,rfl,by unfold prO zf;simp,by repeat' (first | exact trivial | rfl | apply And.intro)⟩,?_⟩
  intro y hy
  have py:=y5 C y
  refine aa (fun m=>?_) (fun m=>?_)
  ·replace m:=Xo m
   have m:y < C.ops.length:=by omega
   have eO:=s5 m
   have sO:=rZ m
   have lO:C.ops.length<=C.ops.length:=Nat.le_refl _
   generalize C.ops.getD y default=O at *
   obtain ⟨b1,b2,b3⟩:=o7 O
   have oT:=o9 O
   have c1:=cv O.kind
   have c2:=cv O.n
   have c3:=cv (O.tos.length:Int)
   have c4:=cv O.pos
   refine ⟨⟨by omega,by omega⟩,by omega,by omega,by simp only [List.length_append];omega,by omega,by simp only [List.length_append];omega,by simp only [List.length_append];omega,by simp only [List.length_append];omega,⟨0,Nat.zero_le _,rfl,by unfold prT xX;simp,by repeat' (first | exact trivial | rfl | apply And.intro)⟩,?_⟩
   intro z hz
   have pz:=Ao O z
   refine aa (fun n=>?_) (fun n=>?_)
   ·replace n:=Xo n
    have n:z < O.tos.length:=by omega
    have sT:=xZ n
    have c5:=cv (O.tos.getD z 0)
    refine ⟨⟨by omega,by omega⟩,by simp only [List.length_append];omega,aN (by omega) (by omega),z+1,by omega,by omega,by omega,by rw [sT];simp only [List.append_assoc],by repeat' (first | exact trivial | rfl | apply And.intro)⟩
   ·replace n:¬(z:Int) < (O.tos.length:Int):=fun q=>n (Xd q)
    have n:z=O.tos.length:=by omega
    subst n
    refine ⟨by simp only [List.length_append];omega,aN (by omega) (by omega),y+1,by omega,by omega,by omega,by rw [sO,←zk];simp only [List.append_assoc],by repeat' (first | exact trivial | rfl | apply And.intro)⟩
  ·replace m:¬(y:Int) < (C.ops.length:Int):=fun q=>m (Xd q)
   have m:y=C.ops.length:=by omega
   subst m
   refine ⟨aN (by omega) (by omega),x+1,by omega,by omega,by omega,by rw [sC,zj],by repeat' (first | exact trivial | rfl | apply And.intro)⟩
 ·replace k:¬(x:Int) < (l.length:Int):=fun q=>k (Xd q)
  have k:x=l.length:=by omega
  subst k
  have e:dT l=(lV l,0):=by unfold dT;rw [if_neg (fun z=>z h)]
  rw [e,zi]
  exact ⟨trivial,rfl,rfl,trivial⟩
end Go.AL.Seat
end
