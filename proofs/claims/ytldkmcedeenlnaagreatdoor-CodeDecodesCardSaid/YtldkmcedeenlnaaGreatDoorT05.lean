/- Plain facts. What the functions' conditions say, proved. No condition. -/
import Derived.Test.YtldkmcedeenlnaaGreatDoorT04
import Derived.Lib.BitFns
import Derived.Lib.ItoaNum
import Derived.Shelf.Slices.Clone
import Derived.Shelf.Strconv.Itoa0
import Derived.Test.YtldkmcedeenlnaaGreatDoorProg
set_option linter.all false
set_option maxRecDepth 100000
noncomputable section
namespace Go.Pd
open Go Go.AL
def kW (n:Int):Int:=(Lib.bitLen n.toNat:Int)
def aR (n:Int):Int:=(kW n+7).tdiv 8
theorem zg (b:UInt8):0<=bI b:=Int.natCast_nonneg _
theorem ED (b:UInt8):bI b<=255:=by unfold bI;have:=b.toNat_lt;omega
theorem lW:∀f x:Nat,Lib.bitLenAux f x<=f
 | 0,x=>Nat.le_refl _
 | f+1,x=>by
  unfold Lib.bitLenAux
  have:=lW f (x / 2)
  split <;> omega
theorem tg (n:Int):0<=kW n/\kW n<=64:=by
 unfold kW Lib.bitLen
 have:=lW 64 n.toNat
 omega
theorem jY (n:Int):0<=aR n/\aR n<=8:=by
 have:=tg n
 unfold aR
 rw [Int.tdiv_eq_ediv_of_nonneg (by omega)]
 omega
def rA (n k:Int) (q:Nat):Int:=IntKind.u8.wrap (n.fdiv (2 ^ (min (8 *(k - 1 - q)).toNat 64)))
def jn (n k:Int) (j:Nat):List Int:=(List.range j).map (rA n k)
theorem qR (n k:Int) (j:Nat):(jn n k j).length=j:=by simp [jn]
theorem uC (n k:Int) (j:Nat):jn n k (j+1)=jn n k j++[rA n k j]:=by simp [jn,List.range_succ]
def jZ (n:Int) (j:Nat):List Int:=IntKind.u8.wrap (247+aR n) ::jn n (aR n) j
theorem hZ (n:Int) (j:Nat):(jZ n j).length=j+1:=by simp [jZ,qR]
theorem zh (n:Int) (j:Nat):jZ n (j+1)=jZ n j++[rA n (aR n) j]:=by simp [jZ,uC]
def bQ (n:Int):Str:=if n < 248 then eK [IntKind.u8.wrap n] else eJ (jZ n (aR n).toNat)
theorem jo (n:Int):(bQ n).length<=9:=by
 unfold bQ
 split
 ·simp [eK]
 ·have:=jY n
  simp [eJ,hZ]
  omega
def b7 (s:Str):Str:=bQ s.length++s
def cM (l:List Str):Str:=bQ l.length++l.flatMap b7
def b8 (s:Str) (p:Int) (b:Bool):Int × Int × Bool:=if p=s.length then (0,p,true) else (bI (s.getD p.toNat 0),p+1,b)
def orB (n c:Int):Int:=IntKind.u64.wrap ((BitVec.ofInt IntKind.u64.bits (IntKind.u64.wrap (n *2 ^ (min 8 64))) ||| BitVec.ofInt IntKind.u64.bits c).toNat:Int)
def xV (s:Str) (x:Int × Int × Bool):Int × Int × Bool:=(orB x.1 (b8 s x.2.1 x.2.2).1,(b8 s x.2.1 x.2.2).2.1,(b8 s x.2.1 x.2.2).2.2)
def bg (s:Str):Nat→Int × Int × Bool→Int × Int × Bool
 | 0,x=>x
 | k+1,x=>xV s (bg s k x)
def ad (s:Str) (p:Int):Int × Int × Bool:=b8 s p false
def bD (c:Int):Int:=if 248<=c then c - 247 else 0
def bB (c:Int):Int:=if 248<=c then 0 else c
def dL (s:Str) (p:Int):Int × Int × Bool:=bg s (bD (ad s p).1).toNat (bB (ad s p).1,(ad s p).2.1,(ad s p).2.2)
def aj (s:Str) (p:Int):Int × Int × Int:=
 if p < 0∨(s.length:Int) < p then (0,0,2)
 else if (dL s p).2.2=true then (0,0,10)
 else if 0 < bD (ad s p).1/\((dL s p).1 < 248∨aR (dL s p).1≠bD (ad s p).1) then (0,0,11)
 else ((dL s p).1,(dL s p).2.1,0)
def InU (n:Int):Prop:=0<=n/\n<=18446744073709551615
theorem Bv (n:Int):InU (IntKind.u64.wrap n):=by
 unfold InU
 simp only [IntKind.wrap,IntKind.bits,IntKind.signed]
 simp
 omega
theorem EE (n c:Int):InU (orB n c):=Bv _
def AtS (s:Str) (p:Int):Prop:=0<=p/\p<=(s.length:Int)
theorem nZ {s:Str} {p:Int} {b:Bool} (h:AtS s p):0<=(b8 s p b).1/\(b8 s p b).1<=255/\p<=(b8 s p b).2.1/\AtS s (b8 s p b).2.1/\((b8 s p b).2.2=false→p < (b8 s p b).2.1):=by
 unfold b8 AtS at *
 split
 ·simp;omega
 ·have h1:=zg (s.getD p.toNat 0)
  have h2:=ED (s.getD p.toNat 0)
  refine ⟨h1,h2,?_,⟨?_,?_⟩,fun _=>?_⟩ <;> simp only <;> omega
theorem uD {s:Str} {p:Int} {b:Bool} (h:(b8 s p b).2.2=false):b=false:=by
 unfold b8 at h
 split at h
 ·cases h
 ·exact h
theorem th {s:Str}:∀(k:Nat) (x:Int × Int × Bool),AtS s x.2.1→InU x.1→InU (bg s k x).1/\AtS s (bg s k x).2.1/\x.2.1<=(bg s k x).2.1/\((bg s k x).2.2=false→x.2.2=false)
 | 0,x,h,hn=>⟨hn,h,Int.le_refl _,fun h=>h⟩
 | k+1,x,h,hn=>by
  obtain ⟨c1,c2,c3,c4⟩:=th k x h hn
  obtain ⟨b1,b2,b3,b4,b5⟩:=nZ (b:=(bg s k x).2.2) c2
  unfold bg
  exact ⟨EE _ _,b4,Int.le_trans c3 b3,fun q=>c4 (uD q)⟩
theorem xW {c:Int} (h:0<=c):InU (bB c):=by unfold bB InU;split <;> omega
theorem cZ (s:Str) (p:Int):InU (aj s p).1/\((aj s p).2.2=0∨(aj s p).2.2=2∨(aj s p).2.2=10∨(aj s p).2.2=11)/\
  ((aj s p).2.2=0→AtS s p/\AtS s (aj s p).2.1/\p < (aj s p).2.1):=by
 unfold aj
 have z:InU 0:=by unfold InU;omega
 refine if h:p < 0∨(s.length:Int) < p then ?_ else ?_
 ·rw [if_pos h];exact ⟨z,by simp,by simp⟩
 rw [if_neg h]
 have ha:AtS s p:=by unfold AtS;omega
 obtain ⟨b1,b2,b3,b4,b5⟩:=nZ (b:=false) ha
 obtain ⟨c1,c2,c3,c4⟩:=th (bD (ad s p).1).toNat (bB (ad s p).1,(ad s p).2.1,(ad s p).2.2) b4 (xW b1)
 refine if h2:(dL s p).2.2=true then ?_ else ?_
 ·rw [if_pos h2];exact ⟨z,by simp,by simp⟩
 rw [if_neg h2]
 split
 ·exact ⟨z,by simp,by simp⟩
 ·exact ⟨c1,by simp,fun _=>⟨ha,c2,Int.lt_of_lt_of_le (b5 (c4 (Bool.eq_false_iff.2 h2))) c3⟩⟩
def aT (s:Str) (p:Int):Str × Int × Int:=
 if (aj s p).2.2≠0 then ([],0,(aj s p).2.2)
 else if (s.length:Int) - (aj s p).2.1 < (aj s p).1 then ([],0,10)
 else ((s.take ((aj s p).2.1+(aj s p).1).toNat).drop (aj s p).2.1.toNat,(aj s p).2.1+(aj s p).1,0)
theorem ka (s:Str) (p:Int):((aT s p).2.2=0→AtS s p/\AtS s (aT s p).2.1/\p+1+(aT s p).1.length<=(aT s p).2.1)/\0<=(aT s p).2.2/\(aT s p).2.2<=11:=by
 obtain ⟨h1,h2,h3⟩:=cZ s p
 unfold InU at h1
 unfold aT
 split
 ·rename_i h
  simp only
  exact ⟨fun e=>absurd e h,by omega,by omega⟩
 rename_i h
 split
 ·simp
 rename_i h4
 obtain ⟨a1,a2,a3⟩:=h3 (Classical.not_not.1 h)
 unfold AtS at *
 refine ⟨fun _=>⟨a1,⟨by simp only;omega,by simp only;omega⟩,?_⟩,by simp,by simp⟩
 simp only [List.length_drop,List.length_take]
 omega
def ca (s:Str):Nat→Int→List Str→Int→List Str × Int × Int
 | 0,_,_,_=>([],0,10)
 | k+1,n,acc,p=>if 0 < n then (if (aT s p).2.2≠0 then ([],0,(aT s p).2.2) else ca s k (n - 1) (acc++[(aT s p).1]) (aT s p).2.1) else (acc,p,0)
def bc (s:Str) (p:Int):List Str × Int × Int:=
 if (aj s p).2.2≠0 then ([],0,(aj s p).2.2) else ca s (s.length+1) (aj s p).1 [] (aj s p).2.1
def wL (l:List Str):Nat:=(l.map fun x=>x.length+1).sum
theorem wy (a b:List Str):wL (a++b)=wL a+wL b:=by simp [wL]
theorem rB (l:List Str):l.length<=wL l:=by
 unfold wL
 induction l with
 | nil=>simp
 | cons x r ih=>simp at ih ⊢;omega
theorem uE {s:Str}:∀(k:Nat) (n:Int) (acc:List Str) (p:Int),AtS s p→(s.length:Int)+1<=k+p→InU n→
  ((ca s k n acc p).2.2=0→AtS s (ca s k n acc p).2.1/\p<=(ca s k n acc p).2.1/\(wL (ca s k n acc p).1:Int)<=wL acc+((ca s k n acc p).2.1 - p))/\0<=(ca s k n acc p).2.2/\(ca s k n acc p).2.2<=11
 | 0,n,acc,p,h,hk,hn=>by unfold AtS at h;omega
 | k+1,n,acc,p,h,hk,hn=>by
  obtain ⟨h1,h2,h3⟩:=ka s p
  unfold ca
  split
  ·split
   ·rename_i e
    simp only
    exact ⟨fun q=>absurd q e,h2,h3⟩
   ·rename_i hn0 e
    obtain ⟨a1,a2,a3⟩:=h1 (Classical.not_not.1 e)
    obtain ⟨b1,b2,b3⟩:=uE k (n - 1) (acc++[(aT s p).1]) (aT s p).2.1 a2 (by omega) (by unfold InU at *;omega)
    refine ⟨fun q=>?_,b2,b3⟩
    obtain ⟨c1,c2,c3⟩:=b1 q
    refine ⟨c1,by omega,?_⟩
    rw [wy] at c3
    simp [wL] at c3 ⊢
    omega
  ·exact ⟨fun _=>⟨h,Int.le_refl _,by simp⟩,by simp,by simp⟩
theorem uF (s:Str) (p:Int):((bc s p).2.2=0→AtS s p/\AtS s (bc s p).2.1/\p+1+wL (bc s p).1<=(bc s p).2.1)/\0<=(bc s p).2.2/\(bc s p).2.2<=11:=by
 obtain ⟨h1,h2,h3⟩:=cZ s p
 unfold bc
 split
 ·rename_i h
  simp only
  exact ⟨fun e=>absurd e h,by omega,by omega⟩
 rename_i h
 obtain ⟨a1,a2,a3⟩:=h3 (Classical.not_not.1 h)
 obtain ⟨b1,b2,b3⟩:=uE (s.length+1) (aj s p).1 [] (aj s p).2.1 a2 (by unfold AtS at a2;omega) h1
 refine ⟨fun q=>?_,b2,b3⟩
 obtain ⟨c1,c2,c3⟩:=b1 q
 refine ⟨a1,c1,?_⟩
 simp [wL] at c3 ⊢
 omega
def takS (s:Str) (p:Int) (b:Bool):List (Nat × SObj):=[(900,.box (.int .i64 p)),(901,.box (.str s)),(902,.box (.bool b))]
def takA (s:Str) (p:Int) (b:Bool):Ans:=⟨some (AtS s p/\s.length<=9223372036854775807),none,.int .u8 (b8 s p b).1,takS s (b8 s p b).2.1 (b8 s p b).2.2⟩
def Ed:Pat:=fun args S=>
 match args,S with
 | [.ptr 900 0,.ptr 901 0,.ptr 902 0],[(900,.box (.int .i64 p)),(901,.box (.str s)),(902,.box (.bool b))]=>some (takA s p b)
 | _,_=>none
theorem D1 [Tabs] {P:Program} {f:Nat} (he:aV P f) (h:∀s p b,AtS s p/\s.length<=9223372036854775807→bd P f [.ptr 900 0,.ptr 901 0,.ptr 902 0] (takS s p b) (takA s p b)):an P f Ed:=by
 intro args S A hA ho _
 unfold Ed at hA
 split at hA
 ·simp only [Xs] at hA
  subst hA
  exact ⟨he,h _ _ _ (ho _ rfl)⟩
 ·cases hA
end Go.Pd
end
section
namespace Go.AL
variable [Tabs]
open Go.Proofs Go.Shelf Go.RowKit Go.Pd
variable {P:Program} {ρ:Ren}
theorem uG {f:Nat} (L:Lays.n129 P ρ) (hf:ρ.f 129=f) (he:aV P f):an P f (p1 (.int .u64) fun n=>.ret (.int .i64 (kW n))):=by
 subst hf
 refine bV he fun n _ ho=>?_
 refine eG fun w pub vs ht hv=>?_
 obtain ⟨v,rfl,hu⟩:=VL.one_inv hv
 obtain ⟨rfl,h0,h1⟩:=(show V _ (.int .u64 n) v from hu).int_inv
 have h0:(0:Int)<=n:=h0
 have h1:n<=18446744073709551615:=h1
 refine (Any.bits_Len64 L n w h0 h1).mono ?_
 rintro en w' ⟨rfl,rfl⟩
 have hb:=tg n
 unfold kW at hb ⊢
 exact ⟨⟨_,rfl,fun Ω=>.int _ _ (by show (-9223372036854775808:Int)<=_;omega) (by show _<=(9223372036854775807:Int);omega)⟩,Below.refl _ _⟩
end Go.AL
end
section
namespace Go.AL.Seat
open Go Go.AL Go.Proofs Go.Shelf Go.Pd
variable [Tabs]
theorem EF:Builder.Extra Tryz.prog Tryz.lays169_ren:={
 sizeBuilder:=by kernel_rfl
 liesBuilder:=by kernel_rfl
 t5:=Tryz.underlying5
 a5:=Tryz.isAgg5
 z5:=Tryz.sizeOf5
 v5:=Tryz.zeroValue5
 infoByte:=by kernel_rfl
 cellsByte:=by kernel_rfl
 sizeByte:=by kernel_rfl
 neB5:=by decide}
theorem zi:an Tryz.prog 61 (pK 127 5):=ub Tryz.wl Tryz.cc Tryz.bx rfl rfl rfl (aV.mk' Tryz.func61 (by kernel_rfl))
theorem wz:an Tryz.prog 62 (mG 127 5):=sS Tryz.lays169 EF rfl rfl rfl (aV.mk' Tryz.func62 (by kernel_rfl))
theorem zj:an Tryz.prog 90 (p1 (.int .u64) fun n=>.ret (.int .i64 (kW n))):=uG Tryz.lays129 rfl (aV.mk' Tryz.func90 (by kernel_rfl))
end Go.AL.Seat
end
noncomputable section
namespace Go.Pd
open Go Go.AL
def tkN (s:Str) (p:Int) (b:Bool):Int × Int × Bool:=
 if b=true∨(aj s p).2.2≠0∨9223372036854775807 < (aj s p).1 then (0,p,true) else ((aj s p).1,(aj s p).2.1,b)
theorem gQ {s:Str} {p:Int} {b:Bool} (h:AtS s p):0<=(tkN s p b).1/\(tkN s p b).1<=9223372036854775807/\AtS s (tkN s p b).2.1/\p<=(tkN s p b).2.1/\((tkN s p b).2.2=false→b=false/\p < (tkN s p b).2.1):=by
 obtain ⟨h1,h2,h3⟩:=cZ s p
 unfold tkN
 split
 ·exact ⟨by simp,by simp,h,Int.le_refl _,by simp⟩
 ·rename_i k
  obtain ⟨a1,a2,a3⟩:=h3 (Classical.byContradiction fun q=>k (.inr (.inl q)))
  unfold InU at h1
  have:¬(9223372036854775807:Int) < (aj s p).1:=fun q=>k (.inr (.inr q))
  exact ⟨h1.1,by simp only;omega,a2,by simp only;omega,fun q=>⟨q,a3⟩⟩
def bW (s:Str) (p:Int) (b:Bool):Int:=if b=true then 1 else (s.length:Int) - p+2
theorem dJ {s:Str} {p:Int} {b:Bool} (h:AtS s p):1<=bW s p b:=by unfold bW AtS at *;split <;> omega
theorem da {s:Str} {p q:Int} {c:Bool} (h:AtS s p) (hq:AtS s q) (h1:c=false→p < q):bW s q c+1<=bW s p false:=by
 unfold bW AtS at *
 cases c with
 | true=>simp;omega
 | false=>have:=h1 rfl;simp;omega
def toL (s:Str):Nat→Int→List Int→Int→Bool→List Int × Int × Bool
 | 0,_,l,p,_=>(l,p,true)
 | f+1,m,l,p,b=>if 0 < m/\b=false then toL s f (m - 1) (l++[(tkN s p b).1]) (tkN s p b).2.1 (tkN s p b).2.2 else (l,p,b)
def aB (b:Bool) (n:Int):Int:=if b=true then n else 0
theorem DG {s:Str}:∀(f:Nat) (m:Int) (l:List Int) (p:Int) (b:Bool),AtS s p→bW s p b<=f→
  AtS s (toL s f m l p b).2.1/\p<=(toL s f m l p b).2.1/\((toL s f m l p b).2.2=false→b=false)/\((toL s f m l p b).1.length:Int)+p<=l.length+(toL s f m l p b).2.1+aB (!b && (toL s f m l p b).2.2) 1
 | 0,m,l,p,b,h,hf=>by have:=dJ (b:=b) h;omega
 | f+1,m,l,p,b,h,hf=>by
  unfold toL
  split
  ·rename_i k
   obtain ⟨k1,rfl⟩:=k
   obtain ⟨a1,a2,a3,a4,a5⟩:=gQ (b:=false) h
   have hs:=da h a3 (fun q=>(a5 q).2)
   obtain ⟨b1,b2,b3,b4⟩:=DG f (m - 1) (l++[(tkN s p false).1]) (tkN s p false).2.1 (tkN s p false).2.2 a3 (by omega)
   refine ⟨b1,by omega,fun _=>rfl,?_⟩
   simp only [List.length_append,List.length_singleton] at b4
   cases hc:(tkN s p false).2.2 with
   | false=>
    have:=(a5 hc).2
    rw [hc] at b4
    simp only [hc] at *
    have e:(!false && (toL s f (m - 1) (l++[(tkN s p false).1]) (tkN s p false).2.1 false).2.2)=(toL s f (m - 1) (l++[(tkN s p false).1]) (tkN s p false).2.1 false).2.2:=by simp
    omega
   | true=>
    rw [hc] at b4 b3
    have e:(toL s f (m - 1) (l++[(tkN s p false).1]) (tkN s p false).2.1 true).2.2=true:=by
     cases hh:(toL s f (m - 1) (l++[(tkN s p false).1]) (tkN s p false).2.1 true).2.2 with
     | true=>rfl
     | false=>exact absurd (b3 hh) (by simp)
    simp only [hc] at b4 b2 ⊢
    rw [e] at b4 ⊢
    simp [aB] at b4 ⊢
    omega
  ·exact ⟨h,Int.le_refl _,fun q=>q,by cases b <;> simp [aB]⟩
def op1 (s:Str) (p:Int) (b:Bool):Int × Int × Bool:=tkN s p b
def op2 (s:Str) (p:Int) (b:Bool):Int × Int × Bool:=tkN s (op1 s p b).2.1 (op1 s p b).2.2
def op3 (s:Str) (p:Int) (b:Bool):Str × Int × Int:=aT s (op2 s p b).2.1
def op4 (s:Str) (p:Int) (b:Bool):List Str × Int × Int:=bc s (op3 s p b).2.1
def op5 (s:Str) (p:Int) (b:Bool):Int × Int × Bool:=tkN s (op4 s p b).2.1 (op2 s p b).2.2
def op6 (s:Str) (p:Int) (b:Bool):List Int × Int × Bool:=toL s (s.length+2) (op5 s p b).1 [] (op5 s p b).2.1 (op5 s p b).2.2
def op7 (s:Str) (p:Int) (b:Bool):Int × Int × Bool:=tkN s (op6 s p b).2.1 (op6 s p b).2.2
def opF (s:Str) (p:Int) (b:Bool):Opn × Int × Bool:=
 if (op2 s p b).2.2=true∨(op3 s p b).2.2≠0 then (⟨(op1 s p b).1,(op2 s p b).1,[],[],[],0⟩,(op2 s p b).2.1,true)
 else if (op4 s p b).2.2≠0 then (⟨(op1 s p b).1,(op2 s p b).1,[],[],[],0⟩,(op2 s p b).2.1,true)
 else (⟨(op1 s p b).1,(op2 s p b).1,(op3 s p b).1,(op4 s p b).1,(op6 s p b).1,(op7 s p b).1⟩,(op7 s p b).2.1,(op7 s p b).2.2)
def wO (o:Opn):Nat:=o.name.length+wL o.names+o.tos.length+1
theorem fe {s:Str} {p:Int} {b:Bool} (h:AtS s p):bW s p b<=((s.length+2:Nat):Int):=by unfold bW AtS at *;split <;> omega
theorem DH {s:Str} {p:Int} {b:Bool} (h:AtS s p) (k2:(op3 s p b).2.2=0) (k3:(op4 s p b).2.2=0):AtS s (op5 s p b).2.1/\(op5 s p b).1<=9223372036854775807:=by
 obtain ⟨c1,c2,c3⟩:=(ka s (op2 s p b).2.1).1 k2
 obtain ⟨d1,d2,d3⟩:=(uF s (op3 s p b).2.1).1 k3
 obtain ⟨e1,e2,e3,e4,e5⟩:=gQ (b:=(op2 s p b).2.2) d2
 exact ⟨e3,e2⟩
theorem Bw {s:Str} {p:Int} {b:Bool} (h:AtS s p):AtS s (opF s p b).2.1/\p<=(opF s p b).2.1/\((opF s p b).2.2=false→b=false/\p < (opF s p b).2.1)/\
  (wO (opF s p b).1:Int)+p<=(opF s p b).2.1+aB (opF s p b).2.2 3:=by
 obtain ⟨a1,a2,a3,a4,a5⟩:=gQ (b:=b) h
 obtain ⟨b1,b2,b3,b4,b5⟩:=gQ (b:=(op1 s p b).2.2) a3
 have hp:p<=(op2 s p b).2.1:=Int.le_trans a4 b4
 have h3:AtS s (op2 s p b).2.1:=b3
 unfold opF
 refine if k:(op2 s p b).2.2=true∨(op3 s p b).2.2≠0 then ?_ else ?_
 ·rw [if_pos k]
  exact ⟨h3,hp,by simp,by simp [wO,wL,aB];omega⟩
 rw [if_neg k]
 have k1:(op2 s p b).2.2=false:=by
  cases hh:(op2 s p b).2.2 with
  | false=>rfl
  | true=>exact absurd (.inl hh) k
 have k2:(op3 s p b).2.2=0:=Classical.byContradiction fun q=>k (.inr q)
 obtain ⟨c1,c2,c3⟩:=(ka s (op2 s p b).2.1).1 k2
 refine if k3:(op4 s p b).2.2≠0 then ?_ else ?_
 ·rw [if_pos k3]
  exact ⟨h3,hp,by simp,by simp [wO,wL,aB];omega⟩
 rw [if_neg k3]
 obtain ⟨d1,d2,d3⟩:=(uF s (op3 s p b).2.1).1 (Classical.not_not.1 k3)
 obtain ⟨e1,e2,e3,e4,e5⟩:=gQ (b:=(op2 s p b).2.2) d2
 have e3:AtS s (op5 s p b).2.1:=e3
 obtain ⟨f1,f2,f3,f4⟩:=DG (s.length+2) (op5 s p b).1 [] (op5 s p b).2.1 (op5 s p b).2.2 e3 (fe e3)
 have f1:AtS s (op6 s p b).2.1:=f1
 obtain ⟨g1,g2,g3,g4,g5⟩:=gQ (b:=(op6 s p b).2.2) f1
 have c3:(op2 s p b).2.1+1+((op3 s p b).1.length:Int)<=(op3 s p b).2.1:=c3
 have d3:(op3 s p b).2.1+1+(wL (op4 s p b).1:Int)<=(op4 s p b).2.1:=d3
 have e4:(op4 s p b).2.1<=(op5 s p b).2.1:=e4
 have e5:(op5 s p b).2.2=false→(op2 s p b).2.2=false/\(op4 s p b).2.1 < (op5 s p b).2.1:=e5
 have f2:(op5 s p b).2.1<=(op6 s p b).2.1:=f2
 have f3:(op6 s p b).2.2=false→(op5 s p b).2.2=false:=f3
 have f4:((op6 s p b).1.length:Int)+(op5 s p b).2.1<=0+(op6 s p b).2.1+aB (!(op5 s p b).2.2 && (op6 s p b).2.2) 1:=f4
 have g3:AtS s (op7 s p b).2.1:=g3
 have g4:(op6 s p b).2.1<=(op7 s p b).2.1:=g4
 have g5:(op7 s p b).2.2=false→(op6 s p b).2.2=false/\(op6 s p b).2.1 < (op7 s p b).2.1:=g5
 have b5:(op2 s p b).2.2=false→(op1 s p b).2.2=false/\(op1 s p b).2.1 < (op2 s p b).2.1:=b5
 have a5:(op1 s p b).2.2=false→b=false/\p < (op1 s p b).2.1:=a5
 have hb:b=false:=(a5 (b5 k1).1).1
 have h12:=(a5 (b5 k1).1).2
 have h13:=(b5 k1).2
 refine ⟨g3,by simp only;omega,fun q=>⟨hb,by simp only;omega⟩,?_⟩
 simp only [wO]
 cases hz:(op7 s p b).2.2 with
 | true=>
  have hsl:aB (!(op5 s p b).2.2 && (op6 s p b).2.2) 1<=1:=by unfold aB;split <;> omega
  simp only [aB,if_true]
  omega
 | false=>
  have h7:=g5 hz
  have h6:(op6 s p b).2.2=false:=h7.1
  have h5:=f3 h6
  have h8:=(e5 h5).2
  rw [h6] at f4
  simp [aB] at f4 ⊢
  omega
def cr (s:Str):Nat→Int→List Opn→Int→Bool→List Opn × Int × Bool
 | 0,_,l,p,_=>(l,p,true)
 | f+1,m,l,p,b=>if 0 < m/\b=false then cr s f (m - 1) (l++[(opF s p b).1]) (opF s p b).2.1 (opF s p b).2.2 else (l,p,b)
def wOs (l:List Opn):Nat:=(l.map wO).sum
theorem tj (a b:List Opn):wOs (a++b)=wOs a+wOs b:=by simp [wOs]
theorem pY (l:List Opn):l.length<=wOs l:=by
 unfold wOs
 induction l with
 | nil=>simp
 | cons x r ih=>simp [wO] at ih ⊢;omega
theorem Bx {s:Str}:∀(f:Nat) (m:Int) (l:List Opn) (p:Int) (b:Bool),AtS s p→bW s p b<=f→
  AtS s (cr s f m l p b).2.1/\p<=(cr s f m l p b).2.1/\((cr s f m l p b).2.2=false→b=false)/\(wOs (cr s f m l p b).1:Int)+p<=wOs l+(cr s f m l p b).2.1+aB (!b && (cr s f m l p b).2.2) 3
 | 0,m,l,p,b,h,hf=>by have:=dJ (b:=b) h;omega
 | f+1,m,l,p,b,h,hf=>by
  unfold cr
  split
  ·rename_i k
   obtain ⟨k1,rfl⟩:=k
   obtain ⟨a3,a4,a5,a6⟩:=Bw (b:=false) h
   have hs:=da h a3 (fun q=>(a5 q).2)
   obtain ⟨b1,b2,b3,b4⟩:=Bx f (m - 1) (l++[(opF s p false).1]) (opF s p false).2.1 (opF s p false).2.2 a3 (by omega)
   refine ⟨b1,by omega,fun _=>rfl,?_⟩
   rw [tj] at b4
   have e1:wOs [(opF s p false).1]=wO (opF s p false).1:=by simp [wOs]
   rw [e1] at b4
   cases hc:(opF s p false).2.2 with
   | false=>
    rw [hc] at b4 a6
    simp [aB] at b4 a6 ⊢
    omega
   | true=>
    rw [hc] at b4 b3 a6
    have e:(cr s f (m - 1) (l++[(opF s p false).1]) (opF s p false).2.1 true).2.2=true:=by
     cases hh:(cr s f (m - 1) (l++[(opF s p false).1]) (opF s p false).2.1 true).2.2 with
     | true=>rfl
     | false=>exact absurd (b3 hh) (by simp)
    rw [hc] at b2
    rw [e] at b4 ⊢
    simp [aB] at b4 a6 ⊢
    omega
  ·exact ⟨h,Int.le_refl _,fun q=>q,by cases b <;> simp [aB]⟩
def wC (c:Chnk):Nat:=wOs c.ops+1
def wCs (l:List Chnk):Nat:=(l.map wC).sum
theorem tl (a b:List Chnk):wCs (a++b)=wCs a+wCs b:=by simp [wCs]
theorem pZ (l:List Chnk):l.length<=wCs l:=by
 unfold wCs
 induction l with
 | nil=>simp
 | cons x r ih=>simp [wC] at ih ⊢;omega
def ch1 (s:Str) (p:Int) (b:Bool):Int × Int × Bool:=tkN s p b
def ch2 (s:Str) (p:Int) (b:Bool):Int × Int × Bool:=tkN s (ch1 s p b).2.1 (ch1 s p b).2.2
def ch3 (s:Str) (p:Int) (b:Bool):List Opn × Int × Bool:=cr s (s.length+2) (ch2 s p b).1 [] (ch2 s p b).2.1 (ch2 s p b).2.2
theorem By {s:Str} {p:Int} {b:Bool} (h:AtS s p):AtS s (ch2 s p b).2.1/\p<=(ch2 s p b).2.1/\((ch2 s p b).2.2=false→b=false/\p+1 < (ch2 s p b).2.1):=by
 obtain ⟨a1,a2,a3,a4,a5⟩:=gQ (b:=b) h
 obtain ⟨b1,b2,b3,b4,b5⟩:=gQ (b:=(ch1 s p b).2.2) a3
 exact ⟨b3,Int.le_trans a4 b4,fun q=>by
  obtain ⟨c1,c2⟩:=b5 q
  obtain ⟨d1,d2⟩:=a5 c1
  have e1:(ch1 s p b).2.1=(tkN s p b).2.1:=rfl
  have e2:(ch2 s p b).2.1=(tkN s (ch1 s p b).2.1 (ch1 s p b).2.2).2.1:=rfl
  rw [e2]
  have e3:(tkN s (tkN s p b).2.1 (ch1 s p b).2.2).2.1=(tkN s (ch1 s p b).2.1 (ch1 s p b).2.2).2.1:=rfl
  exact ⟨d1,by omega⟩⟩
theorem Bz {s:Str} {p:Int} {b:Bool} (h:AtS s p):AtS s (ch3 s p b).2.1/\p<=(ch3 s p b).2.1/\((ch3 s p b).2.2=false→b=false/\p < (ch3 s p b).2.1)/\
  (wC ⟨(ch1 s p b).1,(ch3 s p b).1⟩:Int)+p<=(ch3 s p b).2.1+aB (ch3 s p b).2.2 4:=by
 obtain ⟨a1,a2,a3⟩:=By (b:=b) h
 obtain ⟨b1,b2,b3,b4⟩:=Bx (s.length+2) (ch2 s p b).1 [] (ch2 s p b).2.1 (ch2 s p b).2.2 a1 (fe a1)
 have e1:cr s (s.length+2) (ch2 s p b).1 [] (ch2 s p b).2.1 (ch2 s p b).2.2=ch3 s p b:=rfl
 rw [e1] at b1 b2 b3 b4
 refine ⟨b1,by omega,fun q=>?_,?_⟩
 ·obtain ⟨c1,c2⟩:=a3 (b3 q)
  exact ⟨c1,by omega⟩
 ·unfold wC
  simp only [wOs,List.map_nil,List.sum_nil] at b4 ⊢
  cases hc:(ch3 s p b).2.2 with
  | true=>
   have hsl:aB (!(ch2 s p b).2.2 && (ch3 s p b).2.2) 3<=3:=by unfold aB;split <;> omega
   simp only [aB,if_true]
   omega
  | false=>
   obtain ⟨c1,c2⟩:=a3 (b3 hc)
   rw [hc] at b4
   simp [aB] at b4 ⊢
   omega
def chL (s:Str):Nat→Int→List Chnk→Int→Bool→List Chnk × Int × Bool
 | 0,_,l,p,_=>(l,p,true)
 | f+1,m,l,p,b=>if 0 < m/\b=false then chL s f (m - 1) (l++[⟨(ch1 s p b).1,(ch3 s p b).1⟩]) (ch3 s p b).2.1 (ch3 s p b).2.2 else (l,p,b)
theorem DI {s:Str}:∀(f:Nat) (m:Int) (l:List Chnk) (p:Int) (b:Bool),AtS s p→bW s p b<=f→
  AtS s (chL s f m l p b).2.1/\p<=(chL s f m l p b).2.1/\((chL s f m l p b).2.2=false→b=false)/\(wCs (chL s f m l p b).1:Int)+p<=wCs l+(chL s f m l p b).2.1+aB (!b && (chL s f m l p b).2.2) 4
 | 0,m,l,p,b,h,hf=>by have:=dJ (b:=b) h;omega
 | f+1,m,l,p,b,h,hf=>by
  unfold chL
  split
  ·rename_i k
   obtain ⟨k1,rfl⟩:=k
   obtain ⟨a3,a4,a5,a6⟩:=Bz (b:=false) h
   have hs:=da h a3 (fun q=>(a5 q).2)
   obtain ⟨b1,b2,b3,b4⟩:=DI f (m - 1) (l++[⟨(ch1 s p false).1,(ch3 s p false).1⟩]) (ch3 s p false).2.1 (ch3 s p false).2.2 a3 (by omega)
   refine ⟨b1,by omega,fun _=>rfl,?_⟩
   rw [tl] at b4
   have e1:wCs [(⟨(ch1 s p false).1,(ch3 s p false).1⟩:Chnk)]=wC ⟨(ch1 s p false).1,(ch3 s p false).1⟩:=by simp [wCs]
   rw [e1] at b4
   cases hc:(ch3 s p false).2.2 with
   | false=>
    rw [hc] at b4 a6
    simp [aB] at b4 a6 ⊢
    omega
   | true=>
    rw [hc] at b4 b3 a6
    have e:(chL s f (m - 1) (l++[⟨(ch1 s p false).1,(ch3 s p false).1⟩]) (ch3 s p false).2.1 true).2.2=true:=by
     cases hh:(chL s f (m - 1) (l++[⟨(ch1 s p false).1,(ch3 s p false).1⟩]) (ch3 s p false).2.1 true).2.2 with
     | true=>rfl
     | false=>exact absurd (b3 hh) (by simp)
    rw [hc] at b2
    rw [e] at b4 ⊢
    simp [aB] at b4 a6 ⊢
    omega
  ·exact ⟨h,Int.le_refl _,fun q=>q,by cases b <;> simp [aB]⟩
def dB (s:Str):List Chnk × Int × Bool:=chL s (s.length+2) (tkN s 0 false).1 [] (tkN s 0 false).2.1 (tkN s 0 false).2.2
theorem BA (s:Str):(dB s).2.2=false→(wCs (dB s).1:Int)<=s.length:=by
 have h0:AtS s 0:=⟨Int.le_refl _,by omega⟩
 obtain ⟨a1,a2,a3,a4,a5⟩:=gQ (b:=false) h0
 obtain ⟨b1,b2,b3,b4⟩:=DI (s.length+2) (tkN s 0 false).1 [] (tkN s 0 false).2.1 (tkN s 0 false).2.2 a3 (fe a3)
 have e1:chL s (s.length+2) (tkN s 0 false).1 [] (tkN s 0 false).2.1 (tkN s 0 false).2.2=dB s:=rfl
 rw [e1] at b1 b2 b3 b4
 intro q
 rw [q] at b4
 simp [aB,wCs] at b4 ⊢
 unfold AtS at b1
 omega
def b6 (n:Int):Str:=bQ (IntKind.u64.wrap n)
theorem bO (n:Int):(b6 n).length<=9:=jo _
def wA (o:Opn):Str:=b6 o.kind++b6 o.n++b7 o.name++cM o.names++b6 o.tos.length
def fX (o:Opn):Str:=wA o++o.tos.flatMap b6++b6 o.pos
def zk (c:Chnk):Str:=b6 c.args++b6 c.ops.length
def iR (c:Chnk):Str:=zk c++c.ops.flatMap fX
def kJ (l:List Chnk):Str:=b6 l.length++l.flatMap iR
theorem BB (l:List Str):(cM l).length<=9+9 *wL l:=by
 unfold cM
 have h:=jo (l.length:Int)
 have:(l.flatMap b7).length<=9 *wL l:=by
  unfold wL
  induction l with
  | nil=>simp
  | cons x r ih=>
   have h9:=jo (x.length:Int)
   have:=ih (jo _)
   simp [b7] at this ⊢
   omega
 rw [List.length_append]
 omega
theorem D2 (o:Opn):(fX o).length<=63 *wO o:=by
 have h1:=bO o.kind
 have h2:=bO o.n
 have h3:=jo (o.name.length:Int)
 have h4:=BB o.names
 have h5:=bO (o.tos.length:Int)
 have h6:=bO o.pos
 have h7:(o.tos.flatMap b6).length<=9 *o.tos.length:=by
  generalize o.tos=l
  induction l with
  | nil=>simp
  | cons x r ih=>have:=bO x;simp at ih ⊢;omega
 unfold fX wA wO b7
 simp only [List.length_append]
 omega
theorem D3 (c:Chnk):(iR c).length<=63 *wC c:=by
 have h1:=bO c.args
 have h2:=bO (c.ops.length:Int)
 have h3:(c.ops.flatMap fX).length<=63 *wOs c.ops:=by
  generalize c.ops=l
  unfold wOs
  induction l with
  | nil=>simp
  | cons x r ih=>have:=D2 x;simp at ih ⊢;omega
 unfold iR zk wC
 simp only [List.length_append]
 omega
theorem xX (l:List Chnk):(kJ l).length<=9+63 *wCs l:=by
 have h1:=bO (l.length:Int)
 have h3:(l.flatMap iR).length<=63 *wCs l:=by
  generalize l=l
  unfold wCs
  induction l with
  | nil=>simp
  | cons x r ih=>have:=D3 x;simp at ih ⊢;omega
 unfold kJ
 simp only [List.length_append]
 omega
def prC (l:List Chnk) (k:Nat):Str:=b6 l.length++(l.take k).flatMap iR
def prO (c:Chnk) (j:Nat):Str:=zk c++(c.ops.take j).flatMap fX
def prT (o:Opn) (i:Nat):Str:=wA o++(o.tos.take i).flatMap b6
theorem gH {α:Type} (l:List α) (k:Nat) (d:α) (h:k < l.length):l.take (k+1)=l.take k++[l.getD k d]:=by
 rw [List.take_add_one,List.getElem?_eq_getElem h]
 simp [h]
theorem q8 {l:List Chnk} {k:Nat} (h:k < l.length):prC l (k+1)=prC l k++iR (l.getD k default):=by
 unfold prC;rw [gH l k default h];simp
theorem q9 {c:Chnk} {k:Nat} (h:k < c.ops.length):prO c (k+1)=prO c k++fX (c.ops.getD k default):=by
 unfold prO;rw [gH c.ops k default h];simp
theorem uH {o:Opn} {k:Nat} (h:k < o.tos.length):prT o (k+1)=prT o k++b6 (o.tos.getD k 0):=by
 unfold prT;rw [gH o.tos k 0 h];simp
theorem xY (l:List Chnk):prC l l.length=kJ l:=by unfold prC;rw [List.take_length];rfl
theorem xZ (c:Chnk):prO c c.ops.length=iR c:=by unfold prO;rw [List.take_length];rfl
theorem y0 (o:Opn):prT o o.tos.length++b6 o.pos=fX o:=by unfold prT;rw [List.take_length];rfl
theorem jq {α β:Type} (f:α→List β) (l:List α) (k:Nat):((l.take k).flatMap f).length<=(l.flatMap f).length:=by
 have e:l.flatMap f=(l.take k).flatMap f++(l.drop k).flatMap f:=by rw [←List.flatMap_append,List.take_append_drop]
 rw [e,List.length_append]
 omega
theorem wB (l:List Chnk) (k:Nat):(prC l k).length<=(kJ l).length:=by
 have:=jq iR l k
 unfold prC kJ;simp only [List.length_append];omega
theorem wD (c:Chnk) (k:Nat):(prO c k).length<=(iR c).length:=by
 have:=jq fX c.ops k
 unfold prO iR;simp only [List.length_append];omega
theorem BC (o:Opn) (k:Nat):(prT o k).length<=(fX o).length:=by
 have:=jq b6 o.tos k
 unfold prT fX;simp only [List.length_append];omega
theorem qa {l:List Chnk} {k:Nat} (h:k < l.length):(iR (l.getD k default)).length<=(kJ l).length:=by
 have:=wB l (k+1)
 rw [q8 h,List.length_append] at this
 omega
theorem qb {c:Chnk} {k:Nat} (h:k < c.ops.length):(fX (c.ops.getD k default)).length<=(iR c).length:=by
 have:=wD c (k+1)
 rw [q9 h,List.length_append] at this
 omega
theorem lg (o:Opn):(b7 o.name).length<=(fX o).length/\(cM o.names).length<=(fX o).length/\o.name.length<=(fX o).length:=by
 unfold fX wA
 have:o.name.length<=(b7 o.name).length:=by unfold b7;rw [List.length_append];omega
 simp only [List.length_append]
 omega
theorem qc (n:Int):1<=(bQ n).length:=by
 unfold bQ
 split
 ·simp [eK]
 ·simp [eJ,hZ]
theorem qd (c:Chnk):c.ops.length<=(iR c).length:=by
 have:c.ops.length<=(c.ops.flatMap fX).length:=by
  generalize c.ops=l
  induction l with
  | nil=>simp
  | cons x r ih=>
   have:1<=(fX x).length:=by
    have:=qc (IntKind.u64.wrap x.pos)
    unfold fX b6
    simp only [List.length_append]
    omega
   simp only [List.flatMap_cons,List.length_append,List.length_cons]
   omega
 unfold iR
 simp only [List.length_append]
 omega
theorem lh (o:Opn):o.tos.length<=(fX o).length:=by
 have:o.tos.length<=(o.tos.flatMap b6).length:=by
  generalize o.tos=l
  induction l with
  | nil=>simp
  | cons x r ih=>
   have:=qc (IntKind.u64.wrap x)
   simp only [List.flatMap_cons,List.length_append,List.length_cons]
   unfold b6 at ih ⊢
   omega
 unfold fX
 simp only [List.length_append]
 omega
theorem tm (l:List Str):l.length<=(cM l).length:=by
 unfold cM
 have:l.length<=(l.flatMap b7).length:=by
  induction l with
  | nil=>simp
  | cons x r ih=>
   have:=qc (x.length:Int)
   simp [b7] at ih ⊢
   omega
 rw [List.length_append]
 omega
end Go.Pd
end
noncomputable section
namespace Go.Pd
open Go Go.AL
def is8 (k:Int):Bool:=decide (k=1) || decide (k=4) || decide (k=6) || decide (k=7) || decide (k=11) || decide (k=13) || decide (k=14) || decide (k=15)
def isB (k:Int):Bool:=decide (k=9) || decide (k=10)
def isU (k:Int):Bool:=decide (k=17) || decide (k=18)
def isR (k:Int):Bool:=decide (k=8) || decide (k=16)
def is6 (k:Int):Bool:=decide (k=1) || decide (k=2) || decide (k=3) || decide (k=4) || decide (k=6) || decide (k=5)
def is4 (k:Int):Bool:=decide (k=9) || decide (k=10) || decide (k=17) || decide (k=18)
def is2 (k:Int):Bool:=decide (k=12) || decide (k=14)
def toN (o:Opn):Int:=if o.kind=16 then o.names.length else 0
def ib (n d a:Bool) (o:Opn):Bool:=
 !((!n && (!decide (o.n=0) || decide (o.kind=3) || decide (o.kind=5))) || (!d && (!decide (o.name=[]) || decide (17<=o.kind) || decide (o.kind=9) || decide (o.kind=10)))) &&
 ((a || decide (o.names.length=0)) && decide ((o.tos.length:Int)=toN o) && decide (0<=o.pos))
def bL (o:Opn):Bool:=
 if is8 o.kind=true then ib (decide (0<=o.n)) false false o
 else if o.kind=3 then ib (decide (o.n=0) || decide (o.n=1)) false false o
 else if o.kind=5 then ib (decide (o.n=110)) false false o
 else if o.kind=2 then ib false true false o
 else if isB o.kind=true then ib false (bZ o.name) false o
 else if isU o.kind=true then ib false (fb o.name) false o
 else if isR o.kind=true then ib false false (dq o.names) o
 else if o.kind=12 then ib false false false o
 else false
def aY (o:Opn):Int × Int:=
 if is6 o.kind=true then (0,1)
 else if o.kind=7 then (IntKind.i64.wrap (o.n+1),1)
 else if o.kind=8 then (o.names.length,1)
 else if o.kind=11 then (o.n,1)
 else if is4 o.kind=true then (1,1)
 else if o.kind=16 then (if o.names.length=0 then (1,1) else (1,0))
 else if is2 o.kind=true then (1,0)
 else (0,0)
def eqT (x y:Stt):Bool:=decide (x.things=y.things) && decide (x.names=y.names)
def bh (l:List Stt) (tgt:Int) (s:Stt):List Stt:=if (l.getD tgt.toNat default).things < 0 then l.set tgt.toNat s else l
def bn (l:List Stt) (tgt:Int) (s:Stt):Bool:=eqT ((bh l tgt s).getD tgt.toNat default) s
theorem ck (l:List Stt) (tgt:Int) (s:Stt):(bh l tgt s).length=l.length:=by unfold bh;split <;> simp
def DJ (l:List Stt) (n:Nat):List (Nat × SObj):=[(900,.box (.arr 901 n 2)),(901,.box (.row (.st .stt) l))]
def DK (l:List Stt) (n:Nat) (tgt:Int) (s:Stt):Ans:=⟨some (0<=tgt/\tgt < n/\n=l.length),none,.bool (bn l tgt s),DJ (bh l tgt s) n⟩
def BD:Pat:=fun args S=>
 match args,S with
 | [.int .i64 tgt,a,.ptr 900 0],[(900,.box (.arr 901 n 2)),(901,.box (.row (.st .stt) l))]=>(match arg (.st .stt) a with | some s=>some (DK l n tgt s) | none=>none)
 | _,_=>none
theorem BE [Tabs] {P:Program} {f:Nat} (he:aV P f) (h:∀(l:List Stt) (n:Nat) (tgt:Int) (s:Stt),0<=tgt/\tgt < n/\n=l.length→bd P f [.int .i64 tgt,.st .stt s,.ptr 900 0] (DJ l n) (DK l n tgt s)):an P f BD:=by
 intro args S A hA ho _
 unfold BD at hA
 split at hA
 ·split at hA
  ·rename_i s hs
   simp only [Xs] at hA
   subst hA
   exact ⟨he,bd.args (.cons (Rd.refl _) (.cons (Rd.arg hs) (.cons (Rd.refl _) .nil))) (h _ _ _ _ (ho _ rfl))⟩
  ·cases hA
 ·cases hA
def oD (l:List Stt) (i:Int) (s:Stt) (goes:Bool) (bs:List Stt):Bool × List Stt × List Stt:=if goes=true then (bn l (i+1) s,bh l (i+1) s,bs) else (false,l,bs)
def cb (i:Int) (n:Nat) (s:Stt):List Int→List Stt→Bool × List Stt
 | [],l=>(true,l)
 | tgt ::r,l=>if tgt<=i∨(n:Int) < tgt∨bn l tgt s=false then (false,l) else cb i n s r (bh l tgt s)
def s1F (o:Opn) (s:Stt):Stt:=⟨IntKind.i64.wrap (s.things+IntKind.i64.wrap ((aY o).2 - (aY o).1)),s.names⟩
def lj (code:List Chnk) (o:Opn) (s:Stt):Stt:=⟨0,IntKind.i64.wrap (s.names+(code.getD o.n.toNat default).args)⟩
def gK (code:List Chnk) (k:Int) (b0:Stt) (n:Nat) (i:Int) (o:Opn) (l bs:List Stt):Bool:=
 if o.kind=4 then decide (o.n < (l.getD i.toNat default).names)
 else if o.kind=6 then !(decide (o.n<=k) || decide ((code.length:Int)<=o.n)) && !(decide (0<=(bs.getD o.n.toNat default).things) && !eqT (bs.getD o.n.toNat default) (lj code o (l.getD i.toNat default)))
 else if o.kind=13 then !decide (IntKind.i64.wrap ((l.getD i.toNat default).names - b0.names) < o.n)
 else if o.kind=15∨o.kind=14 then decide (i < o.n) && decide (o.n<=(n:Int)) && bn l o.n (s1F o (l.getD i.toNat default))
 else if o.kind=16/\o.tos.length≠0 then (cb i n ⟨(s1F o (l.getD i.toNat default)).things,IntKind.i64.wrap ((l.getD i.toNat default).names+1)⟩ o.tos l).1
 else true
def gF (code:List Chnk) (k:Int) (b0:Stt) (n:Nat) (i:Int) (o:Opn) (l bs:List Stt):Bool:=
 if (l.getD i.toNat default).things < 0∨bL o=false∨(l.getD i.toNat default).things < (aY o).1 then false else gK code k b0 n i o l bs
def lF (n:Nat) (i:Int) (o:Opn) (l:List Stt):List Stt:=
 if (o.kind=15∨o.kind=14)/\i < o.n/\o.n<=(n:Int) then bh l o.n (s1F o (l.getD i.toNat default))
 else if o.kind=16/\o.tos.length≠0 then (cb i n ⟨(s1F o (l.getD i.toNat default)).things,IntKind.i64.wrap ((l.getD i.toNat default).names+1)⟩ o.tos l).2
 else l
def sF (n:Nat) (i:Int) (o:Opn) (l:List Stt):Stt:=
 if o.kind=12 then ⟨(s1F o (l.getD i.toNat default)).things,IntKind.i64.wrap ((l.getD i.toNat default).names+1)⟩
 else if o.kind=13 then ⟨(s1F o (l.getD i.toNat default)).things,IntKind.i64.wrap ((l.getD i.toNat default).names - o.n)⟩
 else if o.kind=15∨o.kind=16/\o.tos.length≠0 then (lF n i o l).getD (i+1).toNat default
 else s1F o (l.getD i.toNat default)
def bF (code:List Chnk) (k:Int) (b0:Stt) (n:Nat) (i:Int) (o:Opn) (l bs:List Stt):List Stt:=
 if o.kind=6/\gF code k b0 n i o l bs=true then bs.set o.n.toNat (lj code o (l.getD i.toNat default)) else bs
def rC (code:List Chnk) (k:Int) (b0:Stt) (n:Nat) (i:Int) (o:Opn) (l bs:List Stt):Bool × List Stt × List Stt:=
 oD (lF n i o l) i (sF n i o l) (gF code k b0 n i o l bs) (bF code k b0 n i o l bs)
def cO (code:List Chnk) (k:Int) (b0:Stt) (n:Nat):List Opn→Int→List Stt→List Stt→Bool × List Stt
 | [],_,l,bs=>(eqT (l.getD n default) ⟨1,b0.names⟩,bs)
 | o ::r,i,l,bs=>
  if (rC code k b0 n i o l bs).1=true then cO code k b0 n r (i+1) (rC code k b0 n i o l bs).2.1 (rC code k b0 n i o l bs).2.2 else (false,(rC code k b0 n i o l bs).2.2)
theorem kc (i:Int) (n:Nat) (s:Stt):∀(t:List Int) (l:List Stt),(cb i n s t l).2.length=l.length
 | [],l=>rfl
 | tgt ::r,l=>by
  unfold cb
  split
  ·rfl
  ·rw [kc i n s r,ck]
theorem rD (n:Nat) (i:Int) (o:Opn) (l:List Stt):(lF n i o l).length=l.length:=by
 unfold lF
 split
 ·exact ck _ _ _
 ·split
  ·exact kc _ _ _ _ _
  ·rfl
theorem mK (code:List Chnk) (k:Int) (b0:Stt) (n:Nat) (i:Int) (o:Opn) (l bs:List Stt):(bF code k b0 n i o l bs).length=bs.length:=by
 unfold bF
 split <;> simp
theorem kD {code:List Chnk} {k:Int} {b0:Stt} {n:Nat} {i:Int} {o:Opn} {l bs:List Stt} (r:List Opn) (h:gF code k b0 n i o l bs=false):cO code k b0 n (o ::r) i l bs=(false,bs):=by
 have e:bF code k b0 n i o l bs=bs:=by unfold bF;rw [if_neg (fun z=>by rw [h] at z;cases z.2)]
 unfold cO rC oD
 simp only [h,e]
 rfl
theorem mL {code:List Chnk} {k:Int} {b0:Stt} {n:Nat} {i:Int} {o:Opn} {l bs:List Stt} (r:List Opn) (h:gF code k b0 n i o l bs=true) :
  cO code k b0 n (o ::r) i l bs=if bn (lF n i o l) (i+1) (sF n i o l)=true then cO code k b0 n r (i+1) (bh (lF n i o l) (i+1) (sF n i o l)) (bF code k b0 n i o l bs) else (false,bF code k b0 n i o l bs):=by
 rw [cO]
 unfold rC oD
 simp only [h,if_true]
theorem uI (l:List Stt) (t:Nat):l.set t (l.getD t default)=l:=by
 by_cases h:t < l.length
 ·have e:l.getD t default=l[t]:=by simp [h]
  rw [e,List.set_getElem_self]
 ·exact List.set_eq_of_length_le (by omega)
theorem rE (l:List Stt) (t:Int):bh l t (l.getD t.toNat default)=l/\bn l t (l.getD t.toNat default)=true:=by
 have e:bh l t (l.getD t.toNat default)=l:=by
  unfold bh
  split
  ·exact uI _ _
  ·rfl
 refine ⟨e,?_⟩
 unfold bn eqT
 rw [e]
 simp
theorem qe {code:List Chnk} {k:Int} {b0:Stt} {n:Nat} {i:Int} {o:Opn} {l bs:List Stt} (r:List Opn) (h:gF code k b0 n i o l bs=true) (hs:sF n i o l=(lF n i o l).getD (i+1).toNat default) :
  cO code k b0 n (o ::r) i l bs=cO code k b0 n r (i+1) (lF n i o l) (bF code k b0 n i o l bs):=by
 rw [mL r h,hs,(rE _ _).1,(rE _ _).2,if_pos rfl]
def cP (code:List Chnk) (k:Int):Chnk:=code.getD k.toNat default
def aF (code:List Chnk) (k:Int):Nat:=(cP code k).ops.length
def cJ (m j:Nat):List Stt:=List.replicate j ⟨-1,0⟩++List.replicate (m - j) ⟨0,0⟩
def bU (code:List Chnk) (k:Int) (bs:List Stt):Bool × List Stt:=
 if bn (cJ (aF code k+1) (aF code k+1)) 0 (bs.getD k.toNat default)=true then
  cO code k (bs.getD k.toNat default) (aF code k) (cP code k).ops 0 (bh (cJ (aF code k+1) (aF code k+1)) 0 (bs.getD k.toNat default)) bs
 else (false,bs)
theorem cq {m j:Nat} (h:j<=m):(cJ m j).length=m:=by simp [cJ];omega
theorem rF {m j:Nat} (h:j < m):(cJ m j).getD j default=⟨0,0⟩:=by
 unfold cJ
 rw [List.getD_eq_getElem?_getD,List.getElem?_append_right (by simp)]
 simp [List.getElem?_replicate,show 0 < m - j by omega]
theorem uJ {m j:Nat} (h:j < m) (d:Stt):(cJ m j).set j ⟨-1,0⟩=cJ m (j+1):=by
 unfold cJ
 rw [List.set_append_right _ _ (by simp)]
 have e:m - j=(m - (j+1))+1:=by omega
 rw [e,List.replicate_succ]
 simp [List.replicate_succ',List.append_assoc]
theorem qS (code:List Chnk) (k:Int) (bs:List Stt):(bU code k bs).2.length=bs.length:=by
 have h:∀(b0:Stt) (n:Nat) (r:List Opn) (i:Int) (l bs:List Stt),(cO code k b0 n r i l bs).2.length=bs.length:=by
  intro b0 n r
  induction r with
  | nil=>intro i l bs;rfl
  | cons o r ih=>
   intro i l bs
   cases hg:gF code k b0 n i o l bs with
   | false=>rw [kD r hg]
   | true=>
    rw [mL r hg]
    split
    ·rw [ih,mK]
    ·exact mK _ _ _ _ _ _ _ _
 unfold bU
 split
 ·exact h _ _ _ _ _ _
 ·rfl
def D4 (code:List Chnk) (k:Int) (bs:List Stt) (n:Nat):Prop:=
 0<=k/\k < (code.length:Int)/\bs.length=code.length/\n=code.length/\aF code k<=4096/\∀o∈(cP code k).ops,o.names.length *16<=140737488355328/\o.tos.length<=140737488355328
def chkS (code:List Chnk) (bs:List Stt) (n:Nat):List (Nat × SObj):=[(900,.box (.agg [.lst (.st .chunk) code none,.arr 901 n 2])),(901,.box (.row (.st .stt) bs))]
def chkA (code:List Chnk) (k:Int) (bs:List Stt) (n:Nat):Ans:=⟨some (D4 code k bs n),none,.bool (bU code k bs).1,chkS code (bU code k bs).2 n⟩
def Ee:Pat:=fun args S=>
 match args,S with
 | [.ptr 900 0,.int .i64 k],[(900,.box (.agg [.lst (.st .chunk) code none,.arr 901 n 2])),(901,.box (.row (.st .stt) bs))]=>some (chkA code k bs n)
 | _,_=>none
theorem D5 [Tabs] {P:Program} {f:Nat} (he:aV P f) (h:∀(code:List Chnk) (k:Int) (bs:List Stt) (n:Nat),D4 code k bs n→bd P f [.ptr 900 0,.int .i64 k] (chkS code bs n) (chkA code k bs n)):an P f Ee:=by
 intro args S A hA ho _
 unfold Ee at hA
 split at hA
 ·simp only [Xs] at hA
  subst hA
  exact ⟨he,h _ _ _ _ (ho _ rfl)⟩
 ·cases hA
def D6 (S0:St) (i j:Nat) (f:List Stt→Stt→LA):LA:=
 match ah S0.b i,ah S0.b j with
 | some (.box (.row (.st .stt) l)),some (.box c)=>(match arg (.st .stt) c with | some s=>f l s | none=>⟨Nat,fun _=>False,fun _=>[],fun _=>[],fun _=>0⟩)
 | _,_=>⟨Nat,fun _=>False,fun _=>[],fun _=>[],fun _=>0⟩
def Ef (S0:St) (f:Int→List Stt→List Stt→List (Nat × AV) × List (Nat × SObj)):List (Nat × AV) × List (Nat × SObj):=
 match aM S0.t 55,ah S0.b 37,ah S0.b 901 with
 | .int _ i,some (.box (.row (.st .stt) l)),some (.box (.row (.st .stt) bs))=>f i l bs
 | _,_,_=>([],[])
def kK (l:List Chnk):Prop:=(kJ l).length<=8796093022208
def bz:List Chnk→Int→Bool
 | [],_=>true
 | c ::r,z=>if c.args < 0∨4096 < c.args∨4096 - z < (c.ops.length:Int) then false else bz r (z+c.ops.length)
def bg0 (n:Nat) (scope:Int):List Stt:=(cJ n n).set 0 ⟨0,scope⟩
def lk (code:List Chnk):Nat→Nat→List Stt→Bool
 | 0,_,_=>true
 | r+1,k,bs=>if (bs.getD k default).things < 0 then false else if (bU code k bs).1=true then lk code r (k+1) (bU code k bs).2 else false
def iw (code:List Chnk) (scope:Int):Int:=
 if scope < 0∨1000000 < scope∨code.length=0∨4096 < code.length∨(code.getD 0 default).args≠0 then 310
 else if bz code 0=false then 310
 else if lk code code.length 0 (bg0 code.length scope)=true then 0 else 310
theorem lp (n:Nat) (scope:Int):(bg0 n scope).length=n:=by unfold bg0;rw [List.length_set,cq (Nat.le_refl _)]
theorem dr {α:Type} (l:List α) (k:Nat) (d:α) (h:k < l.length):l.getD k d=l[k]:=by rw [List.getD_eq_getElem?_getD,List.getElem?_eq_getElem h];rfl
theorem D7 {l:List Chnk} (h:kK l) {c:Chnk} (hc:c∈l) {o:Opn} (ho:o∈c.ops):o.names.length *16<=140737488355328/\o.tos.length<=140737488355328:=by
 have a:(iR c).length<=(kJ l).length:=by
  obtain ⟨k,hk,e⟩:=List.mem_iff_getElem.1 hc
  have a:=qa hk
  rw [dr _ _ _ hk,e] at a
  exact a
 have b:(fX o).length<=(iR c).length:=by
  obtain ⟨k,hk,e⟩:=List.mem_iff_getElem.1 ho
  have a:=qb hk
  rw [dr _ _ _ hk,e] at a
  exact a
 have d:=(lg o).2.1
 have e:=tm o.names
 have f:=lh o
 unfold kK at h
 omega
end Go.Pd
end
section
namespace Go.Pd
open Go.AL
def p0 (A:Ans):Pat
 | [],[]=>some A
 | _,_=>none
theorem EG [Tabs] {P:Program} {f:Nat} {A:Ans} (he:aV P f) (h:bd P f [] [] A):an P f (p0 A):=by
 intro args S A' hA _ _
 unfold p0 at hA
 split at hA
 ·simp only [Xs] at hA
  subst hA
  exact ⟨he,h⟩
 ·cases hA
end Go.Pd
end
noncomputable section
namespace Go.Pd
open Go Go.AL
def Eg (s:Str) (p:Int) (b:Bool):List (Nat × SObj):=[(900,.box (.agg [.str s,.int .i64 p,.bool b]))]
def D8 (F:Str→Int→Bool→Ans):Pat:=fun args S=>
 match args,S with
 | [.ptr 900 0],[(900,.box (.agg [.str s,.int .i64 p,.bool b]))]=>some (F s p b)
 | _,_=>none
theorem y5 [Tabs] {P:Program} {f:Nat} {F:Str→Int→Bool→Ans} (he:aV P f)
  (h:∀s p b,(∀q,(F s p b).ob=some q→q)→bd P f [.ptr 900 0] (Eg s p b) (F s p b)):an P f (D8 F):=by
 intro args S A hA ho _
 unfold D8 at hA
 split at hA
 ·simp only [Xs] at hA
  subst hA
  exact ⟨he,h _ _ _ ho⟩
 ·cases hA
def tkA (s:Str) (p:Int) (b:Bool):Ans:=⟨none,none,.int .i64 (tkN s p b).1,Eg s (tkN s p b).2.1 (tkN s p b).2.2⟩
def opA (s:Str) (p:Int) (b:Bool):Ans:=⟨some (AtS s p/\s.length<=68719476736),none,.st .op (opF s p b).1,Eg s (opF s p b).2.1 (opF s p b).2.2⟩
def D9 (S0:St) (i:Nat) (f:Int→Bool→LA):LA:=match ah S0.b i with | some (.box (.agg [.str _,.int .i64 p,.bool b]))=>f p b | _=>⟨Nat,fun _=>False,fun _=>[],fun _=>[],fun _=>0⟩
def Da (S0:St) (i:Nat) (f:Int→LA):LA:=match ah S0.b i with | some (.box (.agg [.int .i64 a,_]))=>f a | _=>⟨Nat,fun _=>False,fun _=>[],fun _=>[],fun _=>0⟩
def db (l:List Chnk):Str × Int:=if iw l 1000≠0 then ([],310) else (kJ l,0)
def dD (s:Str):List Chnk × Int:=
 if (dB s).2.2=true∨(dB s).2.1≠s.length then ([],310) else if (db (dB s).1).2≠0∨(db (dB s).1).1≠s then ([],310) else ((dB s).1,0)
end Go.Pd
end
section
open Go Go.AL Go.Pd
namespace Go.AL.Seat
theorem BF (c:Int)  :
  if decide ((97:Int)<=c)=true then True/\decide (c<=(122:Int))=bT c/\True else True/\false=bT c/\True:=by
 unfold bT;simp only [jW];split <;> simp [*]
theorem BG (c:Int)  :
  if decide ((65:Int)<=c)=true then True/\decide (c<=(90:Int))=bY c/\True else True/\false=bY c/\True:=by
 unfold bY;simp only [jW];split <;> simp [*]
theorem BH (c:Int)  :
  if decide ((48:Int)<=c)=true then True/\decide (c<=(57:Int))=fa c/\True else True/\false=fa c/\True:=by
 unfold fa;simp only [jW];split <;> simp [*]
theorem Db (c:Int)  :
  let A:=True/\true=dK c/\True;if bT c=true then A else if bY c=true then A else if fa c=true then A else True/\decide (c=(95:Int))=dK c/\True:=by
 conv=>zeta
 unfold dK;cases bT c <;> cases bY c <;> cases fa c <;> simp
theorem zl (s:Str) (hs:Wf .str s) :
  let A:=True/\false=cw bT s/\True;let B:=(↑(List.length s):Int);let C:=(0:Int);let D:=s=s/\false=false/\B=B/\True;if decide (s=[])=true then A else if decide ((24:Int)<B)=true then A else (C<=C/\C<B)/\if (!bT (↑(UInt8.toNat (List.getD s (Int.toNat C) (0:UInt8))):Int))=true then A else (∃(x:Nat),(x<=List.length s/\cw bT s=List.all (List.drop x s) fun (c:UInt8)=>dK (bI c))/\C=(↑x:Int)/\D)/\∀(x:Nat),let E:=(↑x:Int);(x<=List.length s/\cw bT s=List.all (List.drop x s) fun (c:UInt8)=>dK (bI c))→if decide (E<B)=true then (C<=E/\E<B)/\if (!dK (↑(UInt8.toNat (List.getD s (Int.toNat E) (0:UInt8))):Int))=true then A else inR IntKind.i64 (E+(1:Int))/\∃(y:Nat),(y<=List.length s/\cw bT s=List.all (List.drop y s) fun (c:UInt8)=>dK (bI c))/\List.length s - y<List.length s - x/\E+(1:Int)=(↑y:Int)/\D else True/\true=cw bT s/\True:=by
 conv=>zeta
 have hlen:=hs.str
 have eb:∀b:UInt8,(b.toNat:Int)=bI b:=fun _=>rfl
 simp only [jW,Int.toNat_natCast,Int.toNat_zero,true_and,and_true,eb,cw]
 generalize bT (bI (s.getD 0 0))=f0
 by_cases h0:s=[]
 ·simp [h0]
 have hpos:0 < s.length:=List.length_pos_iff.2 h0
 by_cases h1:s.length<=24
 ·rw [if_neg h0,if_neg (by omega)]
  refine ⟨by omega,?_⟩
  cases f0 with
  | false=>simp
  | true=>
   simp only [Bool.not_true,Bool.false_eq_true,if_false,h0,h1,decide_false,decide_true,Bool.not_false,Bool.true_and]
   refine ⟨⟨0,⟨by omega,rfl⟩,rfl⟩,?_⟩
   rintro k ⟨h3,h4⟩
   split
   ·have hk:k < s.length:=by omega
    rw [bS s k 0 hk,List.all_cons] at h4
    generalize dK (bI (s.getD k 0))=r at h4 ⊢
    refine ⟨by omega,?_⟩
    cases r with
    | false=>simpa using h4.symm
    | true=>
     simp only [Bool.not_true,Bool.false_eq_true,if_false]
     exact ⟨kA hk hlen,k+1,⟨by omega,by simpa using h4⟩,by omega,by omega⟩
   ·have hk:k=s.length:=by omega
    subst hk
    simpa using h4.symm
 ·rw [if_neg h0,if_pos (by omega)]
  simp [h1]
theorem zm (s:Str) (hs:Wf .str s) :
  let A:=True/\false=cw bY s/\True;let B:=(↑(List.length s):Int);let C:=(0:Int);let D:=s=s/\false=false/\B=B/\True;if decide (s=[])=true then A else if decide ((24:Int)<B)=true then A else (C<=C/\C<B)/\if (!bY (↑(UInt8.toNat (List.getD s (Int.toNat C) (0:UInt8))):Int))=true then A else (∃(x:Nat),(x<=List.length s/\cw bY s=List.all (List.drop x s) fun (c:UInt8)=>dK (bI c))/\C=(↑x:Int)/\D)/\∀(x:Nat),let E:=(↑x:Int);(x<=List.length s/\cw bY s=List.all (List.drop x s) fun (c:UInt8)=>dK (bI c))→if decide (E<B)=true then (C<=E/\E<B)/\if (!dK (↑(UInt8.toNat (List.getD s (Int.toNat E) (0:UInt8))):Int))=true then A else inR IntKind.i64 (E+(1:Int))/\∃(y:Nat),(y<=List.length s/\cw bY s=List.all (List.drop y s) fun (c:UInt8)=>dK (bI c))/\List.length s - y<List.length s - x/\E+(1:Int)=(↑y:Int)/\D else True/\true=cw bY s/\True:=by
 conv=>zeta
 have hlen:=hs.str
 have eb:∀b:UInt8,(b.toNat:Int)=bI b:=fun _=>rfl
 simp only [jW,Int.toNat_natCast,Int.toNat_zero,true_and,and_true,eb,cw]
 generalize bY (bI (s.getD 0 0))=f0
 by_cases h0:s=[]
 ·simp [h0]
 have hpos:0 < s.length:=List.length_pos_iff.2 h0
 by_cases h1:s.length<=24
 ·rw [if_neg h0,if_neg (by omega)]
  refine ⟨by omega,?_⟩
  cases f0 with
  | false=>simp
  | true=>
   simp only [Bool.not_true,Bool.false_eq_true,if_false,h0,h1,decide_false,decide_true,Bool.not_false,Bool.true_and]
   refine ⟨⟨0,⟨by omega,rfl⟩,rfl⟩,?_⟩
   rintro k ⟨h3,h4⟩
   split
   ·have hk:k < s.length:=by omega
    rw [bS s k 0 hk,List.all_cons] at h4
    generalize dK (bI (s.getD k 0))=r at h4 ⊢
    refine ⟨by omega,?_⟩
    cases r with
    | false=>simpa using h4.symm
    | true=>
     simp only [Bool.not_true,Bool.false_eq_true,if_false]
     exact ⟨kA hk hlen,k+1,⟨by omega,by simpa using h4⟩,by omega,by omega⟩
   ·have hk:k=s.length:=by omega
    subst hk
    simpa using h4.symm
 ·rw [if_neg h0,if_pos (by omega)]
  simp [h1]
theorem Dc (s:Str)  :
  let A:=101;let B:=True/\true=lS s/\True;if decide (s=([109,111,100,117,108,A]:Str))=true then B else if decide (s=([105,109,112,111,114,116]:Str))=true then B else if decide (s=([112,105,110]:Str))=true then B else if decide (s=([114,97,110,103,A]:Str))=true then B else if decide (s=([116,121,112,A]:Str))=true then B else if decide (s=([111,112,97,113,117,A]:Str))=true then B else if decide (s=([108,A,116]:Str))=true then B else if decide (s=([105,110]:Str))=true then B else if decide (s=([A,120,112,111,114,116]:Str))=true then B else if decide (s=([102,117,110]:Str))=true then B else if decide (s=([105,102]:Str))=true then B else if decide (s=([116,104,A,110]:Str))=true then B else if decide (s=([A,108,115,A]:Str))=true then B else if decide (s=([99,97,115,A]:Str))=true then B else if decide (s=([111,102]:Str))=true then B else if decide (s=([97,115]:Str))=true then B else if decide (s=([110,A,119]:Str))=true then B else if decide (s=([114,97,119]:Str))=true then B else if decide (s=([116,114,117,A]:Str))=true then B else if decide (s=([102,97,108,115,A]:Str))=true then B else True/\false=lS s/\True:=by
 conv=>zeta
 refine a7 (fun h=>?_) (fun h0=>?_)
 ·rw [Xo h];exact ⟨trivial,rfl,trivial⟩
 refine a7 (fun h=>?_) (fun h1=>?_)
 ·rw [Xo h];exact ⟨trivial,rfl,trivial⟩
 refine a7 (fun h=>?_) (fun h2=>?_)
 ·rw [Xo h];exact ⟨trivial,rfl,trivial⟩
 refine a7 (fun h=>?_) (fun h3=>?_)
 ·rw [Xo h];exact ⟨trivial,rfl,trivial⟩
 refine a7 (fun h=>?_) (fun h4=>?_)
 ·rw [Xo h];exact ⟨trivial,rfl,trivial⟩
 refine a7 (fun h=>?_) (fun h5=>?_)
 ·rw [Xo h];exact ⟨trivial,rfl,trivial⟩
 refine a7 (fun h=>?_) (fun h6=>?_)
 ·rw [Xo h];exact ⟨trivial,rfl,trivial⟩
 refine a7 (fun h=>?_) (fun h7=>?_)
 ·rw [Xo h];exact ⟨trivial,rfl,trivial⟩
 refine a7 (fun h=>?_) (fun h8=>?_)
 ·rw [Xo h];exact ⟨trivial,rfl,trivial⟩
 refine a7 (fun h=>?_) (fun h9=>?_)
 ·rw [Xo h];exact ⟨trivial,rfl,trivial⟩
 refine a7 (fun h=>?_) (fun h10=>?_)
 ·rw [Xo h];exact ⟨trivial,rfl,trivial⟩
 refine a7 (fun h=>?_) (fun h11=>?_)
 ·rw [Xo h];exact ⟨trivial,rfl,trivial⟩
 refine a7 (fun h=>?_) (fun h12=>?_)
 ·rw [Xo h];exact ⟨trivial,rfl,trivial⟩
 refine a7 (fun h=>?_) (fun h13=>?_)
 ·rw [Xo h];exact ⟨trivial,rfl,trivial⟩
 refine a7 (fun h=>?_) (fun h14=>?_)
 ·rw [Xo h];exact ⟨trivial,rfl,trivial⟩
 refine a7 (fun h=>?_) (fun h15=>?_)
 ·rw [Xo h];exact ⟨trivial,rfl,trivial⟩
 refine a7 (fun h=>?_) (fun h16=>?_)
 ·rw [Xo h];exact ⟨trivial,rfl,trivial⟩
 refine a7 (fun h=>?_) (fun h17=>?_)
 ·rw [Xo h];exact ⟨trivial,rfl,trivial⟩
 refine a7 (fun h=>?_) (fun h18=>?_)
 ·rw [Xo h];exact ⟨trivial,rfl,trivial⟩
 refine a7 (fun h=>?_) (fun h19=>?_)
 ·rw [Xo h];exact ⟨trivial,rfl,trivial⟩
 refine ⟨trivial,?_,trivial⟩
 symm
 refine Xf fun hm=>?_
 unfold DD at hm
 rcases List.mem_cons.1 hm with e | hm
 ·exact h0 (Xd e)
 rcases List.mem_cons.1 hm with e | hm
 ·exact h1 (Xd e)
 rcases List.mem_cons.1 hm with e | hm
 ·exact h2 (Xd e)
 rcases List.mem_cons.1 hm with e | hm
 ·exact h3 (Xd e)
 rcases List.mem_cons.1 hm with e | hm
 ·exact h4 (Xd e)
 rcases List.mem_cons.1 hm with e | hm
 ·exact h5 (Xd e)
 rcases List.mem_cons.1 hm with e | hm
 ·exact h6 (Xd e)
 rcases List.mem_cons.1 hm with e | hm
 ·exact h7 (Xd e)
 rcases List.mem_cons.1 hm with e | hm
 ·exact h8 (Xd e)
 rcases List.mem_cons.1 hm with e | hm
 ·exact h9 (Xd e)
 rcases List.mem_cons.1 hm with e | hm
 ·exact h10 (Xd e)
 rcases List.mem_cons.1 hm with e | hm
 ·exact h11 (Xd e)
 rcases List.mem_cons.1 hm with e | hm
 ·exact h12 (Xd e)
 rcases List.mem_cons.1 hm with e | hm
 ·exact h13 (Xd e)
 rcases List.mem_cons.1 hm with e | hm
 ·exact h14 (Xd e)
 rcases List.mem_cons.1 hm with e | hm
 ·exact h15 (Xd e)
 rcases List.mem_cons.1 hm with e | hm
 ·exact h16 (Xd e)
 rcases List.mem_cons.1 hm with e | hm
 ·exact h17 (Xd e)
 rcases List.mem_cons.1 hm with e | hm
 ·exact h18 (Xd e)
 rcases List.mem_cons.1 hm with e | hm
 ·exact h19 (Xd e)
 exact absurd hm List.not_mem_nil
theorem Dd (s:Str)  :
  if cw bT s=true then True/\(!lS s)=bZ s/\True else True/\false=bZ s/\True:=by
 unfold bZ;cases cw bT s <;> simp
theorem BI (s:Str)  :
  True/\cw bY s=fb s/\True:=by
 simp [fb]
theorem zn (a:List Str)  :
  True/\a=a/\True:=by
 trivial
theorem zo (n:Int)  :
  let A:=(kW n+(7:Int));let B:=(8:Int);inR IntKind.i64 A/\(B≠(0:Int)/\inR IntKind.i64 (Int.tdiv A B))/\True/\Int.tdiv A B=aR n/\True:=by
 conv=>zeta
 have h1:=tg n
 have h2:=jY n
 have e:Int.tdiv (kW n+7) 8=aR n:=rfl
 rw [e]
 exact ⟨ag (by omega) (by omega),⟨by omega,ag (by omega) (by omega)⟩,trivial,rfl,trivial⟩
theorem wE (n:Int)  :
  let A:=True;let B:=(fun (n:Int)=>UInt8.ofNat (Int.toNat n));let C:=(0:Int);let D:=(1:Int);let E:=(1:Nat);let F:=((247:Int)+aR n);let G:=List.replicate (Int.toNat D) C;let H:=kI UInt8=kI UInt8;let I:=aR n=aR n;let J:=(8:Int);let K:=(2:Int);let L:=IntKind.bits IntKind.u64;if decide (n<(248:Int))=true then A/\List.map B [IntKind.wrap IntKind.u8 n]=bQ n/\A else (C<=D/\D<=(9:Int)/\(9:Int)*(↑E:Int)<=(140737488355328:Int))/\inR IntKind.i64 F/\(C<=C/\C<(↑(List.length G):Int))/\(Int.toNat D=Int.toNat D/\Int.toNat C<List.length G)/\inR IntKind.i64 (aR n - D)/\(∃(x:Nat),let M:=Int.toNat D=E+x;(↑x:Int)<=aR n/\aR n - D=aR n - D - (↑x:Int)/\M/\List.length G=List.length (jZ n x)/\n=n/\H/\false=false/\I/\M/\List.set G (Int.toNat C) (IntKind.wrap IntKind.u8 F)=jZ n x/\A)/\∀(x:Nat),let M:=(↑x:Int);let N:=aR n - D - M;let O:=jZ n x;let P:=E+x=E+x/\List.length O=List.length O;let Q:=[IntKind.wrap IntKind.u8 (Int.fdiv n (K ^ min (Int.toNat (J*N)) L))];M<=aR n→if decide (C<=aR n - D - M)=true then inR IntKind.i64 (J*N)/\inR IntKind.u64 (J*N)/\C<=J*N/\(P/\(List.length O+List.length Q)*E<=(140737488355328:Nat))/\inR IntKind.i64 (aR n - D - M - D)/\∃(y:Nat),let R:=E+x+List.length Q=E+y;(↑y:Int)<=aR n/\Int.toNat (aR n) - y<Int.toNat (aR n) - x/\aR n - D - M - D=aR n - D - (↑y:Int)/\R/\List.length (jZ n x++Q)=List.length (jZ n y)/\n=n/\H/\false=false/\I/\R/\jZ n x++Q=jZ n y/\A else P/\A/\List.map B O=bQ n/\A:=by
 conv=>zeta
 have hw:=jY n
 refine a7 (fun h=>?_) (fun h=>?_)
 ·replace h:=Xo h
  refine ⟨trivial,?_,trivial⟩
  unfold bQ;rw [if_pos h];rfl
 replace h:¬n < 248:=fun e=>h (Xd e)
 refine ⟨⟨by omega,by omega,by omega⟩,ag (by omega) (by omega),⟨by omega,by simp⟩,⟨rfl,by simp⟩,ag (by omega) (by omega),⟨0,by omega,by omega,rfl,by simp [hZ],rfl,rfl,rfl,rfl,rfl,rfl,trivial⟩,?_⟩
 intro x hx
 refine a7 (fun k=>?_) (fun k=>?_)
 ·replace k:=Xo k
  have e:IntKind.wrap IntKind.u8 (Int.fdiv n ((2:Int) ^ min (Int.toNat ((8:Int) *(aR n - (1:Int) - (x:Int)))) (IntKind.bits IntKind.u64)))=rA n (aR n) x:=rfl
  simp only [e]
  have hl:=hZ n x
  have hs:=zh n x
  refine ⟨ag (by omega) (by omega),⟨by show (0:Int)<=_;omega,by show _<=(18446744073709551615:Int);omega⟩,by omega,⟨⟨by trivial,by trivial⟩,by simp only [List.length_singleton];omega⟩,ag (by omega) (by omega),x+1,by omega,by omega,by omega,by simp only [List.length_singleton];omega,by rw [hs],by trivial,by trivial,by trivial,by trivial,by simp only [List.length_singleton];omega,hs.symm,trivial⟩
 ·replace k:¬(0:Int)<=aR n - 1 - (x:Int):=fun e=>k (Xd e)
  refine ⟨⟨by trivial,by trivial⟩,trivial,?_,trivial⟩
  have e:x=(aR n).toNat:=by omega
  subst e
  unfold bQ;rw [if_neg h];rfl
theorem BJ (s:Str) (ho:s.length<=140737488355328) :
  let A:=(↑(List.length s):Int);inR IntKind.u64 A/\List.length (bQ A)+List.length s<=(9223372036854775807:Nat)/\True/\bQ A++s=b7 s/\True:=by
 conv=>zeta
 have h9:=jo (s.length:Int)
 exact ⟨⟨by show (0:Int)<=_;omega,by show _<=(18446744073709551615:Int);omega⟩,by omega,trivial,rfl,trivial⟩
theorem BK (l:List Str) (hl:Wf (.lst .str) l) (ho:(cM l).length<=140737488355328) :
  let A:=(↑(List.length l):Int);let B:=(140737488355328:Nat);let C:=kI UInt8=kI UInt8;let D:=dfl Ty.str;inR IntKind.u64 A/\List.length ([]:Str)+List.length (bQ A)<=B/\(∃(x:Nat),x<=List.length l/\(0:Int)=(↑x:Int)/\l=l/\C/\l=l/\A=A/\([]:Str)++bQ A=bQ A++List.flatMap b7 (List.take x l)/\True)/\∀(x:Nat),let E:=(↑x:Int);let F:=List.getD l (Int.toNat E) D;let G:=List.take x l;let H:=bQ A++List.flatMap b7 G;x<=List.length l→if decide (E<A)=true then ((0:Int)<=E/\E<A)/\List.length F<=B/\List.length H+List.length (b7 F)<=B/\inR IntKind.i64 (E+(1:Int))/\∃(y:Nat),y<=List.length l/\List.length l - y<List.length l - x/\E+(1:Int)=(↑y:Int)/\l=l/\C/\l=l/\A=A/\bQ A++List.flatMap b7 G++b7 F=bQ A++List.flatMap b7 (List.take y l)/\True else List.length H<=aS/\True/\bQ A++List.flatMap b7 G=cM l/\True:=by
 conv=>zeta
 have ln:=hl.len
 have e:∀x,x<=l.length→(bQ (l.length:Int)++(l.take x).flatMap b7).length<=140737488355328:=fun x hx=>by
  have h1:(cM l).length=(bQ (l.length:Int)++(l.take x).flatMap b7).length+((l.drop x).flatMap b7).length:=by
   unfold cM
   rw [←List.length_append,List.append_assoc,←List.flatMap_append,List.take_append_drop]
  omega
 have h0:=e 0 (Nat.zero_le _)
 simp only [List.take_zero,List.flatMap_nil,List.append_nil] at h0
 refine ⟨⟨by show (0:Int)<=_;omega,by show _<=(18446744073709551615:Int);omega⟩,by simpa using h0,⟨0,Nat.zero_le _,rfl,rfl,rfl,rfl,rfl,by simp,trivial⟩,?_⟩
 intro x hx
 refine a7 (fun k=>?_) (fun k=>?_)
 ·replace k:=Xo k
  have k:x < l.length:=by omega
  have hg:l.take (x+1)=l.take x++[l.getD x []]:=by
   rw [List.take_add_one,List.getElem?_eq_getElem k]
   simp [k]
  have he:=e (x+1) k
  rw [hg,List.flatMap_append,←List.append_assoc,List.length_append] at he
  simp only [List.flatMap_cons,List.flatMap_nil,List.append_nil] at he
  simp only [Int.toNat_natCast]
  have ht:(b7 (l.getD x [])).length=(bQ ((l.getD x []).length:Int)).length+(l.getD x []).length:=by unfold b7;rw [List.length_append]
  have hd:l.getD x (dfl Ty.str)=l.getD x []:=rfl
  rw [hd]
  refine ⟨⟨by omega,by omega⟩,by omega,he,kA k ln,x+1,k,by omega,rfl,by trivial,by trivial,by trivial,by trivial,?_,trivial⟩
  rw [hg,List.flatMap_append,←List.append_assoc]
  simp only [List.flatMap_cons,List.flatMap_nil,List.append_nil]
 ·replace k:¬(x:Int) < (l.length:Int):=fun q=>k (Xd q)
  have k:x=l.length:=by omega
  subst k
  have he:=e l.length (Nat.le_refl _)
  rw [List.take_length] at he ⊢
  exact ⟨Nat.le_trans he (by unfold aS;omega),trivial,rfl,trivial⟩
theorem BL (s:Str) (p:Int) (b:Bool) (ho:AtS s p/\s.length<=9223372036854775807) :
  let A:=(↑(List.length s):Int);let B:=b8 s p b;let C:=(1:Int);if decide (p=A)=true then True/\(0:Int)=B.1/\p=B.2.1/\s=s/\true=B.2.2/\True else inR IntKind.i64 (p+C)/\inR IntKind.i64 (p+C - C)/\((0:Int)<=p+C - C/\p+C - C<A)/\True/\(↑(UInt8.toNat (List.getD s (Int.toNat (p+C - C)) (0:UInt8))):Int)=B.1/\p+C=B.2.1/\s=s/\b=B.2.2/\True:=by
 conv=>zeta
 obtain ⟨⟨h1,h2⟩,ln⟩:=ho
 unfold b8
 refine a7 (fun h=>?_) (fun h=>?_)
 ·replace h:=Xo h
  rw [if_pos h]
  exact ⟨trivial,rfl,rfl,rfl,rfl,trivial⟩
 ·replace h:¬p=(s.length:Int):=fun q=>h (Xd q)
  rw [if_neg h]
  have e:p+1 - 1=p:=by omega
  simp only [e]
  exact ⟨ag (by omega) (by omega),ag (by omega) (by omega),⟨by omega,by omega⟩,trivial,rfl,by repeat' (first | exact trivial | rfl | apply And.intro)⟩
theorem BM (s:Str) (p:Int) (hs:Wf .str s) :
  if decide (p < (0:Int))=true then True/\(0:Int)=(aj s p).1/\(0:Int)=(aj s p).2.1/\(2:Int)=(aj s p).2.2/\True else if decide ((↑(List.length s):Int) < p)=true then True/\(0:Int)=(aj s p).1/\(0:Int)=(aj s p).2.1/\(2:Int)=(aj s p).2.2/\True else (AtS s p/\List.length s<=(9223372036854775807:Nat))/\inR IntKind.u64 (b8 s p false).1/\(if decide ((248:Int)<=(b8 s p false).1)=true then inR IntKind.i64 (b8 s p false).1/\inR IntKind.i64 ((b8 s p false).1 - (248:Int))/\inR IntKind.i64 ((b8 s p false).1 - (248:Int)+(1:Int))/\(0:Int)=bB (ad s p).1/\(b8 s p false).1 - (248:Int)+(1:Int)=bD (ad s p).1/\s=s/\p=p/\(0:Int)=(0:Int)/\(0:Int)=(0:Int)/\(0:Int)=(0:Int)/\false=false/\(b8 s p false).1=(b8 s p false).1/\s=s/\(b8 s p false).2.1=(b8 s p false).2.1/\(b8 s p false).2.2=(b8 s p false).2.2/\True else (b8 s p false).1=bB (ad s p).1/\(0:Int)=bD (ad s p).1/\s=s/\p=p/\(0:Int)=(0:Int)/\(0:Int)=(0:Int)/\(0:Int)=(0:Int)/\false=false/\(b8 s p false).1=(b8 s p false).1/\s=s/\(b8 s p false).2.1=(b8 s p false).2.1/\(b8 s p false).2.2=(b8 s p false).2.2/\True)/\(∃(x:Nat),(↑x:Int)<=bD (ad s p).1/\(0:Int)=(↑x:Int)/\bB (ad s p).1=(bg s x (bB (ad s p).1,(ad s p).2.1,(ad s p).2.2)).1/\bD (ad s p).1=bD (ad s p).1/\s=s/\p=p/\(0:Int)=(0:Int)/\(0:Int)=(0:Int)/\(0:Int)=(0:Int)/\false=false/\(b8 s p false).1=(b8 s p false).1/\bD (ad s p).1=bD (ad s p).1/\(b8 s p false).2.1=(bg s x (bB (ad s p).1,(ad s p).2.1,(ad s p).2.2)).2.1/\(b8 s p false).2.2=(bg s x (bB (ad s p).1,(ad s p).2.1,(ad s p).2.2)).2.2/\s=s/\True)/\∀(x:Nat),(↑x:Int)<=bD (ad s p).1→if decide ((↑x:Int) < bD (ad s p).1)=true then (0:Int)<=(8:Int)/\(AtS s (bg s x (bB (ad s p).1,(ad s p).2.1,(ad s p).2.2)).2.1/\List.length s<=(9223372036854775807:Nat))/\inR IntKind.u64 (b8 s (bg s x (bB (ad s p).1,(ad s p).2.1,(ad s p).2.2)).2.1 (bg s x (bB (ad s p).1,(ad s p).2.1,(ad s p).2.2)).2.2).1/\inR IntKind.i64 ((↑x:Int)+(1:Int))/\∃(y:Nat),(↑y:Int)<=bD (ad s p).1/\Int.toNat (bD (ad s p).1) - y < Int.toNat (bD (ad s p).1) - x/\(↑x:Int)+(1:Int)=(↑y:Int)/\IntKind.wrap IntKind.u64 (↑(BitVec.toNat (BitVec.ofInt (IntKind.bits IntKind.u64) (IntKind.wrap IntKind.u64 ((bg s x (bB (ad s p).1,(ad s p).2.1,(ad s p).2.2)).1 *(2:Int) ^ min (Int.toNat (8:Int)) (IntKind.bits IntKind.u64))) ||| BitVec.ofInt (IntKind.bits IntKind.u64) (b8 s (bg s x (bB (ad s p).1,(ad s p).2.1,(ad s p).2.2)).2.1 (bg s x (bB (ad s p).1,(ad s p).2.1,(ad s p).2.2)).2.2).1)):Int)=(bg s y (bB (ad s p).1,(ad s p).2.1,(ad s p).2.2)).1/\bD (ad s p).1=bD (ad s p).1/\s=s/\p=p/\(0:Int)=(0:Int)/\(0:Int)=(0:Int)/\(0:Int)=(0:Int)/\false=false/\(b8 s p false).1=(b8 s p false).1/\bD (ad s p).1=bD (ad s p).1/\(b8 s (bg s x (bB (ad s p).1,(ad s p).2.1,(ad s p).2.2)).2.1 (bg s x (bB (ad s p).1,(ad s p).2.1,(ad s p).2.2)).2.2).2.1=(bg s y (bB (ad s p).1,(ad s p).2.1,(ad s p).2.2)).2.1
  /\(b8 s (bg s x (bB (ad s p).1,(ad s p).2.1,(ad s p).2.2)).2.1 (bg s x (bB (ad s p).1,(ad s p).2.1,(ad s p).2.2)).2.2).2.2=(bg s y (bB (ad s p).1,(ad s p).2.1,(ad s p).2.2)).2.2/\s=s/\True else if (bg s x (bB (ad s p).1,(ad s p).2.1,(ad s p).2.2)).2.2=true then True/\(0:Int)=(aj s p).1/\(0:Int)=(aj s p).2.1/\(10:Int)=(aj s p).2.2/\True else if decide ((0:Int) < bD (ad s p).1)=true then if decide ((bg s x (bB (ad s p).1,(ad s p).2.1,(ad s p).2.2)).1 < (248:Int))=true then True/\(0:Int)=(aj s p).1/\(0:Int)=(aj s p).2.1/\(11:Int)=(aj s p).2.2/\True else if (!decide (aR (bg s x (bB (ad s p).1,(ad s p).2.1,(ad s p).2.2)).1=bD (ad s p).1))=true then True/\(0:Int)=(aj s p).1/\(0:Int)=(aj s p).2.1/\(11:Int)=(aj s p).2.2/\True else True/\(bg s x (bB (ad s p).1,(ad s p).2.1,(ad s p).2.2)).1=(aj s p).1/\(bg s x (bB (ad s p).1,(ad s p).2.1,(ad s p).2.2)).2.1=(aj s p).2.1/\(0:Int)=(aj s p).2.2/\True else True/\(bg s x (bB (ad s p).1,(ad s p).2.1,(ad s p).2.2)).1=(aj s p).1/\(bg s x (bB (ad s p).1,(ad s p).2.1,(ad s p).2.2)).2.1=(aj s p).2.1/\(0:Int)=(aj s p).2.2/\True:=by
 have ln:=hs.str
 have eT:∀(a b:Int) (c:Prop),True/\a=b/\c↔a=b/\c:=fun _ _ _=>⟨fun h=>h.2,fun h=>⟨trivial,h⟩⟩
 have bad:p < 0∨(s.length:Int) < p→aj s p=(0,0,2):=fun h=>by unfold aj;rw [if_pos h]
 refine a7 (fun h=>?_) (fun h=>?_)
 ·rw [bad (.inl (Xo h))];exact ⟨trivial,rfl,rfl,rfl,trivial⟩
 replace h:¬p < 0:=fun q=>h (Xd q)
 refine a7 (fun h2=>?_) (fun h2=>?_)
 ·rw [bad (.inr (Xo h2))];exact ⟨trivial,rfl,rfl,rfl,trivial⟩
 replace h2:¬(s.length:Int) < p:=fun q=>h2 (Xd q)
 have ha:AtS s p:=⟨by omega,by omega⟩
 obtain ⟨b1,b2,b3,b4,b5⟩:=nZ (b:=false) ha
 have hK:0<=bD (ad s p).1/\bD (ad s p).1<=8:=by unfold bD ad;split <;> omega
 refine ⟨⟨ha,ln⟩,⟨by show (0:Int)<=_;omega,by show _<=(18446744073709551615:Int);omega⟩,a7 (fun k=>?_) (fun k=>?_),⟨0,hK.1,rfl,rfl,rfl,rfl,rfl,rfl,rfl,rfl,rfl,rfl,rfl,rfl,rfl,rfl,trivial⟩,?_⟩
 ·replace k:=Xo k
  refine ⟨ag (by omega) (by omega),ag (by omega) (by omega),ag (by omega) (by omega),?_,?_,rfl,rfl,rfl,rfl,rfl,rfl,rfl,rfl,rfl,rfl,trivial⟩
  ·unfold bB ad;rw [if_pos k]
  ·unfold bD ad;rw [if_pos k];omega
 ·replace k:¬248<=(b8 s p false).1:=fun q=>k (Xd q)
  refine ⟨?_,?_,rfl,rfl,rfl,rfl,rfl,rfl,rfl,rfl,rfl,rfl,trivial⟩
  ·unfold bB ad;rw [if_neg k]
  ·unfold bD ad;rw [if_neg k]
 intro x hx
 obtain ⟨c1,c2,c3,c4⟩:=th x (bB (ad s p).1,(ad s p).2.1,(ad s p).2.2) b4 (xW b1)
 have d:=nZ (b:=(bg s x (bB (ad s p).1,(ad s p).2.1,(ad s p).2.2)).2.2) c2
 refine a7 (fun k=>?_) (fun k=>?_)
 ·replace k:=Xo k
  exact ⟨by omega,⟨c2,ln⟩,⟨by show (0:Int)<=_;omega,by show _<=(18446744073709551615:Int);omega⟩,ag (by omega) (by omega),x+1,by omega,by omega,by omega,rfl,rfl,rfl,rfl,rfl,rfl,rfl,rfl,rfl,rfl,rfl,rfl,rfl,trivial⟩
 replace k:¬(x:Int) < bD (ad s p).1:=fun q=>k (Xd q)
 have ex:x=(bD (ad s p).1).toNat:=by omega
 subst ex
 have e2:bg s (bD (ad s p).1).toNat (bB (ad s p).1,(ad s p).2.1,(ad s p).2.2)=dL s p:=rfl
 rw [e2]
 have e:aj s p=if (dL s p).2.2=true then (0,0,10) else if 0 < bD (ad s p).1/\((dL s p).1 < 248∨aR (dL s p).1≠bD (ad s p).1) then (0,0,11) else ((dL s p).1,(dL s p).2.1,0):=by
  unfold aj;rw [if_neg (by omega)]
 rw [e]
 refine a7 (fun q=>?_) (fun q=>?_)
 ·rw [if_pos q];exact ⟨trivial,rfl,rfl,rfl,trivial⟩
 rw [if_neg q]
 refine a7 (fun r=>?_) (fun r=>?_)
 ·replace r:=Xo r
  refine a7 (fun t=>?_) (fun t=>?_)
  ·rw [if_pos ⟨r,.inl (Xo t)⟩];exact ⟨trivial,rfl,rfl,rfl,trivial⟩
  replace t:¬(dL s p).1 < 248:=fun q=>t (Xd q)
  refine a7 (fun u=>?_) (fun u=>?_)
  ·have u:¬aR (dL s p).1=bD (ad s p).1:=by simpa using u
   rw [if_pos ⟨r,.inr u⟩];exact ⟨trivial,rfl,rfl,rfl,trivial⟩
  ·have u:aR (dL s p).1=bD (ad s p).1:=by simpa using u
   rw [if_neg (fun z=>z.2.elim t (fun z=>z u))];exact ⟨trivial,rfl,rfl,rfl,trivial⟩
 ·replace r:¬0 < bD (ad s p).1:=fun q=>r (Xd q)
  rw [if_neg (fun z=>r z.1)];exact ⟨trivial,rfl,rfl,rfl,trivial⟩
theorem zp (s:Str) (p:Int) (hs:Wf .str s) :
  let A:=aj s p;let B:=(0:Int);let C:=True;let D:=aT s p;let E:=(↑(List.length s):Int);let F:=E - A.2.1;let G:=A.2.1+A.1;if (!decide (A.2.2=B))=true then C/\[]=D.1/\B=D.2.1/\A.2.2=D.2.2/\C else inR IntKind.i64 F/\inR IntKind.u64 F/\if decide (E - A.2.1<A.1)=true then C/\[]=D.1/\B=D.2.1/\(10:Int)=D.2.2/\C else inR IntKind.i64 A.1/\inR IntKind.i64 G/\(B<=A.2.1/\A.2.1<=A.2.1+A.1/\A.2.1+A.1<=E)/\C/\List.drop (Int.toNat A.2.1) (List.take (Int.toNat G) s)=D.1/\A.2.1+A.1=D.2.1/\B=D.2.2/\C:=by
 conv=>zeta
 have ln:=hs.str
 obtain ⟨h1,h2,h3⟩:=cZ s p
 unfold aT
 refine a7 (fun h=>?_) (fun h=>?_)
 ·have h:(aj s p).2.2≠0:=by simpa using h
  rw [if_pos h];exact ⟨trivial,rfl,rfl,rfl,trivial⟩
 have h:(aj s p).2.2=0:=by simpa using h
 obtain ⟨a1,a2,a3⟩:=h3 h
 rw [if_neg (show ¬(aj s p).2.2≠0 from fun q=>q h)]
 unfold AtS InU at *
 refine ⟨ag (by omega) (by omega),⟨by show (0:Int)<=_;omega,by show _<=(18446744073709551615:Int);omega⟩,a7 (fun k=>?_) (fun k=>?_)⟩
 ·rw [if_pos (Xo k)];exact ⟨trivial,rfl,rfl,rfl,trivial⟩
 have k:¬(s.length:Int) - (aj s p).2.1 < (aj s p).1:=fun q=>k (Xd q)
 rw [if_neg k]
 exact ⟨ag (by omega) (by omega),ag (by omega) (by omega),⟨by omega,by omega,by omega⟩,trivial,rfl,rfl,rfl,trivial⟩
theorem zq (s:Str) (p:Int) (hs:Wf .str s) (ho:s.length<=1099511627776) :
  let A:=aj s p;let B:=(0:Int);let C:=True;let D:=bc s p;let E:=(↑(List.length s):Int);let F:=(1:Int);let G:=A.2.2=A.2.2;if (!decide (A.2.2=B))=true then C/\D.1=[]/\B=D.2.1/\A.2.2=D.2.2/\C else (∃(x:Nat × Int × List Str × Int),(AtS s x.2.2.2/\E+F<=(↑x.1:Int)+x.2.2.2/\InU x.2.1/\(↑(wL x.2.2.1):Int)<=x.2.2.2/\ca s x.1 x.2.1 x.2.2.1 x.2.2.2=bc s p)/\A.1=x.2.1/\x.2.2.1=[]/\A.2.1=x.2.2.2/\s=s/\G/\false=false/\List.length x.2.2.1=(0:Nat)/\C)/\∀(x:Nat × Int × List Str × Int),let H:=aT s x.2.2.2;AtS s x.2.2.2/\E+F<=(↑x.1:Int)+x.2.2.2/\InU x.2.1/\(↑(wL x.2.2.1):Int)<=x.2.2.2/\ca s x.1 x.2.1 x.2.2.1 x.2.2.2=bc s p→if decide (B<x.2.1)=true then if (!decide (H.2.2=B))=true then C/\D.1=[]/\B=D.2.1/\H.2.2=D.2.2/\C else (List.length x.2.2.1=List.length x.2.2.1/\(List.length x.2.2.1+List.length [H.1])*(16:Nat)<=(140737488355328:Nat))/\inR IntKind.u64 (x.2.1 - F)/\∃(y:Nat × Int × List Str × Int),(AtS s y.2.2.2/\E+F<=(↑y.1:Int)+y.2.2.2/\InU y.2.1/\(↑(wL y.2.2.1):Int)<=y.2.2.2/\ca s y.1 y.2.1 y.2.2.1 y.2.2.2=bc s p)/\y.1<x.1/\x.2.1 - F=y.2.1/\x.2.2.1++[H.1]=y.2.2.1/\H.2.1=y.2.2.2/\s=s/\G/\false=false/\List.length (x.2.2.1++[H.1])=List.length y.2.2.1/\C else C/\x.2.2.1=D.1/\x.2.2.2=D.2.1/\B=D.2.2/\C:=by
 conv=>zeta
 have ln:=hs.str
 obtain ⟨h1,h2,h3⟩:=cZ s p
 refine a7 (fun h=>?_) (fun h=>?_)
 ·have h:(aj s p).2.2≠0:=by simpa using h
  unfold bc
  rw [if_pos h];exact ⟨trivial,rfl,rfl,rfl,trivial⟩
 have h:(aj s p).2.2=0:=by simpa using h
 obtain ⟨a1,a2,a3⟩:=h3 h
 refine ⟨⟨(s.length+1,(aj s p).1,[],(aj s p).2.1),⟨a2,by unfold AtS at a2;simp only;omega,h1,by unfold AtS at a2;simp only [wL,List.map_nil,List.sum_nil];omega,by unfold bc;rw [if_neg (by simp [h])]⟩,rfl,rfl,rfl,rfl,rfl,rfl,rfl,trivial⟩,?_⟩
 rintro ⟨k,n,acc,q⟩ ⟨g1,g2,g3,g4,g5⟩
 simp only at g1 g2 g3 g4 g5 ⊢
 obtain ⟨t1,t2,t3⟩:=ka s q
 have hw:=rB acc
 cases k with
 | zero=>unfold AtS at g1;omega
 | succ k=>
 unfold ca at g5
 refine a7 (fun r=>?_) (fun r=>?_)
 ·replace r:=Xo r
  rw [if_pos r] at g5
  refine a7 (fun u=>?_) (fun u=>?_)
  ·have u:(aT s q).2.2≠0:=by simpa using u
   rw [if_pos u] at g5
   rw [←g5]
   exact ⟨trivial,rfl,rfl,rfl,trivial⟩
  ·have u:(aT s q).2.2=0:=by simpa using u
   rw [if_neg (by simp [u])] at g5
   obtain ⟨v1,v2,v3⟩:=t1 u
   unfold AtS InU at *
   refine ⟨⟨trivial,by simp only [List.length_singleton];omega⟩,⟨by show (0:Int)<=_;omega,by show _<=(18446744073709551615:Int);omega⟩,(k,n - 1,acc++[(aT s q).1],(aT s q).2.1),⟨v2,by simp only;omega,by simp only;omega,?_,g5⟩,by simp,by repeat' (first | exact trivial | rfl | apply And.intro)⟩
   simp only [wy]
   simp [wL] at g4 ⊢
   omega
 ·replace r:=fun z=>r (Xd z)
  rw [if_neg r] at g5
  rw [←g5]
  exact ⟨trivial,rfl,rfl,rfl,trivial⟩
theorem zr (l:List Str) (ho:l.length *16<=140737488355328) :
  let A:=(↑(List.length l):Int);let B:=l=l/\l=l/\A=A/\True;let C:=(List.mergeSort l fun (x y:Str)=>decide (x<=y));(∃(x:Nat),(x<=List.length l/\List.all l bZ=List.all (List.drop x l) bZ)/\(0:Int)=(↑x:Int)/\B)/\∀(x:Nat),let D:=(↑x:Int);x<=List.length l/\List.all l bZ=List.all (List.drop x l) bZ→if decide (D<A)=true then ((0:Int)<=D/\D<A)/\if (!bZ (List.getD l (Int.toNat D) (dfl Ty.str)))=true then True/\false=dq l/\True else inR IntKind.i64 (D+(1:Int))/\∃(y:Nat),(y<=List.length l/\List.all l bZ=List.all (List.drop y l) bZ)/\List.length l - y<List.length l - x/\D+(1:Int)=(↑y:Int)/\B else List.length l*(16:Nat)<=(140737488355328:Nat)/\List.length C=List.length C/\True/\decide ((↑(List.length (Lib.compact C)):Int)=A)=dq l/\True:=by
 conv=>zeta
 have hc:=pL l
 unfold fh at hc
 refine ⟨⟨0,⟨Nat.zero_le _,by simp⟩,rfl,rfl,rfl,rfl,trivial⟩,?_⟩
 rintro k ⟨h1,h2⟩
 refine a7 (fun h=>?_) (fun h=>?_)
 ·replace h:=Xo h
  have h:k < l.length:=by omega
  simp only [Int.toNat_natCast]
  rw [bS l k (dfl Ty.str) h,List.all_cons] at h2
  refine ⟨⟨by omega,by omega⟩,a7 (fun m=>?_) (fun m=>?_)⟩
  ·have m:bZ (l.getD k (dfl Ty.str))=false:=by simpa using m
   rw [m,Bool.false_and] at h2
   refine ⟨trivial,?_,trivial⟩
   unfold dq;rw [h2];rfl
  ·have m:bZ (l.getD k (dfl Ty.str))=true:=by simpa using m
   rw [m,Bool.true_and] at h2
   exact ⟨ag (by omega) (by omega),k+1,⟨h,h2⟩,by omega,by omega,by repeat' (first | exact trivial | rfl | apply And.intro)⟩
 ·replace h:¬(k:Int) < (l.length:Int):=fun q=>h (Xd q)
  have h:k=l.length:=by omega
  subst h
  rw [List.drop_length] at h2
  refine ⟨ho,rfl,trivial,?_,trivial⟩
  unfold dq
  rw [h2,List.all_nil,Bool.true_and,decide_eq_decide,←hc]
  omega
theorem wF (o:Opn) (ho:o.names.length *16<=140737488355328) :
  let A:=o=o;let B:=false=false;let C:=o.kind=o.kind;let D:=A/\True;let E:=B/\B/\C/\D;let F:=A/\B/\B/\E;let G:=true=is8 o.kind/\F;let H:=(↑(List.length o.names):Int);let I:=H=toN o;let J:=true=true;let K:=(0:Int);let L:=J/\A/\B/\decide (K<=o.n)=decide (K<=o.n)/\E;let M:=K=toN o;let N:=True/\false=bL o/\True;let O:=if decide ((↑(List.length o.tos):Int)=toN o)=true then True/\decide (K<=o.pos)=bL o/\True else N;let P:=if decide (H=K)=true then O else N;let Q:=if (!decide (o.name=[]))=true then N else if decide ((17:Int)<=o.kind)=true then N else if decide (o.kind=(9:Int))=true then N else if decide (o.kind=(10:Int))=true then N else P;let R:=if (!decide (o.n=K))=true then N else if decide (o.kind=(3:Int))=true then N else if decide (o.kind=(5:Int))=true then N else Q;let S:=B/\B/\C/\J/\D;let T:=B/\A/\B/\J/\S;let U:=B/\A/\B/\decide (o.n=(1:Int))=decide (o.n=(1:Int))/\S;let V:=B/\A/\B/\decide (o.n=(110:Int))=decide (o.n=(110:Int))/\B/\B/\C/\B/\J/\D;let W:=B/\B/\J/\D;let X:=B/\A/\B/\B/\J/\B/\C/\W;let Y:=C/\B/\B/\B/\D;let Z:=B/\A/\B/\B/\B/\B/\Y;let a:=J/\B/\A/\B/\B/\bZ o.name=bZ o.name/\B/\Y;let b:=J/\B/\B/\A/\B/\B/\fb o.name=fb o.name/\B/\Y;let c:=J/\B/\B/\B/\A/\B/\B/\B/\dq o.names=dq o.names/\Y;let d:=B/\B/\B/\B/\A/\B/\B/\B/\B/\C/\B/\W;(if decide (o.kind=(1:Int))=true then G else if decide (o.kind=(4:Int))=true then G else if decide (o.kind=(6:Int))=true then G else if decide (o.kind=(7:Int))=true then G else if decide (o.kind=(11:Int))=true then G else if decide (o.kind=(13:Int))=true then G else if decide (o.kind=(14:Int))=true then G else decide (o.kind=(15:Int))=is8 o.kind/\F)/\if is8 o.kind=true then (if decide (o.kind=(16:Int))=true then I/\L else M/\L)/\if (!decide (K<=o.n))=true then R else Q else if decide (o.kind=(3:Int))=true then if decide (o.n=K)=true then (if decide (o.kind=(16:Int))=true then I/\T else M/\T)/\Q else (if decide (o.kind=(16:Int))=true then I/\U else M/\U)/\if (!decide (o.n=(1:Int)))=true then R else Q else if decide (o.kind=(5:Int))=true then (if decide (o.kind=(16:Int))=true then I/\V else M/\V)/\if (!decide (o.n=(110:Int)))=true then R else Q else if decide (o.kind=(2:Int))=true then (if decide (o.kind=(16:Int))=true then I/\X else M/\X)/\if (!decide (o.n=K))=true then N else if decide (o.kind=(3:Int))=true then N else if decide (o.kind=(5:Int))=true then N else P else (if decide (o.kind=(9:Int))=true then true=isB o.kind/\Z else decide (o.kind=(10:Int))=isB o.kind/\Z)/\if isB o.kind=true then (if decide (o.kind=(16:Int))=true then I/\a else M/\a)/\if (!decide (o.n=K))=true then N else if decide (o.kind=(3:Int))=true then N else if decide (o.kind=(5:Int))=true then N else if (!bZ o.name)=true then Q else P else (if decide (o.kind=(17:Int))=true then true=isU o.kind/\B/\Z else decide (o.kind=(18:Int))=isU o.kind/\B/\Z)/\if isU o.kind=true then (if decide (o.kind=(16:Int))=true then I/\b else M/\b)/\if (!decide (o.n=K))=true then N else if decide (o.kind=(3:Int))=true then N else if decide (o.kind=(5:Int))=true then N else if (!fb o.name)=true then Q else P else (if decide (o.kind=(8:Int))=true then true=isR o.kind/\B/\B/\Z else decide (o.kind=(16:Int))=isR o.kind/\B/\B/\Z)/\if isR o.kind=true then List.length o.names*(16:Nat)<=(140737488355328:Nat)/\(if decide (o.kind=(16:Int))=true then I/\c else M/\c)/\if (!decide (o.n=K))=true then N else if decide (o.kind=(3:Int))=true then N else if decide (o.kind=(5:Int))=true then N else if (!decide (o.name=[]))=true then N else if decide ((17:Int)<=o.kind)=true then N else if decide (o.kind=(9:Int))=true then N else if decide (o.kind=(10:Int))=true then N else if dq o.names=true then O else P else if decide (o.kind=(12:Int))=true then (if decide (o.kind=(16:Int))=true then I/\d else M/\d)/\R else N:=by
 conv=>zeta
 repeat' (first | exact trivial | rfl | refine a7 (fun _=>?_) (fun _=>?_) | refine And.intro ?_ ?_)
 all_goals (simp_all [bL,ib,is8,isB,isU,isR,toN] <;> omega)
theorem BN (o:Opn)  :
  let A:=(1:Int);let B:=(0:Int);let C:=B=B;let D:=o.kind=o.kind;let E:=True;let F:=o=o/\C/\C/\D/\o=o/\E;let G:=true=is6 o.kind/\F;let H:=aY o;let I:=A=H.2/\E;let J:=(↑(List.length o.names):Int);let K:=false=false;let L:=K/\K/\K/\o=o/\E;let M:=K/\o=o/\C/\C/\D/\L;let N:=true=is4 o.kind/\M;let O:=E/\A=H.1/\I;let P:=B=H.2/\E;let Q:=E/\A=H.1/\P;let R:=K/\K/\o=o/\C/\C/\D/\K/\L;(if decide (o.kind=A)=true then G else if decide (o.kind=(2:Int))=true then G else if decide (o.kind=(3:Int))=true then G else if decide (o.kind=(4:Int))=true then G else if decide (o.kind=(6:Int))=true then G else decide (o.kind=(5:Int))=is6 o.kind/\F)/\if is6 o.kind=true then E/\B=H.1/\I else if decide (o.kind=(7:Int))=true then E/\IntKind.wrap IntKind.i64 (o.n+A)=H.1/\I else if decide (o.kind=(8:Int))=true then E/\J=H.1/\I else if decide (o.kind=(11:Int))=true then E/\o.n=H.1/\I else (if decide (o.kind=(9:Int))=true then N else if decide (o.kind=(10:Int))=true then N else if decide (o.kind=(17:Int))=true then N else decide (o.kind=(18:Int))=is4 o.kind/\M)/\if is4 o.kind=true then O else if decide (o.kind=(16:Int))=true then if decide (J=B)=true then O else Q else (if decide (o.kind=(12:Int))=true then true=is2 o.kind/\R else decide (o.kind=(14:Int))=is2 o.kind/\R)/\if is2 o.kind=true then Q else E/\B=H.1/\P:=by
 conv=>zeta
 repeat' (first | exact trivial | rfl | refine a7 (fun _=>?_) (fun _=>?_) | refine And.intro ?_ ?_)
 all_goals simp_all [aY,is6,is4,is2]
theorem BO (l:List Stt) (n:Nat) (tgt:Int) (s:Stt) (ho:0<=tgt/\tgt < n/\n=l.length) :
  let A:=((0:Int)<=tgt/\tgt<(↑n:Int));let B:=Int.toNat tgt<List.length l;let C:=Int.toNat tgt;let D:=dfl (Ty.st SN.stt);let E:=List.getD l C D;let F:=List.set l C s;let G:=List.getD F C D;A/\B/\if decide (E.things<(0:Int))=true then A/\B/\A/\Int.toNat tgt<List.length F/\True/\(decide (G.things=s.things) && (decide (G.names=s.names) && true))=bn l tgt s/\n=n/\List.set l C s=bh l tgt s/\True else A/\B/\True/\(decide (E.things=s.things) && (decide (E.names=s.names) && true))=bn l tgt s/\n=n/\l=bh l tgt s/\True:=by
 conv=>zeta
 obtain ⟨h1,h2,h3⟩:=ho
 have hb:∀x y:Stt,(decide (x.things=y.things) && (decide (x.names=y.names) && true))=eqT x y:=fun x y=>by unfold eqT;simp
 have hd:dfl (Ty.st SN.stt)=(default:Stt):=rfl
 simp only [hb,hd]
 refine ⟨⟨h1,h2⟩,by omega,a7 (fun k=>?_) (fun k=>?_)⟩
 ·replace k:=Xo k
  have e:bh l tgt s=l.set tgt.toNat s:=by unfold bh;rw [if_pos k]
  unfold bn
  rw [e]
  exact ⟨⟨h1,h2⟩,by omega,⟨h1,h2⟩,by simp;omega,trivial,rfl,by repeat' (first | exact trivial | rfl | apply And.intro)⟩
 ·replace k:¬(l.getD tgt.toNat default).things < 0:=fun q=>k (Xd q)
  have e:bh l tgt s=l:=by unfold bh;rw [if_neg k]
  unfold bn
  rw [e]
  exact ⟨⟨h1,h2⟩,by omega,trivial,rfl,by repeat' (first | exact trivial | rfl | apply And.intro)⟩
theorem zt (code:List Chnk) (k:Int) (bs:List Stt) (n:Nat) (ho:D4 code k bs n) :
  let A:=(0:Int);let B:=(↑(List.length code):Int);let C:=(↑n:Int);let D:=Int.toNat k;let E:=dfl (Ty.st SN.chunk);let F:=List.getD code D E;let G:=(↑(List.length F.ops):Int);let H:=(1:Int);let I:=G+H;let J:=(1:Nat);let K:=k=k;let L:=false=false;let M:=F.ops=F.ops;let N:=(↑(Int.toNat I):Int);let O:=N=N;let P:=aF code k+J;let Q:=code=code;let R:=n=n;let S:=dfl (Ty.st SN.stt);let T:=List.getD bs D S=List.getD bs D S;let U:=Int.toNat I=Int.toNat I;let V:=True;let W:=Q/\R/\bs=bs/\T/\U/\V;let X:=List.getD bs D S;let Y:=bU code k bs;let Z:=false=Y.1;let a:=List.getD bs D default;let b:=aF code k;let c:=cP code k;let d:=G=G;let e:=Q/\R/\T/\U/\V;let f:=dfl (Ty.st SN.op);let g:=true=true;let h:=dfl (Ty.int IntKind.i64);(A<=k/\k<B)/\(A<=k/\k<C)/\Int.toNat k<List.length bs/\inR IntKind.i64 I/\(A<=G+H/\G+H<=G+H/\I*(↑(16:Nat):Int)<=(140737488355328:Int))/\(∃(x:Nat),x<=aF code k+J/\A=(↑x:Int)/\K/\L/\M/\O/\List.replicate (Int.toNat I) {things:=A,names:=A:Stt}=cJ P x/\W)/\∀(x:Nat),let i:=(↑x:Int);let j:=cJ P x;let l:=i=i;x<=aF code k+J→if decide (i<N)=true then (A<=i/\i<N)/\Int.toNat i<List.length j/\inR IntKind.i64 (i+H)/\∃(y:Nat),y<=aF code k+J/\aF code k+J - y<aF code k+J - x/\i+H=(↑y:Int)/\K/\L/\M/\O/\List.set j (Int.toNat i) {things:=(-1:Int),names:=(List.getD j (Int.toNat i) S).names:Stt}=cJ P y/\W else (A<=A/\A<N/\Int.toNat I=List.length j)/\if (!bn j A X)=true then V/\Z/\Q/\R/\bs=Y.2/\V else (∃(x_1:Nat × List Stt × List Stt),let m:=(↑x_1.1:Int);(x_1.1<=aF code k/\List.length x_1.2.1=aF code k+J/\List.length x_1.2.2=List.length code/\cO code k a b (List.drop x_1.1 c.ops) m x_1.2.1 x_1.2.2=bU code k bs)/\A=m/\l/\K/\M/\O/\L/\L/\M/\d/\bh j A X=x_1.2.1/\bs=x_1.2.2/\e)/\∀(x_1:Nat × List Stt × List Stt),let m:=(↑x_1.1:Int);let o:=Int.toNat m;let p:=List.getD x_1.2.1 o S;let q:=Q/\R/\x_1.2.2=Y.2/\V;let r:=V/\Z/\q;let s:=List.getD F.ops o f;let t:=aY s;let u:=List.getD c.ops o default;let v:=m=m;let w:=t.1=t.1;let z:=t.2=t.2;let A0:=p.things+IntKind.wrap IntKind.i64 (t.2 - t.1);let A1:=sF b m u x_1.2.1;let A2:=IntKind.wrap IntKind.i64 A0=A1.things;let A3:=p.names=A1.names;let A4:=x_1.2.1=lF b m u x_1.2.1;let A5:=List.getD F.ops o f=List.getD F.ops o f;let A6:=Q/\R/\T/\U/\A5/\V;let A7:=x_1.2.2=bF code k a b m u x_1.2.1 x_1.2.2/\A6;let A8:=v/\v/\l/\K/\M/\O/\L/\L/\M/\d/\g/\w/\z/\L/\A2/\A3/\A4/\A7;let A9:=A<=s.n;let B0:=A9/\s.n<C;let B1:=Int.toNat s.n<List.length x_1.2.2;let B2:=Int.toNat s.n;let B3:=List.getD x_1.2.2 B2 S;let B4:=p.names+(List.getD code B2 E).args;let B5:=true=gF code k a b m u x_1.2.1 x_1.2.2;let B6:=B0/\B1/\B5/\v/\v/\l/\K/\M/\O/\L/\L/\M/\d/\g/\w/\z/\L/\A2/\A3/\A4/\List.set x_1.2.2 B2 {things:=A,names:=IntKind.wrap IntKind.i64 B4:Stt}=bF code k a b m u x_1.2.1 x_1.2.2/\A6;let B7:=p.names+H;let B8:=A9/\s.n<N/\Int.toNat I=List.length x_1.2.1;let B9:=inR IntKind.i64 (m+H);let C0:=false=gF code k a b m u x_1.2.1 x_1.2.2/\A8;let C1:=(↑(List.length s.tos):Int);let C2:=s.kind=s.kind;let C3:=x_1.2.2=x_1.2.2/\Q/\R/\T/\U/\A5/\IntKind.wrap IntKind.i64 A0=IntKind.wrap IntKind.i64 A0/\IntKind.wrap IntKind.i64 B7=IntKind.wrap IntKind.i64 B7/\V;let C4:=V/\Z/\Q/\R/\bF code k a b m u x_1.2.1 x_1.2.2=Y.2/\V;let C5:=lF b m u x_1.2.1;let C6:=List.getD x_1.2.1 (Int.toNat G) S;x_1.1<=aF code k/\List.length x_1.2.1=aF code k+J/\List.length x_1.2.2=List.length code/\cO code k a b (List.drop x_1.1 c.ops) m x_1.2.1 x_1.2.2=bU code k bs→if decide (m<G)=true then (A<=m/\m<G)/\(A<=m/\m<N)/\Int.toNat m<List.length x_1.2.1/\if decide (p.things<A)=true then r else List.length s.names*(16:Nat)<=(140737488355328:Nat)/\if (!bL s)=true then r else if decide (p.things<t.1)=true then r else (if decide (s.kind=(4:Int))=true then decide (s.n<p.names)=gF code k a b m u x_1.2.1 x_1.2.2/\A8 else if decide (s.kind=(6:Int))=true then if decide (s.n<=k)=true then r else if decide (B<=s.n)=true then r else (A9/\s.n<B)/\B0/\B1/\if decide (A<=B3.things)=true then B0/\B1/\if (!(decide (B3.things=A) && (decide (B3.names=IntKind.wrap IntKind.i64 B4) && true)))=true then r else B6 else B6 else if decide (s.kind=(12:Int))=true then B5/\v/\v/\l/\K/\M/\O/\L/\L/\M/\d/\g/\w/\z/\L/\A2/\IntKind.wrap IntKind.i64 B7=A1.names/\A4/\A7 else if decide (s.kind=(13:Int))=true then if decide (IntKind.wrap IntKind.i64 (p.names - X.names)<s.n)=true then r else B5/\v/\v/\l/\K/\M/\O/\L/\L/\M/\d/\g/\w/\z/\L/\A2/\IntKind.wrap IntKind.i64 (p.names - s.n)=A1.names/\A4/\A7 else if decide (s.kind=(15:Int))=true then if decide (s.n<=m)=true then r else if decide (G<s.n)=true then r else B8/\if (!bn x_1.2.1 s.n {things:=IntKind.wrap IntKind.i64 A0,names:=p.names:Stt})=true then r else B9/\∃(y:Nat × List Stt × List Stt),let C7:=(↑y.1:Int);(y.1<=aF code k/\List.length y.2.1=aF code k+J/\List.length y.2.2=List.length code/\cO code k a b (List.drop y.1 c.ops) C7 y.2.1 y.2.2=bU code k bs)/\aF code k - y.1<aF code k - x_1.1/\m+H=C7/\l/\K/\M/\O/\L/\L/\M/\d/\bh x_1.2.1 s.n {things:=IntKind.wrap IntKind.i64 A0,names:=p.names:Stt}=y.2.1/\x_1.2.2=y.2.2/\e else if decide (s.kind=(14:Int))=true then if decide (m<s.n)=true then if decide (s.n<=G)=true then B8/\bn x_1.2.1 s.n {things:=IntKind.wrap IntKind.i64 A0,names:=p.names:Stt}=gF code k a b m u x_1.2.1 x_1.2.2/\v/\v/\l/\K/\M/\O/\L/\L/\M/\d/\g/\w/\z/\L/\A2/\A3/\bh x_1.2.1 s.n {things:=IntKind.wrap IntKind.i64 A0,names:=p.names:Stt}=lF b m u x_1.2.1/\A7 else C0 else C0 else if decide (s.kind=(16:Int))=true then if decide (C1=A)=true then B5/\A8 else (∃(x_2:Nat × List Stt),(x_2.1<=List.length u.tos/\List.length x_2.2=aF code k+J/\cb m b {things:=IntKind.wrap IntKind.i64 A0,names:=IntKind.wrap IntKind.i64 B7:Stt} (List.drop x_2.1 u.tos) x_2.2=cb m b {things:=IntKind.wrap IntKind.i64 A0,names:=IntKind.wrap IntKind.i64 B7:Stt} u.tos x_1.2.1)/\A=(↑x_2.1:Int)/\v/\l/\K/\M/\O/\L/\L/\M/\d/\g/\v/\w/\z/\L/\g/\C2/\L/\L/\L/\L/\L/\L/\g/\L/\s.tos=s.tos/\C1=C1/\x_1.2.1=x_2.2/\C3)/\
  ∀(x_2:Nat × List Stt),let C7:=(↑x_2.1:Int);let C8:=Int.toNat C7;let C9:=List.getD s.tos C8 h;x_2.1<=List.length u.tos/\List.length x_2.2=aF code k+J/\cb m b {things:=IntKind.wrap IntKind.i64 A0,names:=IntKind.wrap IntKind.i64 B7:Stt} (List.drop x_2.1 u.tos) x_2.2=cb m b {things:=IntKind.wrap IntKind.i64 A0,names:=IntKind.wrap IntKind.i64 B7:Stt} u.tos x_1.2.1→if decide (C7<C1)=true then (A<=C7/\C7<C1)/\if decide (List.getD s.tos C8 h<=m)=true then r else if decide (G<List.getD s.tos C8 h)=true then r else (A<=List.getD s.tos C8 h/\List.getD s.tos C8 h<N/\Int.toNat I=List.length x_2.2)/\if (!bn x_2.2 C9 {things:=IntKind.wrap IntKind.i64 A0,names:=IntKind.wrap IntKind.i64 B7:Stt})=true then r else inR IntKind.i64 (C7+H)/\∃(y:Nat × List Stt),(y.1<=List.length u.tos/\List.length y.2=aF code k+J/\cb m b {things:=IntKind.wrap IntKind.i64 A0,names:=IntKind.wrap IntKind.i64 B7:Stt} (List.drop y.1 u.tos) y.2=cb m b {things:=IntKind.wrap IntKind.i64 A0,names:=IntKind.wrap IntKind.i64 B7:Stt} u.tos x_1.2.1)/\List.length u.tos - y.1<List.length u.tos - x_2.1/\C7+H=(↑y.1:Int)/\v/\l/\K/\M/\O/\L/\L/\M/\d/\g/\v/\w/\z/\L/\g/\C2/\L/\L/\L/\L/\L/\L/\g/\L/\s.tos=s.tos/\C1=C1/\bh x_2.2 C9 {things:=IntKind.wrap IntKind.i64 A0,names:=IntKind.wrap IntKind.i64 B7:Stt}=y.2/\C3 else B9/\∃(y:Nat × List Stt × List Stt),let D0:=(↑y.1:Int);(y.1<=aF code k/\List.length y.2.1=aF code k+J/\List.length y.2.2=List.length code/\cO code k a b (List.drop y.1 c.ops) D0 y.2.1 y.2.2=bU code k bs)/\aF code k - y.1<aF code k - x_1.1/\m+H=D0/\l/\K/\M/\O/\L/\L/\M/\d/\x_2.2=y.2.1/\x_1.2.2=y.2.2/\e else B5/\A8)/\if (!gF code k a b m u x_1.2.1 x_1.2.2)=true then C4 else B9/\(A<=m+H/\m+H<N/\Int.toNat I=List.length C5)/\if (!bn C5 (m+H) A1)=true then C4 else B9/\∃(y:Nat × List Stt × List Stt),let C7:=(↑y.1:Int);(y.1<=aF code k/\List.length y.2.1=aF code k+J/\List.length y.2.2=List.length code/\cO code k a b (List.drop y.1 c.ops) C7 y.2.1 y.2.2=bU code k bs)/\aF code k - y.1<aF code k - x_1.1/\m+H=C7/\l/\K/\M/\O/\L/\L/\M/\d/\bh C5 (m+H) A1=y.2.1/\bF code k a b m u x_1.2.1 x_1.2.2=y.2.2/\e else (A<=G/\G<N)/\Int.toNat G<List.length x_1.2.1/\V/\(decide (C6.things=H) && (decide (C6.names=X.names) && true))=Y.1/\q:=by
 conv=>zeta
 obtain ⟨h1,h2,h3,h4,h5,h6⟩:=ho
 subst h4
 have dC:code.getD k.toNat (dfl (Ty.st SN.chunk))=cP code k:=rfl
 have dS:dfl (Ty.st SN.stt)=(default:Stt):=rfl
 have dO:dfl (Ty.st SN.op)=(default:Opn):=rfl
 have dI:dfl (Ty.int IntKind.i64)=(0:Int):=rfl
 have dN:(cP code k).ops.length=aF code k:=rfl
 have hb:∀x y:Stt,(decide (x.things=y.things) && (decide (x.names=y.names) && true))=eqT x y:=fun x y=>by unfold eqT;simp
 simp only [dC,dS,dO,dI,dN,Int.toNat_natCast]
 have tN:(((aF code k:Nat):Int)+1).toNat=aF code k+1:=by omega
 simp only [tN]
 have cN:((aF code k+1:Nat):Int)=(aF code k:Int)+1:=by omega
 generalize hN:aF code k=N at *
 generalize hbb:bs.getD k.toNat (default:Stt)=bb at *
 refine ⟨⟨h1,h2⟩,⟨h1,h2⟩,by omega,ag (by omega) (by omega),⟨by omega,by omega,by omega⟩,⟨0,Nat.zero_le _,rfl,by repeat' (first | exact trivial | rfl | apply And.intro)⟩,?_⟩
 intro x hx
 refine a7 (fun q=>?_) (fun q=>?_)
 ·replace q:=Xo q
  have q:x < N+1:=by omega
  refine ⟨⟨by omega,by omega⟩,by rw [cq hx];exact q,ag (by omega) (by omega),x+1,by omega,by omega,by omega,?_⟩
  rw [rF q]
  have e:(cJ (N+1) x).set x {things:=-1,names:=({things:=0,names:=0}:Stt).names}=cJ (N+1) (x+1):=uJ q default
  repeat' (first | exact trivial | exact e | rfl | apply And.intro)
 replace q:¬(x:Int) < ((N+1:Nat):Int):=fun z=>q (Xd z)
 have q:x=N+1:=by omega
 subst q
 have e0:∀h:bn (cJ (N+1) (N+1)) 0 bb=false,bU code k bs=(false,bs):=fun h=>by unfold bU;rw [hbb,hN,if_neg (by rw [h];exact fun z=>by cases z)]
 have e1:∀h:bn (cJ (N+1) (N+1)) 0 bb=true,cO code k bb N (cP code k).ops 0 (bh (cJ (N+1) (N+1)) 0 bb) bs=bU code k bs:=fun h=>by unfold bU;rw [hbb,hN,if_pos h]
 refine ⟨⟨by omega,by omega,by rw [cq (Nat.le_refl _)]⟩,a7 (fun q=>?_) (fun q=>?_)⟩
 ·have q:bn (cJ (N+1) (N+1)) 0 bb=false:=by simpa using q
  rw [e0 q]
  repeat' (first | exact trivial | rfl | apply And.intro)
 have q:bn (cJ (N+1) (N+1)) 0 bb=true:=by simpa using q
 refine ⟨⟨(0,bh (cJ (N+1) (N+1)) 0 bb,bs),⟨Nat.zero_le _,by rw [ck,cq (Nat.le_refl _)],h3,by rw [List.drop_zero];exact e1 q⟩,by repeat' (first | exact trivial | rfl | apply And.intro)⟩,?_⟩
 clear e0 e1 q
 rintro ⟨i,l,b⟩ ⟨i1,i2,i3,i4⟩
 simp only at i1 i2 i3 i4 ⊢
 refine a7 (fun q=>?_) (fun q=>?_)
 ·replace q:=Xo q
  have q:i < N:=by omega
  have qi:i < (cP code k).ops.length:=by omega
  rw [bS (cP code k).ops i (default:Opn) qi] at i4
  obtain ⟨hO,hO2⟩:=h6 _ (fW (cP code k).ops i (default:Opn) qi)
  generalize (cP code k).ops.getD i (default:Opn)=O at *
  generalize hcf:bU code k bs=cf at *
  have bad:gF code k bb N i O l b=false→cf=(false,b):=fun h=>by rw [←i4];exact kD _ h
  have ci:((i+1:Nat):Int)=(i:Int)+1:=by omega
  refine ⟨⟨by omega,by omega⟩,⟨by omega,by omega⟩,by omega,a7 (fun m=>?_) (fun m=>?_)⟩
  ·rw [bad (by unfold gF;rw [Int.toNat_natCast,if_pos (.inl (Xo m))])];repeat' (first | exact trivial | rfl | apply And.intro)
  have m:¬(l.getD i default).things < 0:=fun z=>m (Xd z)
  refine ⟨hO,a7 (fun m2=>?_) (fun m2=>?_)⟩
  ·rw [bad (by unfold gF;rw [if_pos (.inr (.inl (by simpa using m2)))])];repeat' (first | exact trivial | rfl | apply And.intro)
  refine a7 (fun m3=>?_) (fun m3=>?_)
  ·rw [bad (by unfold gF;rw [Int.toNat_natCast,if_pos (.inr (.inr (Xo m3)))])];repeat' (first | exact trivial | rfl | apply And.intro)
  have m3:¬(l.getD i default).things < (aY O).1:=fun z=>m3 (Xd z)
  have g0:gF code k bb N i O l b=gK code k bb N i O l b:=by unfold gF;rw [Int.toNat_natCast,if_neg (fun z=>z.elim m (fun z=>z.elim (fun z=>by simp [z] at m2) m3))]
  have q1:({things:=IntKind.wrap IntKind.i64 ((l.getD i default).things+IntKind.wrap IntKind.i64 ((aY O).2 - (aY O).1)),names:=(l.getD i default).names}:Stt)=s1F O (l.getD i default):=rfl
  simp only [q1]
  refine ⟨?_,a7 (fun z=>?_) (fun z=>?_)⟩
  ·refine a7 (fun K=>?_) (fun K=>?_)
   ·have K:=Xo K
    rw [g0]
    simp only [gK,sF,lF,bF,K,Int.toNat_natCast]
    repeat' (first | exact trivial | rfl | apply And.intro)
   have K1:¬O.kind=4:=fun z=>K (Xd z)
   refine a7 (fun K=>?_) (fun K=>?_)
   ·have K:=Xo K
    have q3:(decide ((b.getD O.n.toNat default).things=0) && (decide ((b.getD O.n.toNat default).names=IntKind.wrap IntKind.i64 ((l.getD i default).names+(code.getD O.n.toNat (dfl (Ty.st SN.chunk))).args)) && true))=eqT (b.getD O.n.toNat default) (lj code O (l.getD i default)):=hb _ (lj code O (l.getD i default))
    have g1:gF code k bb N i O l b=(!(decide (O.n<=k) || decide ((code.length:Int)<=O.n)) && !(decide (0<=(b.getD O.n.toNat default).things) && !eqT (b.getD O.n.toNat default) (lj code O (l.getD i default)))):=by
     rw [g0];unfold gK;rw [if_neg K1,if_pos K];rfl
    have g2:sF N i O l=s1F O (l.getD i default):=by simp only [sF,K,Int.toNat_natCast];rfl
    have g3:lF N i O l=l:=by simp only [lF,K];rfl
    have g4:gF code k bb N i O l b=true→bF code k bb N i O l b=b.set O.n.toNat (lj code O (l.getD i default)):=fun z=>by unfold bF;rw [if_pos ⟨K,z⟩];rfl
    simp only [q3]
    refine a7 (fun y=>?_) (fun y=>?_)
    ·rw [bad (by rw [g1,y];rfl)];repeat' (first | exact trivial | rfl | apply And.intro)
    have y:decide (O.n<=k)=false:=by simpa using y
    refine a7 (fun w=>?_) (fun w=>?_)
    ·rw [bad (by rw [g1,w,y];rfl)];repeat' (first | exact trivial | rfl | apply And.intro)
    have w:decide ((code.length:Int)<=O.n)=false:=by simpa using w
    have y':=of_decide_eq_false y
    have w':=of_decide_eq_false w
    refine ⟨⟨by omega,by omega⟩,⟨by omega,by omega⟩,by omega,a7 (fun v=>?_) (fun v=>?_)⟩
    ·refine ⟨⟨by omega,by omega⟩,by omega,a7 (fun u=>?_) (fun u=>?_)⟩
     ·have u:eqT (b.getD O.n.toNat default) (lj code O (l.getD i default))=false:=by simpa using u
      rw [bad (by rw [g1,w,y,v,u];rfl)];repeat' (first | exact trivial | rfl | apply And.intro)
     ·have u:eqT (b.getD O.n.toNat default) (lj code O (l.getD i default))=true:=by simpa using u
      have g5:gF code k bb N i O l b=true:=by rw [g1,w,y,u];simp
      refine ⟨⟨by omega,by omega⟩,by omega,?_⟩
      rw [g4 g5,g5,g2,g3]
      repeat' (first | exact trivial | rfl | apply And.intro)
    ·have v:decide (0<=(b.getD O.n.toNat default).things)=false:=by simpa using v
     have g5:gF code k bb N i O l b=true:=by rw [g1,w,y,v];simp
     refine ⟨⟨by omega,by omega⟩,by omega,?_⟩
     rw [g4 g5,g5,g2,g3]
     repeat' (first | exact trivial | rfl | apply And.intro)
   have K2:¬O.kind=6:=fun z=>K (Xd z)
   have g4:bF code k bb N i O l b=b:=by unfold bF;rw [if_neg (fun z=>K2 z.1)]
   refine a7 (fun K=>?_) (fun K=>?_)
   ·have K:=Xo K
    rw [g4,g0]
    simp only [gK,sF,lF,K,Int.toNat_natCast]
    repeat' (first | exact trivial | rfl | apply And.intro)
   have K3:¬O.kind=12:=fun z=>K (Xd z)
   refine a7 (fun K=>?_) (fun K=>?_)
   ·have K:=Xo K
    have g1:gF code k bb N i O l b=!decide (IntKind.i64.wrap ((l.getD i default).names - bb.names) < O.n):=by rw [g0];simp only [gK,K,Int.toNat_natCast];rfl
    refine a7 (fun y=>?_) (fun y=>?_)
    ·rw [bad (by rw [g1,y];rfl)];repeat' (first | exact trivial | rfl | apply And.intro)
    ·have y:decide (IntKind.i64.wrap ((l.getD i default).names - bb.names) < O.n)=false:=by simpa using y
     rw [g4,g1,y]
     simp only [sF,lF,K,Int.toNat_natCast]
     repeat' (first | exact trivial | rfl | apply And.intro)
   have K4:¬O.kind=13:=fun z=>K (Xd z)
   refine a7 (fun K=>?_) (fun K=>?_)
   ·have K:=Xo K
    have g1:gF code k bb N i O l b=(decide ((i:Int) < O.n) && decide (O.n<=(N:Int)) && bn l O.n (s1F O (l.getD i default))):=by rw [g0];simp only [gK,K,Int.toNat_natCast];rfl
    refine a7 (fun y=>?_) (fun y=>?_)
    ·have y:=Xo y
     rw [bad (by rw [g1,Xf (show ¬(i:Int) < O.n by omega)];rfl)];repeat' (first | exact trivial | rfl | apply And.intro)
    have y:¬O.n<=(i:Int):=fun z=>y (Xd z)
    refine a7 (fun w=>?_) (fun w=>?_)
    ·have w:=Xo w
     rw [bad (by rw [g1,Xf (show ¬O.n<=(N:Int) by omega),Bool.and_false];rfl)];repeat' (first | exact trivial | rfl | apply And.intro)
    have w:¬(N:Int) < O.n:=fun z=>w (Xd z)
    refine ⟨⟨by omega,by omega,by omega⟩,a7 (fun v=>?_) (fun v=>?_)⟩
    ·have v:bn l O.n (s1F O (l.getD i default))=false:=by simpa using v
     rw [bad (by rw [g1,v,Bool.and_false])];repeat' (first | exact trivial | rfl | apply And.intro)
    ·have v:bn l O.n (s1F O (l.getD i default))=true:=by simpa using v
     have g5:gF code k bb N i O l b=true:=by rw [g1,v,Xd (show (i:Int) < O.n by omega),Xd (show O.n<=(N:Int) by omega)];rfl
     have g3:lF N i O l=bh l O.n (s1F O (l.getD i default)):=by unfold lF;rw [if_pos ⟨.inl K,by omega,by omega⟩,Int.toNat_natCast]
     have g2:sF N i O l=(lF N i O l).getD ((i:Int)+1).toNat default:=by unfold sF;rw [if_neg K3,if_neg K4,if_pos (.inl K)]
     rw [qe _ g5 g2,g3,g4] at i4
     refine ⟨ag (by omega) (by omega),(i+1,bh l O.n (s1F O (l.getD i default)),b),⟨q,by rw [ck];exact i2,i3,by rw [ci];exact i4⟩,by simp only;omega,by repeat' (first | exact trivial | rfl | apply And.intro)⟩
   have K5:¬O.kind=15:=fun z=>K (Xd z)
   refine a7 (fun K=>?_) (fun K=>?_)
   ·have K:=Xo K
    have g1:gF code k bb N i O l b=(decide ((i:Int) < O.n) && decide (O.n<=(N:Int)) && bn l O.n (s1F O (l.getD i default))):=by rw [g0];simp only [gK,K,Int.toNat_natCast];rfl
    have g2:sF N i O l=s1F O (l.getD i default):=by simp only [sF,K,Int.toNat_natCast];rfl
    have off:¬((i:Int) < O.n/\O.n<=(N:Int))→gF code k bb N i O l b=false/\lF N i O l=l:=fun z=>by
     refine ⟨?_,?_⟩
     ·rw [g1]
      by_cases y:(i:Int) < O.n
      ·rw [Xf (show ¬O.n<=(N:Int) from fun w=>z ⟨y,w⟩),Bool.and_false];rfl
      ·rw [Xf y];rfl
     ·unfold lF;rw [if_neg (fun y=>z y.2),if_neg (fun y=>by rw [K] at y;exact absurd y.1 (by decide))]
    refine a7 (fun y=>?_) (fun y=>?_)
    ·have y:=Xo y
     refine a7 (fun w=>?_) (fun w=>?_)
     ·have w:=Xo w
      have g3:lF N i O l=bh l O.n (s1F O (l.getD i default)):=by unfold lF;rw [if_pos ⟨.inr K,y,w⟩,Int.toNat_natCast]
      refine ⟨⟨by omega,by omega,by omega⟩,?_⟩
      rw [g4,g3,g2,g1,Xd y,Xd w]
      repeat' (first | exact trivial | rfl | apply And.intro)
     ·have w:¬O.n<=(N:Int):=fun z=>w (Xd z)
      obtain ⟨o1,o2⟩:=off (fun z=>w z.2)
      rw [g4,o1,o2,g2]
      repeat' (first | exact trivial | rfl | apply And.intro)
    ·have y:¬(i:Int) < O.n:=fun z=>y (Xd z)
     obtain ⟨o1,o2⟩:=off (fun z=>y z.1)
     rw [g4,o1,o2,g2]
     repeat' (first | exact trivial | rfl | apply And.intro)
   have K6:¬O.kind=14:=fun z=>K (Xd z)
   have K56:¬(O.kind=15∨O.kind=14):=fun z=>z.elim K5 K6
   have di:¬(O.kind=16/\O.tos.length≠0)→gF code k bb N i O l b=true/\sF N i O l=s1F O (l.getD i default)/\lF N i O l=l:=fun z=>by
    refine ⟨?_,?_,?_⟩
    ·rw [g0];unfold gK;rw [if_neg K1,if_neg K2,if_neg K4,if_neg K56,if_neg z]
    ·unfold sF;rw [if_neg K3,if_neg K4,if_neg (fun y=>y.elim K5 z),Int.toNat_natCast]
    ·unfold lF;rw [if_neg (fun y=>K56 y.1),if_neg z]
   refine a7 (fun K=>?_) (fun K=>?_)
   ·have K:=Xo K
    refine a7 (fun y=>?_) (fun y=>?_)
    ·have y:=Xo y
     obtain ⟨o1,o2,o3⟩:=di (fun z=>z.2 (by omega))
     rw [g4,o1,o2,o3]
     repeat' (first | exact trivial | rfl | apply And.intro)
    have y:O.tos.length≠0:=fun z=>y (Xd (by omega))
    have q4:({things:=IntKind.wrap IntKind.i64 ((l.getD i default).things+IntKind.wrap IntKind.i64 ((aY O).2 - (aY O).1)),names:=IntKind.wrap IntKind.i64 ((l.getD i default).names+1)}:Stt)=⟨(s1F O (l.getD i default)).things,IntKind.i64.wrap ((l.getD i default).names+1)⟩:=rfl
    simp only [q4]
    generalize hs2:(⟨(s1F O (l.getD i default)).things,IntKind.i64.wrap ((l.getD i default).names+1)⟩:Stt)=s2 at *
    have g1:gF code k bb N i O l b=(cb i N s2 O.tos l).1:=by rw [g0];unfold gK;rw [if_neg K1,if_neg K2,if_neg K4,if_neg K56,if_pos ⟨K,y⟩,Int.toNat_natCast,hs2]
    have g3:lF N i O l=(cb i N s2 O.tos l).2:=by unfold lF;rw [if_neg (fun y=>K56 y.1),if_pos ⟨K,y⟩,Int.toNat_natCast,hs2]
    have g2:sF N i O l=(lF N i O l).getD ((i:Int)+1).toNat default:=by unfold sF;rw [if_neg K3,if_neg K4,if_pos (.inr ⟨K,y⟩)]
    refine ⟨⟨(0,l),⟨Nat.zero_le _,i2,by rw [List.drop_zero]⟩,by repeat' (first | exact trivial | rfl | apply And.intro)⟩,?_⟩
    rintro ⟨j,a⟩ ⟨j1,j2,j3⟩
    simp only at j1 j2 j3 ⊢
    refine a7 (fun v=>?_) (fun v=>?_)
    ·have v:=Xo v
     have v:j < O.tos.length:=by omega
     rw [bS O.tos j (0:Int) v] at j3
     generalize O.tos.getD j (0:Int)=tgt at *
     have no:¬(¬tgt<=(i:Int)/\¬(N:Int) < tgt/\bn a tgt s2=true)→cf=(false,b):=fun z=>bad (by
      rw [g1,←j3]
      unfold cb
      rw [if_pos]
      by_cases c1:tgt<=(i:Int)
      ·exact .inl c1
      by_cases c2:(N:Int) < tgt
      ·exact .inr (.inl c2)
      refine .inr (.inr (Bool.eq_false_iff.2 fun c3=>z ⟨c1,c2,c3⟩)))
     refine ⟨⟨by omega,by omega⟩,a7 (fun u=>?_) (fun u=>?_)⟩
     ·rw [no (fun z=>z.1 (Xo u))];repeat' (first | exact trivial | rfl | apply And.intro)
     have u:¬tgt<=(i:Int):=fun z=>u (Xd z)
     refine a7 (fun t=>?_) (fun t=>?_)
     ·rw [no (fun z=>z.2.1 (Xo t))];repeat' (first | exact trivial | rfl | apply And.intro)
     have t:¬(N:Int) < tgt:=fun z=>t (Xd z)
     refine ⟨⟨by omega,by omega,by omega⟩,a7 (fun r=>?_) (fun r=>?_)⟩
     ·rw [no (fun z=>by rw [z.2.2] at r;cases r)];repeat' (first | exact trivial | rfl | apply And.intro)
     have r:bn a tgt s2=true:=by simpa using r
     have j4:cb i N s2 (O.tos.drop (j+1)) (bh a tgt s2)=cb i N s2 O.tos l:=by
      rw [←j3]
      conv=>rhs;unfold cb
      rw [if_neg (fun z=>z.elim u (fun z=>z.elim t (fun z=>by rw [r] at z;cases z)))]
     refine ⟨ag (by omega) (by omega),(j+1,bh a tgt s2),⟨v,by rw [ck];exact j2,j4⟩,by simp only;omega,by repeat' (first | exact trivial | rfl | apply And.intro)⟩
    ·have v:¬(j:Int) < (O.tos.length:Int):=fun z=>v (Xd z)
     have v:j=O.tos.length:=by omega
     subst v
     rw [List.drop_length] at j3
     have g5:gF code k bb N i O l b=true:=by rw [g1,←j3];rfl
     have g6:lF N i O l=a:=by rw [g3,←j3];rfl
     rw [qe _ g5 g2,g6,g4] at i4
     refine ⟨ag (by omega) (by omega),(i+1,a,b),⟨q,j2,i3,by rw [ci];exact i4⟩,by simp only;omega,by repeat' (first | exact trivial | rfl | apply And.intro)⟩
   have K7:¬O.kind=16:=fun z=>K (Xd z)
   obtain ⟨o1,o2,o3⟩:=di (fun z=>K7 z.1)
   rw [g4,o1,o2,o3]
   repeat' (first | exact trivial | rfl | apply And.intro)
  ·have z:gF code k bb N i O l b=false:=by simpa using z
   rw [bad z]
   have e:bF code k bb N i O l b=b:=by unfold bF;rw [if_neg (fun y=>by rw [z] at y;cases y.2)]
   rw [e]
   repeat' (first | exact trivial | rfl | apply And.intro)
  ·have z:gF code k bb N i O l b=true:=by simpa using z
   rw [mL _ z] at i4
   refine ⟨ag (by omega) (by omega),⟨by omega,by omega,by rw [rD];omega⟩,a7 (fun y=>?_) (fun y=>?_)⟩
   ·have y:bn (lF N i O l) (i+1) (sF N i O l)=false:=by simpa using y
    rw [if_neg (by rw [y];exact fun w=>by cases w)] at i4
    rw [←i4]
    repeat' (first | exact trivial | rfl | apply And.intro)
   ·have y:bn (lF N i O l) (i+1) (sF N i O l)=true:=by simpa using y
    rw [if_pos y] at i4
    refine ⟨ag (by omega) (by omega),(i+1,bh (lF N i O l) (i+1) (sF N i O l),bF code k bb N i O l b),⟨q,by rw [ck,rD];exact i2,by rw [mK];exact i3,by rw [ci];exact i4⟩,by simp only;omega,by repeat' (first | exact trivial | rfl | apply And.intro)⟩
 ·replace q:¬(i:Int) < (N:Int):=fun z=>q (Xd z)
  have q:i=N:=by omega
  subst q
  have e:(cP code k).ops.drop i=[]:=List.drop_eq_nil_of_le (by omega)
  rw [e] at i4
  unfold cO at i4
  rw [←i4]
  refine ⟨⟨by omega,by omega⟩,by omega,trivial,hb _ ⟨1,bb.names⟩,by repeat' (first | exact trivial | rfl | apply And.intro)⟩
theorem wG (l:List Chnk) (n:Int) (hl:Wf (.lst (.st .chunk)) l) (ho:kK l) :
  let A:=(0:Int);let B:=True;let C:=B/\(310:Int)=iw l n/\B;let D:=List.length l;let E:=(↑D:Int);let F:=(4096:Int);let G:=dfl (Ty.st SN.chunk);let H:=(4096:Nat);let I:=l=l;let J:=n=n;let K:=false=false;let L:=E=E;let M:=I/\J/\K/\I/\L/\B;let N:=(1:Int);let O:=Int.toNat E;let P:=(↑O:Int);let Q:=I/\Int.toNat E=Int.toNat E/\B;let R:=dfl (Ty.st SN.stt);let S:=(0:Nat);let T:=bg0 D n;if decide (n<A)=true then C else if decide ((1000000:Int)<n)=true then C else if decide (E=A)=true then C else if decide (F<E)=true then C else (A<=A/\A<E)/\if (!decide ((List.getD l (Int.toNat A) G).args=A))=true then C else (∃(x:Nat × Int),(x.1<=List.length l/\A<=x.2/\x.2<=F/\bz (List.drop x.1 l) x.2=bz l A/\∀(j:Nat),j<x.1→List.length (List.getD l j default).ops<=H)/\A=(↑x.1:Int)/\A=x.2/\M)/\∀(x:Nat × Int),let U:=(↑x.1:Int);let V:=List.getD l (Int.toNat U) G;let W:=(↑(List.length V.ops):Int);let X:=x.2=x.2;(x.1<=List.length l/\A<=x.2/\x.2<=F/\bz (List.drop x.1 l) x.2=bz l A/\∀(j:Nat),j<x.1→List.length (List.getD l j default).ops<=H)→if decide (U<E)=true then (A<=U/\U<E)/\if decide (V.args<A)=true then C else if decide (F<V.args)=true then C else inR IntKind.i64 (F - x.2)/\if decide (F - x.2<W)=true then C else inR IntKind.i64 (x.2+W)/\inR IntKind.i64 (U+N)/\∃(y:Nat × Int),(y.1<=List.length l/\A<=y.2/\y.2<=F/\bz (List.drop y.1 l) y.2=bz l A/\∀(j:Nat),j<y.1→List.length (List.getD l j default).ops<=H)/\List.length l - y.1<List.length l - x.1/\U+N=(↑y.1:Int)/\x.2+W=y.2/\M else (A<=E/\E<=E/\E*(↑(16:Nat):Int)<=(140737488355328:Int))/\(∃(x_1:Nat),x_1<=List.length l/\A=(↑x_1:Int)/\U=U/\X/\I/\J/\K/\I/\L/\K/\P=P/\List.replicate O {things:=A,names:=A:Stt}=cJ D x_1/\Q)/\∀(x_1:Nat),let Y:=(↑x_1:Int);let Z:=cJ D x_1;x_1<=List.length l→if decide (Y<P)=true then (A<=Y/\Y<P)/\Int.toNat Y<List.length Z/\inR IntKind.i64 (Y+N)/\∃(y:Nat),y<=List.length l/\List.length l - y<List.length l - x_1/\Y+N=(↑y:Int)/\U=U/\X/\I/\J/\K/\I/\L/\K/\P=P/\List.set Z (Int.toNat Y) {things:=(-1:Int),names:=(List.getD Z (Int.toNat Y) R).names:Stt}=cJ D y/\Q else (A<=A/\A<P)/\Int.toNat A<List.length Z/\(∃(x_2:Nat × List Stt),(x_2.1<=List.length l/\List.length x_2.2=List.length l/\lk l (List.length l - x_2.1) x_2.1 x_2.2=lk l D S T)/\A=(↑x_2.1:Int)/\Y=Y/\U=U/\X/\I/\J/\K/\I/\L/\K/\P=P/\K/\L/\List.set Z (Int.toNat A) {things:=A,names:=n:Stt}=x_2.2/\Q)/\∀(x_2:Nat × List Stt),let a:=(↑x_2.1:Int);let b:=bU l a x_2.2;x_2.1<=List.length l/\List.length x_2.2=List.length l/\lk l (List.length l - x_2.1) x_2.1 x_2.2=lk l D S T→if decide (a<E)=true then (A<=a/\a<P)/\Int.toNat a<List.length x_2.2/\if decide ((List.getD x_2.2 (Int.toNat a) R).things<A)=true then C else D4 l a x_2.2 O/\if (!b.1)=true then C else inR IntKind.i64 (a+N)/\∃(y:Nat × List Stt),(y.1<=List.length l/\List.length y.2=List.length l/\lk l (List.length l - y.1) y.1 y.2=lk l D S T)/\List.length l - y.1<List.length l - x_2.1/\a+N=(↑y.1:Int)/\Y=Y/\U=U/\X/\I/\J/\K/\I/\L/\K/\P=P/\K/\L/\b.2=y.2/\Q else B/\A=iw l n/\B:=by
 conv=>zeta
 have dC:dfl (Ty.st SN.chunk)=(default:Chnk):=rfl
 have dS:dfl (Ty.st SN.stt)=(default:Stt):=rfl
 simp only [dC,dS,Int.toNat_natCast,Int.toNat_zero]
 have bad:n < 0∨1000000 < n∨l.length=0∨4096 < l.length∨(l.getD 0 default).args≠0→iw l n=310:=fun h=>by unfold iw;rw [if_pos h]
 refine a7 (fun h=>?_) (fun h=>?_)
 ·rw [bad (.inl (Xo h))];repeat' (first | exact trivial | rfl | apply And.intro)
 have h1:¬n < 0:=fun z=>h (Xd z)
 refine a7 (fun h=>?_) (fun h=>?_)
 ·rw [bad (.inr (.inl (Xo h)))];repeat' (first | exact trivial | rfl | apply And.intro)
 have h2:¬1000000 < n:=fun z=>h (Xd z)
 refine a7 (fun h=>?_) (fun h=>?_)
 ·have:=Xo h
  rw [bad (.inr (.inr (.inl (by omega))))];repeat' (first | exact trivial | rfl | apply And.intro)
 have h3:¬l.length=0:=fun z=>h (Xd (by omega))
 refine a7 (fun h=>?_) (fun h=>?_)
 ·have:=Xo h
  rw [bad (.inr (.inr (.inr (.inl (by omega)))))];repeat' (first | exact trivial | rfl | apply And.intro)
 have h4:¬4096 < l.length:=fun z=>h (Xd (by omega))
 refine ⟨⟨by omega,by omega⟩,a7 (fun h=>?_) (fun h=>?_)⟩
 ·have h:(l.getD 0 default).args≠0:=by simpa using h
  rw [bad (.inr (.inr (.inr (.inr h))))];repeat' (first | exact trivial | rfl | apply And.intro)
 have h5:(l.getD 0 default).args=0:=by simpa using h
 have e0:iw l n=if bz l 0=false then 310 else if lk l l.length 0 (bg0 l.length n)=true then 0 else 310:=by
  unfold iw
  rw [if_neg (fun z=>z.elim h1 (fun z=>z.elim h2 (fun z=>z.elim h3 (fun z=>z.elim h4 (fun z=>z h5)))))]
 clear bad
 generalize iw l n=vf at *
 refine ⟨⟨(0,0),⟨Nat.zero_le _,Int.le_refl _,by omega,rfl,fun j hj=>absurd hj (Nat.not_lt_zero _)⟩,by repeat' (first | exact trivial | rfl | apply And.intro)⟩,?_⟩
 rintro ⟨i,z⟩ ⟨i1,i2,i3,i4,i5⟩
 simp only at i1 i2 i3 i4 i5 ⊢
 refine a7 (fun q=>?_) (fun q=>?_)
 ·have q:=Xo q
  have q:i < l.length:=by omega
  rw [bS l i (default:Chnk) q] at i4
  have i6:¬((l.getD i default).args < 0∨4096 < (l.getD i default).args∨4096 - z < ((l.getD i default).ops.length:Int))→bz (l.drop (i+1)) (z+(l.getD i default).ops.length)=bz l 0:=fun w=>by
   rw [←i4]
   conv=>rhs;unfold bz
   rw [if_neg w]
  have i7:(l.getD i default).args < 0∨4096 < (l.getD i default).args∨4096 - z < ((l.getD i default).ops.length:Int)→vf=310:=fun w=>by
   have e:bz l 0=false:=by rw [←i4];unfold bz;rw [if_pos w]
   rw [e0,if_pos e]
  refine ⟨⟨by omega,by omega⟩,a7 (fun w=>?_) (fun w=>?_)⟩
  ·rw [i7 (.inl (Xo w))];repeat' (first | exact trivial | rfl | apply And.intro)
  have w1:¬(l.getD i default).args < 0:=fun z=>w (Xd z)
  refine a7 (fun w=>?_) (fun w=>?_)
  ·rw [i7 (.inr (.inl (Xo w)))];repeat' (first | exact trivial | rfl | apply And.intro)
  have w2:¬4096 < (l.getD i default).args:=fun z=>w (Xd z)
  refine ⟨ag (by omega) (by omega),a7 (fun w=>?_) (fun w=>?_)⟩
  ·rw [i7 (.inr (.inr (Xo w)))];repeat' (first | exact trivial | rfl | apply And.intro)
  have w3:¬4096 - z < ((l.getD i default).ops.length:Int):=fun z=>w (Xd z)
  refine ⟨ag (by omega) (by omega),ag (by omega) (by omega),(i+1,z+(l.getD i default).ops.length),⟨q,by simp only;omega,by simp only;omega,i6 (by omega),fun j hj=>?_⟩,by simp only;omega,by repeat' (first | exact trivial | rfl | apply And.intro)⟩
  simp only at hj
  by_cases hji:j=i
  ·subst hji;omega
  ·exact i5 j (by omega)
 have q:¬(i:Int) < (l.length:Int):=fun z=>q (Xd z)
 have q:i=l.length:=by omega
 subst q
 rw [List.drop_length] at i4
 have e1:bz l 0=true:=by rw [←i4];rfl
 rw [e1,if_neg (by decide)] at e0
 generalize hR:lk l l.length 0 (bg0 l.length n)=R at *
 refine ⟨⟨by omega,by omega,by omega⟩,⟨0,Nat.zero_le _,rfl,by repeat' (first | exact trivial | rfl | apply And.intro)⟩,?_⟩
 intro x hx
 refine a7 (fun q=>?_) (fun q=>?_)
 ·have q:=Xo q
  have q:x < l.length:=by omega
  refine ⟨⟨by omega,by omega⟩,by rw [cq hx];exact q,ag (by omega) (by omega),x+1,by omega,by omega,by omega,?_⟩
  rw [rF q]
  have e:(cJ l.length x).set x {things:=-1,names:=({things:=0,names:=0}:Stt).names}=cJ l.length (x+1):=uJ q default
  repeat' (first | exact trivial | exact e | rfl | apply And.intro)
 have q:¬(x:Int) < (l.length:Int):=fun z=>q (Xd z)
 have q:x=l.length:=by omega
 subst q
 refine ⟨⟨by omega,by omega⟩,by rw [cq (Nat.le_refl _)];omega,⟨(0,bg0 l.length n),⟨Nat.zero_le _,lp _ _,hR⟩,by repeat' (first | exact trivial | rfl | apply And.intro)⟩,?_⟩
 rintro ⟨k,bs⟩ ⟨k1,k2,k3⟩
 simp only at k1 k2 k3 ⊢
 refine a7 (fun q=>?_) (fun q=>?_)
 ·have q:=Xo q
  have q:k < l.length:=by omega
  have ek:l.length - k=(l.length - (k+1))+1:=by omega
  rw [ek] at k3
  unfold lk at k3
  refine ⟨⟨by omega,by omega⟩,by omega,a7 (fun w=>?_) (fun w=>?_)⟩
  ·rw [if_pos (Xo w)] at k3
   rw [←k3] at e0
   rw [e0]
   repeat' (first | exact trivial | rfl | apply And.intro)
  have w:¬(bs.getD k default).things < 0:=fun z=>w (Xd z)
  rw [if_neg w] at k3
  have hm:cP l (k:Int)∈l:=by unfold cP;rw [Int.toNat_natCast];exact fW l k default q
  refine ⟨⟨by omega,by omega,k2,rfl,by unfold aF cP;rw [Int.toNat_natCast];exact i5 k q,fun o hO=>D7 ho hm hO⟩,a7 (fun v=>?_) (fun v=>?_)⟩
  ·rw [if_neg (fun z=>by rw [z] at v;cases v)] at k3
   rw [←k3] at e0
   rw [e0]
   repeat' (first | exact trivial | rfl | apply And.intro)
  ·have v:(bU l (k:Int) bs).1=true:=by simpa using v
   rw [if_pos v] at k3
   refine ⟨ag (by omega) (by omega),(k+1,(bU l (k:Int) bs).2),⟨q,by rw [qS];exact k2,k3⟩,by simp only;omega,by repeat' (first | exact trivial | rfl | apply And.intro)⟩
 ·have q:¬(k:Int) < (l.length:Int):=fun z=>q (Xd z)
  have q:k=l.length:=by omega
  subst q
  rw [Nat.sub_self] at k3
  rw [←k3] at e0
  rw [e0]
  repeat' (first | exact trivial | rfl | apply And.intro)
theorem De (s:Str) (p:Int) (b:Bool)  :
  let A:=tkN s p b;let B:=True/\(0:Int)=A.1/\s=s/\p=A.2.1/\true=A.2.2/\True;let C:=aj s p;if b=true then B else if (!decide (C.2.2=(0:Int)))=true then B else if decide ((9223372036854775807:Int)<C.1)=true then B else inR IntKind.i64 C.1/\True/\C.1=A.1/\s=s/\C.2.1=A.2.1/\b=A.2.2/\True:=by
 conv=>zeta
 obtain ⟨h1,h2,h3⟩:=cZ s p
 unfold InU at h1
 unfold tkN
 refine a7 (fun h=>?_) (fun h=>?_)
 ·rw [if_pos (.inl h)];exact ⟨trivial,rfl,rfl,rfl,rfl,trivial⟩
 refine a7 (fun k=>?_) (fun k=>?_)
 ·have k:(aj s p).2.2≠0:=by simpa using k
  rw [if_pos (.inr (.inl k))];exact ⟨trivial,rfl,rfl,rfl,rfl,trivial⟩
 have k:(aj s p).2.2=0:=by simpa using k
 refine a7 (fun m=>?_) (fun m=>?_)
 ·rw [if_pos (.inr (.inr (Xo m)))];exact ⟨trivial,rfl,rfl,rfl,rfl,trivial⟩
 have m:¬9223372036854775807 < (aj s p).1:=fun q=>m (Xd q)
 rw [if_neg (fun z=>z.elim h (fun z=>z.elim (fun z=>z k) m))]
 exact ⟨ag (by omega) (by omega),trivial,rfl,rfl,rfl,rfl,trivial⟩
theorem Eh (s:Str) (p:Int) (b:Bool) (ho:AtS s p/\s.length<=68719476736) :
  let A:=tkN s p b;let B:=tkN s A.2.1 A.2.2;let C:=True;let D:=opF s p b;let E:=(0:Int);let F:=s=s;let G:=C/\A.1=D.1.kind/\B.1=D.1.n/\[]=D.1.name/\D.1.names=[]/\D.1.tos=[]/\E=D.1.pos/\F/\B.2.1=D.2.1/\true=D.2.2/\C;let H:=aT s B.2.1;let I:=bc s H.2.1;let J:=(9223372036854775807:Int);let K:=(1:Int);let L:=tkN s I.2.1 B.2.2;let M:=I.2.1=I.2.1;let N:=I.2.2=I.2.2;let O:=false=false;let P:=op1 s p b;let Q:=op2 s p b;let R:=op3 s p b;let S:=op4 s p b;let T:=E=E;let U:=T/\T/\kI UInt8=kI UInt8/\T/\C;let V:=P.1=D.1.kind;let W:=Q.1=D.1.n;let X:=R.1=D.1.name;let Y:=S.1=D.1.names;if B.2.2=true then G else if (!decide (H.2.2=E))=true then G else List.length s<=(1099511627776:Nat)/\if (!decide (I.2.2=E))=true then G else (∃(x:Nat × Int × List Int × Int × Bool),(AtS s x.2.2.2.1/\x.2.1<=J/\bW s x.2.2.2.1 x.2.2.2.2<=(↑x.1:Int)/\(↑(List.length x.2.2.1):Int)<=x.2.2.2.1+aB x.2.2.2.2 K/\toL s x.1 x.2.1 x.2.2.1 x.2.2.2.1 x.2.2.2.2=op6 s p b)/\L.1=x.2.1/\H.1=H.1/\M/\N/\O/\I.1=I.1/\O/\A.1=P.1/\B.1=Q.1/\H.1=R.1/\I.1=S.1/\x.2.2.1=[]/\T/\F/\L.2.1=x.2.2.2.1/\L.2.2=x.2.2.2.2/\List.length x.2.2.1=(0:Nat)/\U)/\∀(x:Nat × Int × List Int × Int × Bool),let Z:=tkN s x.2.2.2.1 x.2.2.2.2;let a:=C/\V/\W/\X/\Y/\x.2.2.1=D.1.tos/\Z.1=D.1.pos/\F/\Z.2.1=D.2.1/\Z.2.2=D.2.2/\C;AtS s x.2.2.2.1/\x.2.1<=J/\bW s x.2.2.2.1 x.2.2.2.2<=(↑x.1:Int)/\(↑(List.length x.2.2.1):Int)<=x.2.2.2.1+aB x.2.2.2.2 K/\toL s x.1 x.2.1 x.2.2.1 x.2.2.2.1 x.2.2.2.2=op6 s p b→if decide (E<x.2.1)=true then if (!x.2.2.2.2)=true then (List.length x.2.2.1=List.length x.2.2.1/\(List.length x.2.2.1+List.length [Z.1])*(8:Nat)<=(140737488355328:Nat))/\inR IntKind.i64 (x.2.1 - K)/\∃(y:Nat × Int × List Int × Int × Bool),(AtS s y.2.2.2.1/\y.2.1<=J/\bW s y.2.2.2.1 y.2.2.2.2<=(↑y.1:Int)/\(↑(List.length y.2.2.1):Int)<=y.2.2.2.1+aB y.2.2.2.2 K/\toL s y.1 y.2.1 y.2.2.1 y.2.2.2.1 y.2.2.2.2=op6 s p b)/\y.1<x.1/\x.2.1 - K=y.2.1/\H.1=H.1/\M/\N/\O/\I.1=I.1/\O/\P.1=P.1/\Q.1=Q.1/\R.1=R.1/\S.1=S.1/\x.2.2.1++[Z.1]=y.2.2.1/\T/\F/\Z.2.1=y.2.2.2.1/\Z.2.2=y.2.2.2.2/\List.length (x.2.2.1++[Z.1])=List.length y.2.2.1/\U else a else a:=by
 conv=>zeta
 obtain ⟨ha,hl⟩:=ho
 have q2:tkN s (tkN s p b).2.1 (tkN s p b).2.2=op2 s p b:=rfl
 have q3:aT s (op2 s p b).2.1=op3 s p b:=rfl
 have q4:bc s (op3 s p b).2.1=op4 s p b:=rfl
 have q5:tkN s (op4 s p b).2.1 (op2 s p b).2.2=op5 s p b:=rfl
 have q1:tkN s p b=op1 s p b:=rfl
 simp only [q2,q3,q4,q5]
 simp only [q1]
 refine a7 (fun h=>?_) (fun h=>?_)
 ·have e:opF s p b=(⟨(op1 s p b).1,(op2 s p b).1,[],[],[],0⟩,(op2 s p b).2.1,true):=by unfold opF;rw [if_pos (.inl h)]
  rw [e];repeat' (first | exact trivial | rfl | apply And.intro)
 refine a7 (fun k=>?_) (fun k=>?_)
 ·have k:(op3 s p b).2.2≠0:=by simpa using k
  have e:opF s p b=(⟨(op1 s p b).1,(op2 s p b).1,[],[],[],0⟩,(op2 s p b).2.1,true):=by unfold opF;rw [if_pos (.inr k)]
  rw [e];repeat' (first | exact trivial | rfl | apply And.intro)
 have k:(op3 s p b).2.2=0:=by simpa using k
 have n1:¬((op2 s p b).2.2=true∨(op3 s p b).2.2≠0):=fun z=>z.elim h (fun z=>z k)
 refine ⟨by omega,a7 (fun m=>?_) (fun m=>?_)⟩
 ·have m:(op4 s p b).2.2≠0:=by simpa using m
  have e:opF s p b=(⟨(op1 s p b).1,(op2 s p b).1,[],[],[],0⟩,(op2 s p b).2.1,true):=by unfold opF;rw [if_neg n1,if_pos m]
  rw [e];repeat' (first | exact trivial | rfl | apply And.intro)
 have m:(op4 s p b).2.2=0:=by simpa using m
 have e:opF s p b=(⟨(op1 s p b).1,(op2 s p b).1,(op3 s p b).1,(op4 s p b).1,(op6 s p b).1,(op7 s p b).1⟩,(op7 s p b).2.1,(op7 s p b).2.2):=by unfold opF;rw [if_neg n1,if_neg (fun z=>z m)]
 obtain ⟨g1,g2⟩:=DH ha k m
 have fin:∀(l:List Int) (q:Int) (c:Bool),(l,q,c)=op6 s p b→True/\(op1 s p b).1=(opF s p b).1.kind/\(op2 s p b).1=(opF s p b).1.n/\(op3 s p b).1=(opF s p b).1.name/\(op4 s p b).1=(opF s p b).1.names/\
   l=(opF s p b).1.tos/\(tkN s q c).1=(opF s p b).1.pos/\True/\(tkN s q c).2.1=(opF s p b).2.1/\(tkN s q c).2.2=(opF s p b).2.2/\True:=by
  intro l q c hq
  have e7:tkN s q c=op7 s p b:=by unfold op7;rw [←hq]
  rw [e,e7]
  simp only [←hq]
  repeat' (first | exact trivial | rfl | apply And.intro)
 refine ⟨⟨(s.length+2,(op5 s p b).1,[],(op5 s p b).2.1,(op5 s p b).2.2),⟨g1,g2,fe g1,by have:=g1.1;simp only [List.length_nil];unfold aB;split <;> omega,rfl⟩,by repeat' (first | exact trivial | rfl | apply And.intro)⟩,?_⟩
 rintro ⟨f,n,l,q,c⟩ ⟨i1,i2,i3,i4,i5⟩
 simp only at i1 i2 i3 i4 i5 ⊢
 cases f with
 | zero=>have:=dJ (b:=c) i1;omega
 | succ f=>
 unfold toL at i5
 refine a7 (fun r=>?_) (fun r=>?_)
 ·replace r:=Xo r
  refine a7 (fun t=>?_) (fun t=>?_)
  ·have t:c=false:=by simpa using t
   subst t
   rw [if_pos ⟨r,rfl⟩] at i5
   obtain ⟨j1,j2,j3,j4,j5⟩:=gQ (b:=false) i1
   have hs:=da i1 j3 (fun q=>(j5 q).2)
   have i6:=i1.2
   simp only [aB,Bool.false_eq_true,if_false] at i4
   refine ⟨⟨by trivial,by simp only [List.length_singleton];omega⟩,ag (by omega) (by omega),(f,n - 1,l++[(tkN s q false).1],(tkN s q false).2.1,(tkN s q false).2.2),⟨j3,by simp only;omega,by simp only;omega,?_,i5⟩,by simp,by repeat' (first | exact trivial | rfl | apply And.intro)⟩
   simp only [List.length_append,List.length_singleton]
   unfold aB
   split
   ·omega
   ·rename_i z
    have:=(j5 (Bool.eq_false_iff.2 z)).2
    omega
  ·have t:c=true:=by simpa using t
   rw [if_neg (fun z=>by rw [t] at z;cases z.2)] at i5
   exact fin l q c i5
 ·replace r:¬0 < n:=fun z=>r (Xd z)
  rw [if_neg (fun z=>r z.1)] at i5
  exact fin l q c i5
theorem BP (n:Int)  :
  True/\bQ (IntKind.wrap IntKind.u64 n)=b6 n/\True:=by
 exact ⟨trivial,rfl,trivial⟩
theorem wH (l:List Chnk) (hl:Wf (.lst (.st .chunk)) l) (ho:kK l) :
  let A:=(0:Int);let B:=True;let C:=db l;let D:=(↑(List.length l):Int);let E:=l=l;let F:=kI UInt8=kI UInt8;let G:=A=A;let H:=false=false;let I:=D=D;let J:=E/\F/\G/\H/\E/\I/\B;let K:=dfl (Ty.st SN.chunk);let L:=(9223372036854775807:Nat);let M:=true=true;let N:=dfl (Ty.st SN.op);let O:=(140737488355328:Nat);let P:=dfl (Ty.int IntKind.i64);let Q:=(1:Int);kK l/\if (!decide (iw l (1000:Int)=A))=true then B/\[]=C.1/\(310:Int)=C.2/\B else (∃(x:Nat),x<=List.length l/\A=(↑x:Int)/\b6 D=prC l x/\J)/\∀(x:Nat),let R:=(↑x:Int);let S:=Int.toNat R;let T:=List.getD l S K;let U:=(↑(List.length T.ops):Int);let V:=b6 T.args++b6 U;let W:=List.getD l S default;let X:=T.ops=T.ops;let Y:=List.getD l S K=List.getD l S K;let Z:=R=R/\E/\F/\G/\H/\E/\I/\M/\X/\U=U/\Y/\B;x<=List.length l→if decide (R<D)=true then (A<=R/\R<D)/\List.length (b6 T.args)+List.length (b6 U)<=L/\List.length (prC l x)+List.length V<=L/\(∃(x_1:Nat),x_1<=List.length W.ops/\A=(↑x_1:Int)/\prC l x++V=prC l S++prO W x_1/\Z)/\∀(x_1:Nat),let a:=(↑x_1:Int);let b:=Int.toNat a;let c:=List.getD T.ops b N;let d:=cM c.names;let e:=(↑(List.length c.tos):Int);let f:=b6 c.kind++b6 c.n++b7 c.name++cM c.names++b6 e;let g:=List.getD W.ops b default;let h:=a=a/\R=R/\E/\F/\G/\H/\E/\I/\M/\X/\U=U/\M/\c.tos=c.tos/\e=e/\Y/\List.getD T.ops b N=List.getD T.ops b N/\B;x_1<=List.length W.ops→if decide (a<U)=true then (A<=a/\a<U)/\List.length (b6 c.kind)+List.length (b6 c.n)<=L/\List.length c.name<=O/\List.length (b6 c.kind++b6 c.n)+List.length (b7 c.name)<=L/\List.length d<=O/\List.length (b6 c.kind++b6 c.n++b7 c.name)+List.length d<=L/\List.length (b6 c.kind++b6 c.n++b7 c.name++cM c.names)+List.length (b6 e)<=L/\List.length (prC l S++prO W x_1)+List.length f<=L/\(∃(x_2:Nat),x_2<=List.length g.tos/\A=(↑x_2:Int)/\prC l S++prO W x_1++f=prC l S++prO W b++prT g x_2/\h)/\∀(x_2:Nat),let i:=(↑x_2:Int);let j:=prC l S++prO W b++prT g x_2;let k:=List.getD c.tos (Int.toNat i) P;x_2<=List.length g.tos→if decide (i<e)=true then (A<=i/\i<e)/\List.length j+List.length (b6 k)<=L/\inR IntKind.i64 (i+Q)/\∃(y:Nat),y<=List.length g.tos/\List.length g.tos - y<List.length g.tos - x_2/\i+Q=(↑y:Int)/\prC l S++prO W b++prT g x_2++b6 k=prC l S++prO W b++prT g y/\h else List.length j+List.length (b6 c.pos)<=L/\inR IntKind.i64 (a+Q)/\∃(y:Nat),y<=List.length W.ops/\List.length W.ops - y<List.length W.ops - x_1/\a+Q=(↑y:Int)/\prC l S++prO W b++prT g x_2++b6 c.pos=prC l S++prO W y/\Z else inR IntKind.i64 (R+Q)/\∃(y:Nat),y<=List.length l/\List.length l - y<List.length l - x/\R+Q=(↑y:Int)/\prC l S++prO W x_1=prC l y/\J else B/\prC l x=C.1/\A=C.2/\B:=by
 conv=>zeta
 have ln:=hl.len
 have hT:(kJ l).length<=8796093022208:=ho
 have dC:dfl (Ty.st SN.chunk)=(default:Chnk):=rfl
 have dO:dfl (Ty.st SN.op)=(default:Opn):=rfl
 have dI:dfl (Ty.int IntKind.i64)=(0:Int):=rfl
 simp only [Int.toNat_natCast,dC,dO,dI]
 refine ⟨ho,a7 (fun h=>?_) (fun h=>?_)⟩
 ·have h:iw l 1000≠0:=by simpa using h
  unfold db;rw [if_pos h];exact ⟨trivial,rfl,rfl,trivial⟩
 have h:iw l 1000=0:=by simpa using h
 refine ⟨⟨0,Nat.zero_le _,rfl,by unfold prC;simp,by repeat' (first | exact trivial | rfl | apply And.intro)⟩,?_⟩
 intro x hx
 have px:=wB l x
 refine a7 (fun k=>?_) (fun k=>?_)
 ·replace k:=Xo k
  have k:x < l.length:=by omega
  have eC:=qa k
  have sC:=q8 k
  generalize l.getD x default=C at *
  have oC:=qd C
  have a1:=bO C.args
  have a2:=bO (C.ops.length:Int)
  refine ⟨⟨by omega,by omega⟩,by omega,by simp only [List.length_append];omega,⟨0,Nat.zero_le _,rfl,by unfold prO zk;simp,by repeat' (first | exact trivial | rfl | apply And.intro)⟩,?_⟩
  intro y hy
  have py:=wD C y
  refine a7 (fun m=>?_) (fun m=>?_)
  ·replace m:=Xo m
   have m:y < C.ops.length:=by omega
   have eO:=qb m
   have sO:=q9 m
   have lO:C.ops.length<=C.ops.length:=Nat.le_refl _
   generalize C.ops.getD y default=O at *
   obtain ⟨b1,b2,b3⟩:=lg O
   have oT:=lh O
   have c1:=bO O.kind
   have c2:=bO O.n
   have c3:=bO (O.tos.length:Int)
   have c4:=bO O.pos
   refine ⟨⟨by omega,by omega⟩,by omega,by omega,by simp only [List.length_append];omega,by omega,by simp only [List.length_append];omega,by simp only [List.length_append];omega,by simp only [List.length_append];omega,⟨0,Nat.zero_le _,rfl,by unfold prT wA;simp,by repeat' (first | exact trivial | rfl | apply And.intro)⟩,?_⟩
   intro z hz
   have pz:=BC O z
   refine a7 (fun n=>?_) (fun n=>?_)
   ·replace n:=Xo n
    have n:z < O.tos.length:=by omega
    have sT:=uH n
    have c5:=bO (O.tos.getD z 0)
    refine ⟨⟨by omega,by omega⟩,by simp only [List.length_append];omega,ag (by omega) (by omega),z+1,by omega,by omega,by omega,by rw [sT];simp only [List.append_assoc],by repeat' (first | exact trivial | rfl | apply And.intro)⟩
   ·replace n:¬(z:Int) < (O.tos.length:Int):=fun q=>n (Xd q)
    have n:z=O.tos.length:=by omega
    subst n
    refine ⟨by simp only [List.length_append];omega,ag (by omega) (by omega),y+1,by omega,by omega,by omega,by rw [sO,←y0];simp only [List.append_assoc],by repeat' (first | exact trivial | rfl | apply And.intro)⟩
  ·replace m:¬(y:Int) < (C.ops.length:Int):=fun q=>m (Xd q)
   have m:y=C.ops.length:=by omega
   subst m
   refine ⟨ag (by omega) (by omega),x+1,by omega,by omega,by omega,by rw [sC,xZ],by repeat' (first | exact trivial | rfl | apply And.intro)⟩
 ·replace k:¬(x:Int) < (l.length:Int):=fun q=>k (Xd q)
  have k:x=l.length:=by omega
  subst k
  have e:db l=(kJ l,0):=by unfold db;rw [if_neg (fun z=>z h)]
  rw [e,xY]
  exact ⟨trivial,rfl,rfl,trivial⟩
theorem wI (s:Str) (ho:s.length<=68719476736) :
  let A:=(9223372036854775807:Int);let B:=(4:Int);let C:=(0:Int);let D:=tkN s C false;let E:=s=s;let F:=C=C;let G:=True;let H:=(3:Int);let I:=(List.length s+(2:Nat));let J:=(140737488355328:Nat);let K:=(1:Int);let L:=dD s;let M:=G/\L.1=[]/\(310:Int)=L.2/\G;let N:=(↑(List.length s):Int);let O:=C=L.2/\G;(∃(x:Nat × Int × List Chnk × Int × Bool),(AtS s x.2.2.2.1/\x.2.1<=A/\bW s x.2.2.2.1 x.2.2.2.2<=(↑x.1:Int)/\(↑(wCs x.2.2.1):Int)<=x.2.2.2.1+aB x.2.2.2.2 B/\chL s x.1 x.2.1 x.2.2.1 x.2.2.2.1 x.2.2.2.2=dB s)/\D.1=x.2.1/\x.2.2.1=[]/\E/\F/\E/\D.2.1=x.2.2.2.1/\D.2.2=x.2.2.2.2/\List.length x.2.2.1=(0:Nat)/\G)/\∀(x:Nat × Int × List Chnk × Int × Bool),let P:=tkN s x.2.2.2.1 x.2.2.2.2;let Q:=tkN s P.2.1 P.2.2;let R:=x.2.1=x.2.1;let S:=x.2.2.1=x.2.2.1;let T:=List.length x.2.2.1=List.length x.2.2.1;let U:=inR IntKind.i64 (x.2.1 - K);let V:=db x.2.2.1;let W:=if x.2.2.2.2=true then M else if (!decide (x.2.2.2.1=N))=true then M else kK x.2.2.1/\if (!decide (V.2=C))=true then M else if (!decide (V.1=s))=true then M else G/\x.2.2.1=L.1/\O;AtS s x.2.2.2.1/\x.2.1<=A/\bW s x.2.2.2.1 x.2.2.2.2<=(↑x.1:Int)/\(↑(wCs x.2.2.1):Int)<=x.2.2.2.1+aB x.2.2.2.2 B/\chL s x.1 x.2.1 x.2.2.1 x.2.2.2.1 x.2.2.2.2=dB s→if decide (C<x.2.1)=true then if (!x.2.2.2.2)=true then (∃(x_1:Nat × Int × List Opn × Int × Bool),(AtS s x_1.2.2.2.1/\x_1.2.1<=A/\bW s x_1.2.2.2.1 x_1.2.2.2.2<=(↑x_1.1:Int)/\(↑(wOs x_1.2.2.1):Int)<=x_1.2.2.2.1+aB x_1.2.2.2.2 H/\cr s x_1.1 x_1.2.1 x_1.2.2.1 x_1.2.2.2.1 x_1.2.2.2.2=cr s I Q.1 [] Q.2.1 Q.2.2)/\Q.1=x_1.2.1/\R/\S/\E/\F/\true=true/\P.1=P.1/\x_1.2.2.1=[]/\E/\Q.2.1=x_1.2.2.2.1/\Q.2.2=x_1.2.2.2.2/\List.length x_1.2.2.1=(0:Nat)/\T/\G)/\∀(x_1:Nat × Int × List Opn × Int × Bool),let X:=AtS s x_1.2.2.2.1;let Y:=opF s x_1.2.2.2.1 x_1.2.2.2.2;let Z:=[{args:=P.1,ops:=x_1.2.2.1:Chnk}];let a:=(T/\(List.length x.2.2.1+List.length Z)*(32:Nat)<=J)/\U/\∃(y:Nat × Int × List Chnk × Int × Bool),(AtS s y.2.2.2.1/\y.2.1<=A/\bW s y.2.2.2.1 y.2.2.2.2<=(↑y.1:Int)/\(↑(wCs y.2.2.1):Int)<=y.2.2.2.1+aB y.2.2.2.2 B/\chL s y.1 y.2.1 y.2.2.1 y.2.2.2.1 y.2.2.2.2=dB s)/\y.1<x.1/\x.2.1 - K=y.2.1/\x.2.2.1++Z=y.2.2.1/\E/\F/\E/\x_1.2.2.2.1=y.2.2.2.1/\x_1.2.2.2.2=y.2.2.2.2/\List.length (x.2.2.1++Z)=List.length y.2.2.1/\G;X/\x_1.2.1<=A/\bW s x_1.2.2.2.1 x_1.2.2.2.2<=(↑x_1.1:Int)/\(↑(wOs x_1.2.2.1):Int)<=x_1.2.2.2.1+aB x_1.2.2.2.2 H/\cr s x_1.1 x_1.2.1 x_1.2.2.1 x_1.2.2.2.1 x_1.2.2.2.2=cr s I Q.1 [] Q.2.1 Q.2.2→if decide (C<x_1.2.1)=true then if (!x_1.2.2.2.2)=true then (X/\List.length s<=(68719476736:Nat))/\(List.length x_1.2.2.1=List.length x_1.2.2.1/\(List.length x_1.2.2.1+List.length [Y.1])*(88:Nat)<=J)/\inR IntKind.i64 (x_1.2.1 - K)/\∃(y:Nat × Int × List Opn × Int × Bool),(AtS s y.2.2.2.1/\y.2.1<=A/\bW s y.2.2.2.1 y.2.2.2.2<=(↑y.1:Int)/\(↑(wOs y.2.2.1):Int)<=y.2.2.2.1+aB y.2.2.2.2 H/\cr s y.1 y.2.1 y.2.2.1 y.2.2.2.1 y.2.2.2.2=cr s I Q.1 [] Q.2.1 Q.2.2)/\y.1<x_1.1/\x_1.2.1 - K=y.2.1/\R/\S/\E/\F/\true=true/\P.1=P.1/\x_1.2.2.1++[Y.1]=y.2.2.1/\E/\Y.2.1=y.2.2.2.1/\Y.2.2=y.2.2.2.2/\List.length (x_1.2.2.1++[Y.1])=List.length y.2.2.1/\T/\G else a else a else W else W:=by
 conv=>zeta
 have h0:AtS s 0:=⟨Int.le_refl _,by omega⟩
 obtain ⟨a1,a2,a3,a4,a5⟩:=gQ (b:=false) h0
 have hw:=BA s
 have fin:∀(l:List Chnk) (q:Int) (c:Bool),(l,q,c)=dB s→if c=true then True/\(dD s).1=[]/\(310:Int)=(dD s).2/\True else if (!decide (q=(s.length:Int)))=true then True/\(dD s).1=[]/\(310:Int)=(dD s).2/\True else
   kK l/\if (!decide ((db l).2=(0:Int)))=true then True/\(dD s).1=[]/\(310:Int)=(dD s).2/\True else if (!decide ((db l).1=s))=true then True/\(dD s).1=[]/\(310:Int)=(dD s).2/\True else True/\l=(dD s).1/\(0:Int)=(dD s).2/\True:=by
  intro l q c hq
  unfold dD
  rw [←hq] at hw ⊢
  refine a7 (fun k=>?_) (fun k=>?_)
  ·rw [if_pos (.inl k)];exact ⟨trivial,rfl,rfl,trivial⟩
  refine a7 (fun m=>?_) (fun m=>?_)
  ·have m:q≠(s.length:Int):=by simpa using m
   rw [if_pos (.inr m)];exact ⟨trivial,rfl,rfl,trivial⟩
  have m:q=(s.length:Int):=by simpa using m
  have n1:¬(c=true∨q≠(s.length:Int)):=fun z=>z.elim k (fun z=>z m)
  rw [if_neg n1]
  have hw:=hw (Bool.eq_false_iff.2 k)
  have he:=xX l
  refine ⟨by unfold kK;simp only at hw;omega,a7 (fun n=>?_) (fun n=>?_)⟩
  ·have n:(db l).2≠0:=by simpa using n
   rw [if_pos (.inl n)];exact ⟨trivial,rfl,rfl,trivial⟩
  have n:(db l).2=0:=by simpa using n
  refine a7 (fun r=>?_) (fun r=>?_)
  ·have r:(db l).1≠s:=by simpa using r
   rw [if_pos (.inr r)];exact ⟨trivial,rfl,rfl,trivial⟩
  have r:(db l).1=s:=by simpa using r
  rw [if_neg (fun z=>z.elim (fun z=>z n) (fun z=>z r))]
  exact ⟨trivial,rfl,rfl,trivial⟩
 refine ⟨⟨(s.length+2,(tkN s 0 false).1,[],(tkN s 0 false).2.1,(tkN s 0 false).2.2),⟨a3,a2,fe a3,by have:=a3.1;simp only [wCs,List.map_nil,List.sum_nil];unfold aB;split <;> omega,rfl⟩,by repeat' (first | exact trivial | rfl | apply And.intro)⟩,?_⟩
 rintro ⟨f,n,l,q,c⟩ ⟨i1,i2,i3,i4,i5⟩
 simp only at i1 i2 i3 i4 i5 ⊢
 cases f with
 | zero=>have:=dJ (b:=c) i1;omega
 | succ f=>
 unfold chL at i5
 refine a7 (fun r=>?_) (fun r=>?_)
 ·replace r:=Xo r
  refine a7 (fun t=>?_) (fun t=>?_)
  ·have t:c=false:=by simpa using t
   subst t
   rw [if_pos ⟨r,rfl⟩] at i5
   have q1:tkN s q false=ch1 s q false:=rfl
   simp only [q1]
   have q2:tkN s (ch1 s q false).2.1 (ch1 s q false).2.2=ch2 s q false:=rfl
   simp only [q2]
   have q3:cr s (s.length+2) (ch2 s q false).1 [] (ch2 s q false).2.1 (ch2 s q false).2.2=ch3 s q false:=rfl
   simp only [q3]
   obtain ⟨b1,b2,b3⟩:=By (b:=false) i1
   obtain ⟨d1,d2,d3,d4⟩:=Bz (b:=false) i1
   have e2:(ch2 s q false).1<=9223372036854775807:=(gQ (gQ (b:=false) i1).2.2.1).2.1
   have i6:=i1.2
   have hs:=da i1 d1 (fun z=>(d3 z).2)
   simp only [aB,Bool.false_eq_true,if_false] at i4
   have wl:=pZ l
   have next:∀(ops:List Opn) (p':Int) (c':Bool),(ops,p',c')=ch3 s q false→((True)/\(l.length+([{args:=(ch1 s q false).1,ops:=ops}]:List Chnk).length) *32<=140737488355328)/\inR IntKind.i64 (n - 1)/\
     ∃(y:Nat × Int × List Chnk × Int × Bool),(AtS s y.2.2.2.1/\y.2.1<=9223372036854775807/\bW s y.2.2.2.1 y.2.2.2.2<=(y.1:Int)/\(wCs y.2.2.1:Int)<=y.2.2.2.1+aB y.2.2.2.2 4/\chL s y.1 y.2.1 y.2.2.1 y.2.2.2.1 y.2.2.2.2=dB s)/\y.1 < f+1/\
      n - 1=y.2.1/\l++[{args:=(ch1 s q false).1,ops:=ops}]=y.2.2.1/\True/\True/\True/\p'=y.2.2.2.1/\c'=y.2.2.2.2/\(l++[({args:=(ch1 s q false).1,ops:=ops}:Chnk)]).length=y.2.2.1.length/\True:=by
    intro ops p' c' he
    have e1:ops=(ch3 s q false).1:=by rw [←he]
    have e3:p'=(ch3 s q false).2.1:=by rw [←he]
    have e4:c'=(ch3 s q false).2.2:=by rw [←he]
    subst e1 e3 e4
    refine ⟨⟨trivial,by simp only [List.length_singleton];omega⟩,ag (by omega) (by omega),(f,n - 1,l++[⟨(ch1 s q false).1,(ch3 s q false).1⟩],(ch3 s q false).2.1,(ch3 s q false).2.2),⟨d1,by simp only;omega,by simp only;omega,?_,i5⟩,by simp,by repeat' (first | exact trivial | rfl | apply And.intro)⟩
    simp only [tl]
    have ew:wCs [(⟨(ch1 s q false).1,(ch3 s q false).1⟩:Chnk)]=wC ⟨(ch1 s q false).1,(ch3 s q false).1⟩:=by simp [wCs]
    rw [ew]
    omega
   refine ⟨⟨(s.length+2,(ch2 s q false).1,[],(ch2 s q false).2.1,(ch2 s q false).2.2),⟨b1,e2,fe b1,by have:=b1.1;simp only [wOs,List.map_nil,List.sum_nil];unfold aB;split <;> omega,rfl⟩,by repeat' (first | exact trivial | rfl | apply And.intro)⟩,?_⟩
   rintro ⟨g,m,ops,p',c'⟩ ⟨j1,j2,j3,j4,j5⟩
   simp only at j1 j2 j3 j4 j5 ⊢
   cases g with
   | zero=>have:=dJ (b:=c') j1;omega
   | succ g=>
   unfold cr at j5
   refine a7 (fun u=>?_) (fun u=>?_)
   ·replace u:=Xo u
    refine a7 (fun v=>?_) (fun v=>?_)
    ·have v:c'=false:=by simpa using v
     subst v
     rw [if_pos ⟨u,rfl⟩] at j5
     obtain ⟨k1,k2,k3,k4⟩:=Bw (b:=false) j1
     have hs2:=da j1 k1 (fun z=>(k3 z).2)
     have j6:=j1.2
     have wo:=pY ops
     simp only [aB,Bool.false_eq_true,if_false] at j4
     refine ⟨⟨j1,ho⟩,⟨by trivial,by simp only [List.length_singleton];omega⟩,ag (by omega) (by omega),(g,m - 1,ops++[(opF s p' false).1],(opF s p' false).2.1,(opF s p' false).2.2),⟨k1,by simp only;omega,by simp only;omega,?_,j5⟩,by simp,by repeat' (first | exact trivial | rfl | apply And.intro)⟩
     simp only [tj]
     have ew:wOs [(opF s p' false).1]=wO (opF s p' false).1:=by simp [wOs]
     rw [ew]
     omega
    ·have v:c'=true:=by simpa using v
     rw [if_neg (fun z=>by rw [v] at z;cases z.2)] at j5
     exact next ops p' c' j5
   ·replace u:¬0 < m:=fun z=>u (Xd z)
    rw [if_neg (fun z=>u z.1)] at j5
    exact next ops p' c' j5
  ·have t:c=true:=by simpa using t
   rw [if_neg (fun z=>by rw [t] at z;cases z.2)] at i5
   exact fin l q c i5
 ·replace r:¬0 < n:=fun z=>r (Xd z)
  rw [if_neg (fun z=>r z.1)] at i5
  exact fin l q c i5
end Go.AL.Seat
end
section
namespace Go.Pd
open Go Go.AL
theorem uK {n:Nat} (h0:n≠0) (h:n < 2 ^ 64):∃k:Nat,aR n=(k:Int)/\1<=k/\256 ^ (k - 1)<=n/\n < 256 ^ k:=by
 obtain ⟨b1,b2,b3⟩:=Lib.bitLenAux_bounds 64 n h h0
 have e:aR (n:Int)=(((Lib.bitLenAux 64 n+7) / 8:Nat):Int):=by
  unfold aR kW Lib.bitLen
  rw [Int.toNat_natCast,Int.tdiv_eq_ediv_of_nonneg (by omega)]
  omega
 generalize hb:Lib.bitLenAux 64 n=b at *
 refine ⟨(b+7) / 8,e,by omega,?_,?_⟩
 ·have e2:(256:Nat) ^ ((b+7) / 8 - 1)=2 ^ (8 *((b+7) / 8 - 1)):=by rw [Nat.pow_mul]
  rw [e2]
  exact Nat.le_trans (Nat.pow_le_pow_right (by omega) (by omega)) b2
 ·have e2:(256:Nat) ^ ((b+7) / 8)=2 ^ (8 *((b+7) / 8)):=by rw [Nat.pow_mul]
  rw [e2]
  exact Nat.lt_of_lt_of_le b3 (Nat.pow_le_pow_right (by omega) (by omega))
def gR (n:Nat):Nat→Str
 | 0=>[]
 | j+1=>UInt8.ofNat (n / 256 ^ j % 256) ::gR n j
theorem ie (n:Nat):∀j,(gR n j).length=j
 | 0=>rfl
 | j+1=>by unfold gR;rw [List.length_cons,ie n j]
theorem uL (n:Nat):∀(j q:Nat),q < j→(gR n j)[q]?=some (UInt8.ofNat (n / 256 ^ (j - 1 - q) % 256))
 | 0,q,h=>by omega
 | j+1,0,h=>by unfold gR;simp
 | j+1,q+1,h=>by
  unfold gR
  rw [List.getElem?_cons_succ,uL n j q (by omega)]
  have e:j - 1 - q=j+1 - 1 - (q+1):=by omega
  rw [e]
theorem zu {n k q:Nat} (hk:k<=8) (hq:q < k):rA n k q=((n / 256 ^ (k - 1 - q) % 256:Nat):Int):=by
 have e1:(8 *((k:Int) - 1 - (q:Int))).toNat=8 *(k - 1 - q):=by omega
 have e2:min (8 *(k - 1 - q)) 64=8 *(k - 1 - q):=by omega
 have e3:(2:Int) ^ (8 *(k - 1 - q))=((256 ^ (k - 1 - q):Nat):Int):=by rw [Int.pow_mul];norm_cast
 unfold rA
 rw [e1,e2,e3]
 rw [Int.fdiv_eq_ediv_of_nonneg _ (Int.natCast_nonneg _)]
 simp only [IntKind.wrap,IntKind.bits,IntKind.signed]
 simp
theorem y7 {n k:Nat} (hk:k<=8):eJ (jn n k k)=gR n k:=by
 refine List.ext_getElem? fun q=>?_
 by_cases hq:q < k
 ·rw [uL n k q hq]
  unfold eJ jn
  rw [List.getElem?_map,List.getElem?_map,List.getElem?_range hq]
  simp only [Option.map_some]
  rw [zu hk hq,Int.toNat_natCast]
 ·rw [List.getElem?_eq_none (by simp [eJ,jn];omega),List.getElem?_eq_none (by rw [ie];omega)]
end Go.Pd
end
section
namespace Go.Pd
open Go Go.AL
theorem wJ {m:Nat} (h:m < 2 ^ 64):IntKind.u64.wrap (m:Int)=(m:Int):=by
 simp only [IntKind.wrap,IntKind.bits,IntKind.signed]
 simp
 omega
theorem Df {n c:Nat} (hn:n < 2 ^ 56) (hc:c < 256):orB (n:Int) (c:Int)=((n *256+c:Nat):Int):=by
 have e1:((n:Int) *2 ^ (min 8 64))=((n *256:Nat):Int):=by norm_cast
 unfold orB
 rw [e1,wJ (m:=n *256) (by omega)]
 have e2:(BitVec.ofInt IntKind.u64.bits ((n *256:Nat):Int) ||| BitVec.ofInt IntKind.u64.bits (c:Int)).toNat=n *256+c:=by
  rw [BitVec.ofInt_natCast,BitVec.ofInt_natCast,BitVec.toNat_or,BitVec.toNat_ofNat,BitVec.toNat_ofNat]
  have b:IntKind.u64.bits=64:=rfl
  rw [b,Nat.mod_eq_of_lt (show n *256 < 2 ^ 64 by omega),Nat.mod_eq_of_lt (show c < 2 ^ 64 by omega)]
  have:=Nat.shiftLeft_add_eq_or_of_lt (i:=8) (b:=c) (by omega) n
  rw [Nat.shiftLeft_eq] at this
  exact this.symm
 rw [e2,wJ (by omega)]
def gp (s:Str) (p:Nat):Nat→Nat
 | 0=>0
 | k+1=>gp s p k *256+(s.getD (p+k) 0).toNat
theorem tn (s:Str) (p:Nat):∀k,gp s p k < 256 ^ k
 | 0=>by simp [gp]
 | k+1=>by
  have:=tn s p k
  have h:=(s.getD (p+k) 0).toNat_lt
  unfold gp
  rw [Nat.pow_succ]
  omega
theorem uM {s:Str} {p:Nat}:∀k:Nat,k<=8→p+k<=s.length→bg s k (0,(p:Int),false)=(((gp s p k:Nat):Int),((p+k:Nat):Int),false)
 | 0,_,_=>rfl
 | k+1,hk,h=>by
  unfold bg
  rw [uM k (by omega) (by omega)]
  unfold xV b8
  simp only
  rw [if_neg (by omega),Int.toNat_natCast]
  simp only
  have h1:=tn s p k
  have h2:(256:Nat) ^ k<=256 ^ 7:=Nat.pow_le_pow_right (by omega) (by omega)
  have e:bI (s.getD (p+k) 0)=(((s.getD (p+k) 0).toNat:Nat):Int):=rfl
  rw [e,Df (by omega) (s.getD (p+k) 0).toNat_lt]
  have e2:((p+k:Nat):Int)+1=((p+(k+1):Nat):Int):=by omega
  rw [e2]
  rfl
theorem rG {s:Str}:∀(k:Nat) (x:Int × Int × Bool),x.2.1+k<=(s.length:Int)→(bg s k x).2.1=x.2.1+k/\(bg s k x).2.2=x.2.2
 | 0,x,h=>⟨by unfold bg;omega,rfl⟩
 | k+1,x,h=>by
  obtain ⟨e1,e2⟩:=rG (s:=s) k x (by omega)
  unfold bg xV b8
  rw [e1,e2]
  rw [if_neg (by omega)]
  exact ⟨by simp only;omega,rfl⟩
theorem nw {s:Str}:∀(k:Nat) (x:Int × Int × Bool),AtS s x.2.1→(s.length:Int) < x.2.1+k→(bg s k x).2.2=true/\(bg s k x).2.1=s.length
 | 0,x,h,hk=>by unfold AtS at h;omega
 | k+1,x,h,hk=>by
  have e0:(bg s k x).2.1=s.length:=by
   by_cases q:(s.length:Int) < x.2.1+k
   ·exact (nw k x h q).2
   ·rw [(rG (s:=s) k x (by omega)).1];omega
  unfold bg xV b8
  rw [e0,if_pos rfl]
  exact ⟨rfl,rfl⟩
theorem rH (v:Nat) {b:Nat} (hb:b < 256):∀k,gR (v *256+b) (k+1)=gR v k++[UInt8.ofNat b]
 | 0=>by
  unfold gR gR
  rw [Nat.pow_zero,Nat.div_one,show (v *256+b) % 256=b by omega]
  rfl
 | k+1=>by
  have e:(v *256+b) / 256 ^ (k+1)=v / 256 ^ k:=by rw [Nat.pow_succ,Nat.mul_comm (256 ^ k),←Nat.div_div_eq_div_mul,show (v *256+b) / 256=v by omega]
  have ih:=rH v hb k
  conv=>lhs;unfold gR
  rw [e,ih]
  conv=>rhs;unfold gR
  rfl
theorem rI (s:Str) (p:Nat):∀k,p+k<=s.length→gR (gp s p k) k=(s.drop p).take k
 | 0,_=>by simp [gR]
 | k+1,h=>by
  have e:(s.drop p).take (k+1)=(s.drop p).take k++[s.getD (p+k) 0]:=by
   rw [gH (s.drop p) k 0 (by simp;omega)]
   congr 2
   simp [List.getD_eq_getElem?_getD,List.getElem?_drop]
  unfold gp
  rw [rH _ (s.getD (p+k) 0).toNat_lt,rI s p k (by omega),e]
  congr 2
  exact UInt8.ofNat_toNat
theorem qf {n w:Nat} (hn:248<=n) (hw:aR (n:Int)=(w:Int)) (h8:w<=8):bQ (n:Int)=UInt8.ofNat (247+w) ::gR n w:=by
 unfold bQ
 rw [if_neg (by omega),hw,Int.toNat_natCast]
 unfold jZ
 rw [hw,←y7 h8]
 have e:IntKind.u8.wrap (247+(w:Int))=((247+w:Nat):Int):=by
  simp only [IntKind.wrap,IntKind.bits,IntKind.signed]
  simp
  omega
 unfold eJ
 rw [List.map_cons,e,Int.toNat_natCast]
theorem Dg {s:Str} {q k:Nat} (h:q+k+1<=s.length) (hk1:1<=k) (hk8:k<=8) (hc:(s.getD q 0).toNat=247+k) :
  bQ ((gp s (q+1) k:Nat):Int)=(s.drop q).take (k+1)↔¬(((gp s (q+1) k:Nat):Int) < 248∨aR ((gp s (q+1) k:Nat):Int)≠(k:Int)):=by
 have ed:(s.drop q).take (k+1)=s.getD q 0 ::(s.drop (q+1)).take k:=by
  have e1:s.drop q=s.getD q 0 ::s.drop (q+1):=by
   rw [List.drop_eq_getElem_cons (show q < s.length by omega)]
   congr 1
   simp [show q < s.length by omega]
  rw [e1,List.take_succ_cons]
 have hb:UInt8.ofNat (247+k)=s.getD q 0:=by rw [←hc];exact UInt8.ofNat_toNat
 have ho:=rI s (q+1) k (by omega)
 have hlen:((s.drop (q+1)).take k).length=k:=by simp;omega
 rw [ed]
 generalize gp s (q+1) k=n at *
 obtain ⟨w0,w8⟩:=jY (n:Int)
 obtain ⟨w,hw⟩:=Int.eq_ofNat_of_zero_le w0
 have h8:w<=8:=by omega
 constructor
 ·intro e
  by_cases hn:248<=n
  ·rw [qf hn hw h8] at e
   have el:=congrArg List.length e
   rw [List.length_cons,List.length_cons,ie,hlen] at el
   rw [hw]
   omega
  ·unfold bQ at e
   rw [if_pos (by omega)] at e
   have el:=congrArg List.length e
   rw [List.length_cons,hlen] at el
   simp [eK] at el
   omega
 ·intro e
  have hn:248<=n:=by omega
  have hwk:w=k:=by
   have:aR (n:Int)=(k:Int):=Classical.byContradiction fun z=>e (.inr z)
   omega
  subst hwk
  rw [qf hn hw h8,hb,ho]
theorem rJ {s:Str} {q:Nat} (h:q<=s.length):aj s q=
  if q=s.length then (0,0,10)
  else if bI (s.getD q 0)<=247 then (bI (s.getD q 0),(q:Int)+1,0)
  else if (s.length:Int) - q < bI (s.getD q 0) - 247+1 then (0,0,10)
  else if bQ ((gp s (q+1) ((s.getD q 0).toNat - 247):Nat):Int)=(s.drop q).take ((s.getD q 0).toNat - 247+1) then (((gp s (q+1) ((s.getD q 0).toNat - 247):Nat):Int),(q:Int)+((s.getD q 0).toNat - 247:Nat)+1,0)
  else (0,0,11):=by
 have hb:=(s.getD q 0).toNat_lt
 have eb:bI (s.getD q 0)=(((s.getD q 0).toNat:Nat):Int):=rfl
 unfold aj
 rw [if_neg (by omega)]
 by_cases h1:q=s.length
 ·rw [if_pos h1]
  have e1:ad s q=(0,(q:Int),true):=by unfold ad b8;rw [if_pos (by omega)]
  have e2:(dL s q).2.2=true:=by
   unfold dL
   rw [e1]
   rfl
  rw [if_pos e2]
 rw [if_neg h1]
 have e1:ad s q=(bI (s.getD q 0),(q:Int)+1,false):=by unfold ad b8;rw [if_neg (by omega),Int.toNat_natCast]
 by_cases h2:bI (s.getD q 0)<=247
 ·rw [if_pos h2]
  have k0:bD (bI (s.getD q 0))=0:=by unfold bD;rw [if_neg (by omega)]
  have n0:bB (bI (s.getD q 0))=bI (s.getD q 0):=by unfold bB;rw [if_neg (by omega)]
  have e2:dL s q=(bI (s.getD q 0),(q:Int)+1,false):=by unfold dL;rw [e1];simp only;rw [k0,n0];rfl
  rw [e2,e1]
  simp only
  rw [if_neg (by simp),k0,if_neg (fun z=>absurd z.1 (by decide))]
 rw [if_neg h2]
 have k0:bD (bI (s.getD q 0))=(((s.getD q 0).toNat - 247:Nat):Int):=by unfold bD;rw [if_pos (by omega)];omega
 have n0:bB (bI (s.getD q 0))=0:=by unfold bB;rw [if_pos (by omega)]
 have hk:(s.getD q 0).toNat=247+((s.getD q 0).toNat - 247):=by omega
 generalize hkk:(s.getD q 0).toNat - 247=k at *
 have e2:dL s q=bg s k (0,((q+1:Nat):Int),false):=by
  unfold dL;rw [e1];simp only;rw [k0,n0,Int.toNat_natCast]
  rfl
 by_cases h3:(s.length:Int) - q < bI (s.getD q 0) - 247+1
 ·rw [if_pos h3]
  have:=(nw (s:=s) k (0,((q+1:Nat):Int),false) ⟨by simp only;omega,by simp only;omega⟩ (by simp only;omega)).1
  rw [e2,if_pos this]
 rw [if_neg h3]
 have e3:dL s q=(((gp s (q+1) k:Nat):Int),((q+1+k:Nat):Int),false):=by rw [e2];exact uM k (by omega) (by omega)
 have hi:=Dg (s:=s) (q:=q) (k:=k) (by omega) (by omega) (by omega) hk
 rw [e3,e1]
 simp only
 rw [if_neg (by simp),k0]
 by_cases h4:bQ ((gp s (q+1) k:Nat):Int)=(s.drop q).take (k+1)
 ·have h5:=hi.1 h4
  have e9:((q+1+k:Nat):Int)=(q:Int)+((k:Nat):Int)+1:=by omega
  rw [if_pos h4,if_neg (fun z=>h5 z.2),e9]
 ·rw [if_neg h4,if_pos ⟨by omega,Classical.byContradiction fun z=>h4 (hi.2 z)⟩]
end Go.Pd
end
noncomputable section
namespace Go.Pd
open Go Go.AL
theorem fD {x:Int} (h1:-9223372036854775808<=x) (h2:x<=9223372036854775807):IntKind.i64.wrap x=x:=by
 simp only [IntKind.wrap,IntKind.bits,IntKind.signed]
 simp
 omega
def aJ (o:Opn) (s:Rstt) (b:Int):Rstt × Bool:=
 if o.kind=4/\s.names<=o.n then (s,false)
 else if o.kind=7/\s.things<=o.n then (s,false)
 else if o.kind=13 then (if IntKind.i64.wrap (s.names - b) < o.n then (s,false) else (⟨true,s.things,IntKind.i64.wrap (s.names - o.n)⟩,true))
 else if s.things < (aY o).1 then (s,false)
 else (⟨true,IntKind.i64.wrap (IntKind.i64.wrap (s.things - (aY o).1)+(aY o).2),if o.kind=12∨o.kind=16/\o.names.length≠0 then IntKind.i64.wrap (s.names+1) else s.names⟩,true)
def aZ (o:Opn) (i:Int):List Int:=
 if o.kind=15 then [o.n]
 else if o.kind=14 then [o.n,IntKind.i64.wrap (i+1)]
 else if o.kind=16/\o.tos.length≠0 then o.tos
 else [IntKind.i64.wrap (i+1)]
def eqR (x y:Rstt):Bool:=(x.known ==y.known) && decide (x.things=y.things) && decide (x.names=y.names)
def cz (i:Int) (n:Nat) (s:Rstt):List Int→List Rstt→Bool × List Rstt
 | [],l=>(true,l)
 | t ::r,l=>if t<=i∨(n:Int) < t∨(l.getD t.toNat default).known=true/\eqR (l.getD t.toNat default) s=false then (false,l) else cz i n s r (l.set t.toNat s)
def iS (code:List Chnk) (o:Opn) (s:Rstt):Rstt:=⟨true,0,IntKind.i64.wrap (s.names+(code.getD o.n.toNat default).args)⟩
def gS (code:List Chnk) (k:Int) (i:Nat) (o:Opn) (l bs:List Rstt):Bool:=
 !(l.getD i default).known || !bL o || !(aJ o (l.getD i default) (bs.getD k.toNat default).names).2 ||
 (decide (o.kind=6) && (decide (o.n<=k) || decide ((code.length:Int)<=o.n) || ((bs.getD o.n.toNat default).known && !eqR (bs.getD o.n.toNat default) (iS code o (l.getD i default)))))
def rbs (code:List Chnk) (i:Nat) (o:Opn) (l bs:List Rstt):List Rstt:=if o.kind=6 then bs.set o.n.toNat (iS code o (l.getD i default)) else bs
def kL (code:List Chnk) (k:Int) (n:Nat):List Opn→Nat→List Rstt→List Rstt→Bool × List Rstt
 | [],_,l,bs=>((l.getD n default).known && decide ((l.getD n default).things=1) && decide ((l.getD n default).names=(bs.getD k.toNat default).names),bs)
 | o ::r,i,l,bs=>
  if gS code k i o l bs=true then (false,bs)
  else if (cz i n (aJ o (l.getD i default) (bs.getD k.toNat default).names).1 (aZ o i) l).1=true then
   kL code k n r (i+1) (cz i n (aJ o (l.getD i default) (bs.getD k.toNat default).names).1 (aZ o i) l).2 (rbs code i o l bs)
  else (false,rbs code i o l bs)
def nJ (n:Nat) (s:Rstt):List Rstt:=(List.replicate n (default:Rstt)).set 0 s
def cm (code:List Chnk) (k:Int) (bs:List Rstt):Bool × List Rstt:=
 kL code k (aF code k) (cP code k).ops 0 (nJ (aF code k+1) (bs.getD k.toNat default)) bs
def gT (code:List Chnk):Nat→Nat→List Rstt→Bool
 | 0,_,_=>true
 | r+1,k,bs=>if (bs.getD k default).known=false then false else if (cm code k bs).1=true then gT code r (k+1) (cm code k bs).2 else false
def qg (code:List Chnk) (scope:Int):Int:=
 if scope < 0∨1000000 < scope∨code.length=0∨4096 < code.length∨(code.getD 0 default).args≠0 then 310
 else if bz code 0=false then 310
 else if gT code code.length 0 (nJ code.length ⟨true,0,scope⟩)=true then 0 else 310
def psi (s:Stt):Rstt:=if s.things < 0 then default else ⟨true,s.things,s.names⟩
theorem eH (s:Stt):(psi s).known=!decide (s.things < 0):=by unfold psi;split <;> simp_all [default]
theorem fH {s:Stt} (h:¬s.things < 0):psi s=⟨true,s.things,s.names⟩:=by unfold psi;rw [if_neg h]
theorem BQ {x y:Stt} (hx:¬x.things < 0) (hy:¬y.things < 0):eqR (psi x) (psi y)=eqT x y:=by
 rw [fH hx,fH hy];simp [eqR,eqT]
theorem o5 {x y:Stt}:eqT x y=true↔x=y:=by
 cases x;cases y;simp [eqT]
theorem fY {l:List Stt} {t:Nat} (h:t < l.length):(l.map psi).getD t default=psi (l.getD t default):=by
 rw [dr _ _ _ (by simpa using h),dr _ _ _ h,List.getElem_map]
theorem o6 (l:List Stt) (t:Nat) (s:Stt):(l.map psi).set t (psi s)=(l.set t s).map psi:=by rw [List.map_set]
theorem dj {α:Type} {l:List α} {t:Nat} (h:t < l.length) (s d:α):(l.set t s).getD t d=s:=by
 rw [dr _ _ _ (by simpa using h)];simp
theorem fZ {α:Type} {l:List α} {t u:Nat} (h:t≠u) (s d:α):(l.set t s).getD u d=l.getD u d:=by
 simp only [List.getD_eq_getElem?_getD,List.getElem?_set_ne h]
theorem BR {l:List Stt} {t:Int} {s:Stt} (h0:0<=t) (h:t.toNat < l.length) (hs:¬s.things < 0) :
  (((l.map psi).getD t.toNat default).known=true/\eqR ((l.map psi).getD t.toNat default) (psi s)=false↔bn l t s=false)/\
  (bn l t s=true→(l.map psi).set t.toNat (psi s)=(bh l t s).map psi):=by
 rw [fY h]
 unfold bn bh
 by_cases hx:(l.getD t.toNat default).things < 0
 ·rw [if_pos hx,dj h,eH,Xd hx,o6]
  have:eqT s s=true:=o5.2 rfl
  simp [this]
 ·rw [if_neg hx,BQ hx hs,eH,Xf hx]
  refine ⟨by simp,fun e=>?_⟩
  have e:=o5.1 e
  rw [o6,←e,uI]
def tp (b0:Stt) (l:List Stt):Prop:=∀t,t < l.length→(l.getD t default).things < 0∨(0<=(l.getD t default).things/\(l.getD t default).things<=t/\b0.names<=(l.getD t default).names/\(l.getD t default).names<=b0.names+t)
theorem tp.lead {b0:Stt} {l:List Stt} (hI:tp b0 l) {t:Int} {s:Stt} (h0:0<=t) (a:0<=s.things) (b:s.things<=t) (c:b0.names<=s.names) (d:s.names<=b0.names+t):tp b0 (bh l t s):=by
 intro u hu
 rw [ck] at hu
 unfold bh
 split
 ·by_cases e:t.toNat=u
  ·subst e
   rw [dj hu]
   right
   refine ⟨a,by omega,c,by omega⟩
  ·rw [fZ e];exact hI u hu
 ·exact hI u hu
theorem uN {b0:Stt} {i:Int} {n:Nat} {s:Stt} (hi:0<=i) (a:0<=s.things) (b:s.things<=i+1) (c:b0.names<=s.names) (d:s.names<=b0.names+i+1) :
  ∀(r:List Int) (l:List Stt),l.length=n+1→tp b0 l→(cz i n (psi s) r (l.map psi)).1=(cb i n s r l).1/\
   ((cb i n s r l).1=true→(cz i n (psi s) r (l.map psi)).2=(cb i n s r l).2.map psi/\tp b0 (cb i n s r l).2)
 | [],l,_,hI=>⟨rfl,fun _=>⟨rfl,hI⟩⟩
 | t ::r,l,hl,hI=>by
  unfold cz cb
  by_cases h1:t<=i
  ·rw [if_pos (.inl h1),if_pos (.inl h1)];exact ⟨rfl,fun z=>by cases z⟩
  by_cases h2:(n:Int) < t
  ·rw [if_pos (.inr (.inl h2)),if_pos (.inr (.inl h2))];exact ⟨rfl,fun z=>by cases z⟩
  obtain ⟨q1,q2⟩:=BR (l:=l) (t:=t) (s:=s) (by omega) (by omega) (by omega)
  cases h3:bn l t s with
  | false=>rw [if_pos (.inr (.inr (q1.2 h3))),if_pos (.inr (.inr rfl))];exact ⟨rfl,fun z=>by cases z⟩
  | true=>
   rw [if_neg (fun z=>z.elim h1 (fun z=>z.elim h2 (fun z=>by rw [q1.1 z] at h3;cases h3))),if_neg (fun z=>z.elim h1 (fun z=>z.elim h2 (fun z=>by cases z)))]
   rw [q2 h3]
   exact uN hi a b c d r _ (by rw [ck];exact hl) (hI.lead (by omega) a (by omega) c (by omega))
def uO (bs:List Stt):Prop:=∀j,j < bs.length→(bs.getD j default).things < 0∨((bs.getD j default).things=0/\0<=(bs.getD j default).names/\(bs.getD j default).names<=1000000+8192 *j)
theorem BS {o:Opn} (hf:bL o=true) (h:¬(o.kind=7/\9223372036854775806 < o.n)) (hn:o.n<=9223372036854775807) (hl:o.names.length<=9223372036854775807) :
  0<=(aY o).1/\(0<=(aY o).2/\(aY o).2<=1)/\(o.kind=7→(aY o).1=o.n+1/\(aY o).2=1)/\(o.kind=13→aY o=(0,0)):=by
 have h8:is8 o.kind=true→0<=o.n:=fun e=>by
  unfold bL at hf
  rw [if_pos e] at hf
  unfold ib at hf
  simp at hf
  omega
 unfold aY
 by_cases k7:o.kind=7
 ·have e7:is8 o.kind=true:=by rw [k7];rfl
  have:=h8 e7
  have e6:is6 o.kind=false:=by rw [k7];rfl
  have w:IntKind.i64.wrap (o.n+1)=o.n+1:=fD (by omega) (by omega)
  rw [if_neg (by rw [e6];exact fun z=>by cases z),if_pos k7,w]
  refine ⟨by show (0:Int)<=o.n+1;omega,⟨by simp,by simp⟩,fun _=>⟨rfl,rfl⟩,fun z=>by omega⟩
 ·by_cases k13:o.kind=13
  ·have e:(if is6 o.kind=true then (0,1) else if o.kind=7 then (IntKind.i64.wrap (o.n+1),1) else if o.kind=8 then ((o.names.length:Int),(1:Int)) else if o.kind=11 then (o.n,1) else if is4 o.kind=true then (1,1)
     else if o.kind=16 then (if o.names.length=0 then (1,1) else (1,0)) else if is2 o.kind=true then (1,0) else (0,0))=((0:Int),(0:Int)):=by
    rw [k13];rfl
   rw [e]
   exact ⟨by simp,by simp,fun z=>by omega,fun _=>rfl⟩
  ·by_cases k11:o.kind=11
   ·have e:=h8 (by rw [k11];rfl)
    have e6:is6 o.kind=false:=by rw [k11];rfl
    rw [if_neg (by rw [e6];exact fun z=>by cases z),if_neg k7,if_neg (by omega),if_pos k11]
    exact ⟨e,⟨by simp,by simp⟩,fun z=>absurd z k7,fun z=>absurd z k13⟩
   ·refine ⟨?_,?_,fun z=>absurd z k7,fun z=>absurd z k13⟩ <;> repeat' split
    all_goals (first | omega | (simp;done) | (simp only;omega))
end Go.Pd
end
noncomputable section
namespace Go.Pd
open Go Go.AL
def y8 (code:List Chnk) (k:Nat) (b0:Stt) (n i:Nat) (o:Opn) (r:List Opn) (l bs:List Stt):Prop:=
 ((gS code k i o (l.map psi) (bs.map psi)=true∨(cz i n (aJ o ((l.map psi).getD i default) ((bs.map psi).getD (k:Int).toNat default).names).1 (aZ o i) (l.map psi)).1=false)/\(cO code k b0 n (o ::r) i l bs).1=false)∨
 ∃l' bs',gS code k i o (l.map psi) (bs.map psi)=false/\(cz i n (aJ o ((l.map psi).getD i default) ((bs.map psi).getD (k:Int).toNat default).names).1 (aZ o i) (l.map psi)).1=true/\
  (cz i n (aJ o ((l.map psi).getD i default) ((bs.map psi).getD (k:Int).toNat default).names).1 (aZ o i) (l.map psi)).2=l'.map psi/\rbs code i o (l.map psi) (bs.map psi)=bs'.map psi/\
  cO code k b0 n (o ::r) i l bs=cO code k b0 n r ((i+1:Nat):Int) l' bs'/\l'.length=n+1/\bs'.length=bs.length/\tp b0 l'/\uO bs'/\bs'.getD k default=b0
theorem gU {code:List Chnk} {k:Nat} {b0:Stt} {n i:Nat} {o:Opn} {r:List Opn} {l bs bs':List Stt} {st:Stt}
  (hl:l.length=n+1) (hI:tp b0 l) (hbad:gS code k i o (l.map psi) (bs.map psi)=false)
  (ha:(aJ o ((l.map psi).getD i default) ((bs.map psi).getD (k:Int).toNat default).names).1=psi st)
  (s1:0<=st.things) (s2:st.things<=(i:Int)+1) (s3:b0.names<=st.names) (s4:st.names<=b0.names+i+1)
  (hrun:((cb i n st (aZ o i) l).1=false/\(cO code k b0 n (o ::r) i l bs).1=false)∨((cb i n st (aZ o i) l).1=true/\cO code k b0 n (o ::r) i l bs=cO code k b0 n r ((i+1:Nat):Int) (cb i n st (aZ o i) l).2 bs'))
  (hbs:rbs code i o (l.map psi) (bs.map psi)=bs'.map psi) (hB:uO bs') (hk:bs'.getD k default=b0) (hlb:bs'.length=bs.length):y8 code k b0 n i o r l bs:=by
 unfold y8
 rw [ha]
 obtain ⟨p1,p2⟩:=uN (b0:=b0) (i:=(i:Int)) (n:=n) (s:=st) (by omega) s1 s2 s3 s4 (aZ o i) l hl hI
 rcases hrun with ⟨q1,q2⟩ | ⟨q1,q2⟩
 ·exact .inl ⟨.inr (by rw [p1,q1]),q2⟩
 ·obtain ⟨p3,p4⟩:=p2 q1
  exact .inr ⟨_,bs',hbad,by rw [p1,q1],p3,hbs,q2,by rw [kc];exact hl,hlb,p4,hB,hk⟩
theorem no3 {a b:Prop} {x:Bool} (ha:¬a) (hb:¬b) (hx:x=true):¬(a∨b∨x=false):=fun z=>z.elim ha (fun z=>z.elim hb (fun z=>by rw [hx] at z;cases z))
theorem BT {l:List Stt} {t:Int} {s:Stt} (h:bn l t s=true):(bh l t s).getD t.toNat default=s:=by
 unfold bn at h
 exact o5.1 h
theorem kE {code:List Chnk} {k:Int} {b0:Stt} {n i:Nat} {o:Opn} {r:List Opn} {l bs:List Stt} {st:Stt}
  (hg:gF code k b0 n i o l bs=true) (hl:lF n i o l=l) (hs:sF n i o l=st) (hi:i < n) (hw:aZ o i=[(i:Int)+1]) :
  ((cb i n st (aZ o i) l).1=false/\(cO code k b0 n (o ::r) i l bs).1=false)∨((cb i n st (aZ o i) l).1=true/\cO code k b0 n (o ::r) i l bs=cO code k b0 n r ((i+1:Nat):Int) (cb i n st (aZ o i) l).2 (bF code k b0 n i o l bs)):=by
 rw [hw,mL r hg,hl,hs]
 unfold cb cb
 have e:((i+1:Nat):Int)=(i:Int)+1:=by omega
 rw [e]
 cases h:bn l ((i:Int)+1) st with
 | false=>left;rw [if_pos (.inr (.inr rfl)),if_neg (by simp)];exact ⟨rfl,rfl⟩
 | true=>right;rw [if_neg (no3 (by omega) (by omega) rfl),if_pos rfl];exact ⟨rfl,rfl⟩
theorem uP {code:List Chnk} {k:Int} {b0:Stt} {n i:Nat} {o:Opn} {r:List Opn} {l bs:List Stt} {st:Stt}
  (hg:gF code k b0 n i o l bs=(cb i n st (aZ o i) l).1) (hl:(cb i n st (aZ o i) l).1=true→lF n i o l=(cb i n st (aZ o i) l).2) (hs:sF n i o l=(lF n i o l).getD ((i:Int)+1).toNat default) :
  ((cb i n st (aZ o i) l).1=false/\(cO code k b0 n (o ::r) i l bs).1=false)∨((cb i n st (aZ o i) l).1=true/\cO code k b0 n (o ::r) i l bs=cO code k b0 n r ((i+1:Nat):Int) (cb i n st (aZ o i) l).2 (bF code k b0 n i o l bs)):=by
 cases h:(cb i n st (aZ o i) l).1 with
 | false=>left;rw [h] at hg;rw [kD r hg];exact ⟨rfl,rfl⟩
 | true=>right;rw [h] at hg;rw [qe r hg hs,hl h];exact ⟨rfl,rfl⟩
theorem BU {code:List Chnk} {k:Nat} {b0:Stt} {n i:Nat} {o:Opn} {r:List Opn} {l bs:List Stt}
  (hr:i+1+r.length=n) (hl:l.length=n+1) (hb:bs.length=code.length) (hk:k < code.length) (hk4:code.length<=4096) (hn4:n<=4096)
  (h0:bs.getD k default=b0) (c1:b0.things=0) (c2:0<=b0.names) (c3:b0.names<=1000000+8192 *k)
  (hn:o.n<=9223372036854775807) (hnl:o.names.length<=9223372036854775807) (hA:∀j,j < code.length→0<=(code.getD j default).args/\(code.getD j default).args<=4096)
  (hI:tp b0 l) (hB:uO bs):y8 code k b0 n i o r l bs:=by
 have gi:(l.map psi).getD i default=psi (l.getD i default):=fY (by omega)
 have gk:(bs.map psi).getD (k:Int).toNat default=psi b0:=by rw [Int.toNat_natCast,fY (by omega),h0]
 have gb:((bs.map psi).getD (k:Int).toNat default).names=b0.names:=by rw [gk,fH (by omega)]
 have hIi:=hI i (by omega)
 have hin:i < n:=by omega
 have refuse:gS code k i o (l.map psi) (bs.map psi)=true→gF code k b0 n i o l bs=false→y8 code k b0 n i o r l bs:=fun h1 h2=>.inl ⟨.inl h1,by rw [kD r h2]⟩
 have rb1:(l.getD i default).things < 0→gS code k i o (l.map psi) (bs.map psi)=true:=fun h=>by unfold gS;rw [gi,eH,Xd h];rfl
 have rb2:bL o=false→gS code k i o (l.map psi) (bs.map psi)=true:=fun h=>by unfold gS;rw [h];simp
 have rb3:(aJ o (psi (l.getD i default)) b0.names).2=false→gS code k i o (l.map psi) (bs.map psi)=true:=fun h=>by unfold gS;rw [gi,gb,h];simp
 by_cases hs:(l.getD i default).things < 0
 ·exact refuse (rb1 hs) (by unfold gF;rw [Int.toNat_natCast,if_pos (.inl hs)])
 have hIi:=hIi.resolve_left hs
 cases hf:bL o with
 | false=>exact refuse (rb2 hf) (by unfold gF;rw [if_pos (.inr (.inl hf))])
 | true=>
 have rbn:(aJ o (psi (l.getD i default)) b0.names).2=true→o.kind≠6→gS code k i o (l.map psi) (bs.map psi)=false:=fun h h6=>by
  unfold gS;rw [gi,gb,h,hf,eH,Xf hs,Xf h6];rfl
 have rbsn:o.kind≠6→rbs code i o (l.map psi) (bs.map psi)=bs.map psi:=fun h=>by unfold rbs;rw [if_neg h]
 have w64:IntKind.i64.wrap ((i:Int)+1)=(i:Int)+1:=fD (by omega) (by omega)
 generalize hS:l.getD i default=S at *
 have pS:psi S=⟨true,S.things,S.names⟩:=fH hs
 by_cases k7:o.kind=7/\9223372036854775806 < o.n
 ·
  obtain ⟨k7,z⟩:=k7
  have en:o.n=9223372036854775807:=by omega
  refine .inl ⟨.inl (rb3 (by unfold aJ;rw [pS,if_neg (fun z=>by omega),if_pos ⟨k7,by simp only;omega⟩])),?_⟩
  have ep:aY o=(-9223372036854775808,1):=by
   unfold aY;rw [k7,en];rfl
  have g0:gF code k b0 n i o l bs=true:=by
   unfold gF;rw [Int.toNat_natCast,hS,hf,ep]
   rw [if_neg (fun z=>z.elim hs (fun z=>z.elim (fun z=>by cases z) (fun z=>by simp only at z;omega)))]
   unfold gK
   rw [if_neg (by omega),if_neg (by omega),if_neg (by omega),if_neg (by omega),if_neg (by omega)]
  have es:(sF n i o l).things < 0:=by
   unfold sF
   rw [if_neg (by omega),if_neg (by omega),if_neg (by omega)]
   unfold s1F
   rw [Int.toNat_natCast,hS,ep]
   have e1:IntKind.i64.wrap ((-9223372036854775808,(1:Int)).2 - (-9223372036854775808,(1:Int)).1)=-9223372036854775807:=by rfl
   rw [e1,fD (by omega) (by omega)]
   simp only;omega
  have el:lF n i o l=l:=by unfold lF;rw [if_neg (by omega),if_neg (by omega)]
  rw [mL r g0,el]
  generalize sF n i o l=st at *
  split
  ·rename_i hb'
   have e:=BT hb'
   have e':(bh l ((i:Int)+1) st).getD (i+1) default=st:=by rw [show ((i:Int)+1).toNat=i+1 by omega] at e;exact e
   cases r with
   | nil=>
    have:n=i+1:=by simp at hr;omega
    subst this
    unfold cO
    rw [e']
    simp [eqT]
    omega
   | cons o' r'=>
    rw [kD r' (by unfold gF;rw [show ((i:Int)+1).toNat=i+1 by omega,e',if_pos (.inl es)])]
  ·rfl
 obtain ⟨p1,⟨p2,p3⟩,p7,p13⟩:=BS hf k7 hn hnl
 by_cases hp:S.things < (aY o).1
 ·refine refuse (rb3 ?_) (by unfold gF;rw [Int.toNat_natCast,hS,if_pos (.inr (.inr hp))])
  unfold aJ
  rw [pS]
  simp only
  split
  ·rfl
  split
  ·rfl
  split
  ·rename_i e;rw [p13 e] at hp;simp only at hp;omega
  ·rfl
 have g0:gF code k b0 n i o l bs=gK code k b0 n i o l bs:=by unfold gF;rw [Int.toNat_natCast,hS,if_neg (fun z=>z.elim hs (fun z=>z.elim (fun z=>by rw [hf] at z;cases z) hp))]
 have e1:s1F o S=⟨S.things - (aY o).1+(aY o).2,S.names⟩:=by
  unfold s1F
  rw [fD (x:=(aY o).2 - (aY o).1) (by omega) (by omega),fD (by omega) (by omega)]
  congr 1;omega
 have wn:IntKind.i64.wrap (S.names+1)=S.names+1:=fD (by omega) (by omega)
 have aft:o.kind≠13→¬(o.kind=4/\S.names<=o.n)→aJ o (psi S) b0.names=(psi ⟨S.things - (aY o).1+(aY o).2,if o.kind=12∨o.kind=16/\o.names.length≠0 then S.names+1 else S.names⟩,true):=fun h13 h4=>by
  unfold aJ
  rw [pS]
  simp only
  rw [if_neg h4,if_neg (fun z=>by have:=p7 z.1;omega),if_neg h13,if_neg hp,fH (by simp only;omega),wn,fD (x:=S.things - (aY o).1) (by omega) (by omega),fD (by omega) (by omega)]
 have t0:0<=S.things - (aY o).1+(aY o).2:=by omega
 have t1:S.things - (aY o).1+(aY o).2<=(i:Int)+1:=by omega
 by_cases K4:o.kind=4
 ·by_cases h4:S.names<=o.n
  ·exact refuse (rb3 (by unfold aJ;rw [pS,if_pos ⟨K4,h4⟩])) (by rw [g0];unfold gK;rw [if_pos K4,Int.toNat_natCast,hS];simp;omega)
  ·have ha:=aft (by omega) (fun z=>h4 z.2)
   rw [if_neg (by omega)] at ha
   have hw:aZ o i=[(i:Int)+1]:=by unfold aZ;rw [if_neg (by omega),if_neg (by omega),if_neg (by omega),w64]
   have hg:gF code k b0 n i o l bs=true:=by rw [g0];unfold gK;rw [if_pos K4,Int.toNat_natCast,hS];simp;omega
   have hF:lF n i o l=l:=by unfold lF;rw [if_neg (by omega),if_neg (by omega)]
   have hsF:sF n i o l=⟨S.things - (aY o).1+(aY o).2,S.names⟩:=by unfold sF;rw [if_neg (by omega),if_neg (by omega),if_neg (by omega),Int.toNat_natCast,hS,e1]
   have hbF:bF code k b0 n i o l bs=bs:=by unfold bF;rw [if_neg (by omega)]
   have hrun:=kE (r:=r) hg hF hsF hin hw
   rw [hbF] at hrun
   exact gU hl hI (rbn (by rw [ha]) (by omega)) (by rw [gi,gb,ha]) t0 t1 (by simp only;omega) (by simp only;omega) hrun (rbsn (by omega)) hB h0 rfl
 by_cases K6:o.kind=6
 ·have ha:=aft (by omega) (fun z=>K4 z.1)
  rw [if_neg (by omega)] at ha
  have hw:aZ o i=[(i:Int)+1]:=by unfold aZ;rw [if_neg (by omega),if_neg (by omega),if_neg (by omega),w64]
  have hF:lF n i o l=l:=by unfold lF;rw [if_neg (by omega),if_neg (by omega)]
  have hsF:sF n i o l=⟨S.things - (aY o).1+(aY o).2,S.names⟩:=by unfold sF;rw [if_neg (by omega),if_neg (by omega),if_neg (by omega),Int.toNat_natCast,hS,e1]
  have gk':gK code k b0 n i o l bs=(!(decide (o.n<=k) || decide ((code.length:Int)<=o.n)) && !(decide (0<=(bs.getD o.n.toNat default).things) && !eqT (bs.getD o.n.toNat default) (lj code o S))):=by
   unfold gK;rw [if_neg K4,if_pos K6,Int.toNat_natCast,hS]
  by_cases y:o.n<=k
  ·refine refuse ?_ (by rw [g0,gk',Xd y];rfl)
   unfold gS;rw [Xd K6,Xd y];simp
  by_cases w:(code.length:Int)<=o.n
  ·refine refuse ?_ (by rw [g0,gk',Xd w];simp)
   unfold gS;rw [Xd K6,Xd w];simp
  have ga:=hA o.n.toNat (by omega)
  have hbn:=hB o.n.toNat (by omega)
  have gn:(bs.map psi).getD o.n.toNat default=psi (bs.getD o.n.toNat default):=fY (by omega)
  have wc:lj code o S=⟨0,S.names+(code.getD o.n.toNat default).args⟩:=by unfold lj;rw [fD (by omega) (by omega)]
  have rc:iS code o (psi S)=psi (lj code o S):=by rw [wc,fH (s:=⟨0,_⟩) (by simp)];unfold iS;rw [pS];simp only;rw [fD (by omega) (by omega)]
  have hcmp:((bs.map psi).getD o.n.toNat default).known=true/\eqR ((bs.map psi).getD o.n.toNat default) (iS code o (psi S))=false↔(decide (0<=(bs.getD o.n.toNat default).things) && !eqT (bs.getD o.n.toNat default) (lj code o S))=true:=by
   rw [gn,rc,eH]
   by_cases u:(bs.getD o.n.toNat default).things < 0
   ·rw [Xd u,Xf (show ¬0<=(bs.getD o.n.toNat default).things by omega)];simp
   ·rw [BQ u (by rw [wc];simp),Xf u,Xd (show 0<=(bs.getD o.n.toNat default).things by omega)];simp
  cases u:(decide (0<=(bs.getD o.n.toNat default).things) && !eqT (bs.getD o.n.toNat default) (lj code o S)) with
  | true=>
   obtain ⟨v1,v2⟩:=hcmp.2 u
   refine refuse ?_ (by rw [g0,gk',u];simp)
   unfold gS;rw [gi,v1,v2,Xd K6];simp
  | false=>
   have hg:gF code k b0 n i o l bs=true:=by rw [g0,gk',u,Xf y,Xf w];rfl
   have hbF:bF code k b0 n i o l bs=bs.set o.n.toNat (lj code o S):=by unfold bF;rw [if_pos ⟨K6,hg⟩,Int.toNat_natCast,hS]
   have hrun:=kE (r:=r) hg hF hsF hin hw
   rw [hbF] at hrun
   refine gU hl hI ?_ (by rw [gi,gb,ha]) t0 t1 (by simp only;omega) (by simp only;omega) hrun (by unfold rbs;rw [if_pos K6,gi,rc,o6]) ?_ ?_ (by simp)
   ·have hc:(((bs.map psi).getD o.n.toNat default).known && !eqR ((bs.map psi).getD o.n.toNat default) (iS code o (psi S)))=false:=by
     cases q:(((bs.map psi).getD o.n.toNat default).known && !eqR ((bs.map psi).getD o.n.toNat default) (iS code o (psi S))) with
     | false=>rfl
     | true=>rw [hcmp.1 (by simpa using q)] at u;cases u
    unfold gS;rw [gi,gb,ha,hf,hc,eH,Xf hs,Xf y,Xf w];simp
   ·intro j hj
    rw [List.length_set] at hj
    by_cases e:o.n.toNat=j
    ·subst e
     rw [dj hj,wc]
     right
     refine ⟨rfl,by simp only;omega,by simp only;omega⟩
    ·rw [fZ e];exact hB j hj
   ·rw [fZ (by omega)];exact h0
 have hbF:bF code k b0 n i o l bs=bs:=by unfold bF;rw [if_neg (fun z=>K6 z.1)]
 by_cases K13:o.kind=13
 ·have hpp:=p13 K13
  have hn0:0<=o.n:=by
   unfold bL at hf
   rw [if_pos (by rw [K13];rfl)] at hf
   unfold ib at hf
   simp at hf
   omega
  have wb:IntKind.i64.wrap (S.names - b0.names)=S.names - b0.names:=fD (by omega) (by omega)
  have ae:aJ o (psi S) b0.names=if S.names - b0.names < o.n then (psi S,false) else (⟨true,S.things,IntKind.i64.wrap (S.names - o.n)⟩,true):=by
   unfold aJ;rw [if_neg (fun z=>K4 z.1),if_neg (fun z=>by omega),if_pos K13,pS];simp only;rw [wb]
  by_cases y:S.names - b0.names < o.n
  ·refine refuse (rb3 (by rw [ae,if_pos y])) ?_
   rw [g0];unfold gK;rw [if_neg K4,if_neg K6,if_pos K13,Int.toNat_natCast,hS,wb,Xd y];rfl
  ·rw [if_neg y,fD (by omega) (by omega)] at ae
   have hg:gF code k b0 n i o l bs=true:=by rw [g0];unfold gK;rw [if_neg K4,if_neg K6,if_pos K13,Int.toNat_natCast,hS,wb,Xf y];rfl
   have hw:aZ o i=[(i:Int)+1]:=by unfold aZ;rw [if_neg (by omega),if_neg (by omega),if_neg (by omega),w64]
   have hF:lF n i o l=l:=by unfold lF;rw [if_neg (by omega),if_neg (by omega)]
   have hsF:sF n i o l=⟨S.things,S.names - o.n⟩:=by
    unfold sF;rw [if_neg (by omega),if_pos K13,Int.toNat_natCast,hS,e1,hpp,fD (by omega) (by omega)]
    simp
   have hrun:=kE (r:=r) hg hF hsF hin hw
   rw [hbF] at hrun
   exact gU hl hI (rbn (by rw [ae]) K6) (by rw [gi,gb,ae,fH (s:=⟨S.things,S.names - o.n⟩) hs]) (by simp only;omega) (by simp only;omega) (by simp only;omega) (by simp only;omega) hrun (rbsn K6) hB h0 rfl
 have ha:=aft K13 (fun z=>K4 z.1)
 have hbad:=rbn (by rw [ha]) K6
 by_cases K15:o.kind=15
 ·rw [if_neg (by omega)] at ha
  have hw:aZ o i=[o.n]:=by unfold aZ;rw [if_pos K15]
  have ht:cb i n (s1F o S) [o.n] l=if o.n<=i∨(n:Int) < o.n∨bn l o.n (s1F o S)=false then (false,l) else (true,bh l o.n (s1F o S)):=by unfold cb cb;rfl
  have hg:gF code k b0 n i o l bs=(cb i n (s1F o S) (aZ o i) l).1:=by
   rw [g0,hw,ht];unfold gK;rw [if_neg K4,if_neg K6,if_neg K13,if_pos (.inl K15),Int.toNat_natCast,hS]
   split
   ·rename_i q
    rcases q with q | q | q
    ·rw [Xf (show ¬(i:Int) < o.n by omega)];rfl
    ·rw [Xf (show ¬o.n<=(n:Int) by omega),Bool.and_false];rfl
    ·rw [q,Bool.and_false]
   ·rename_i q
    rw [Xd (show (i:Int) < o.n by omega),Xd (show o.n<=(n:Int) by omega)]
    cases e:bn l o.n (s1F o S) with
    | true=>rfl
    | false=>exact absurd (.inr (.inr e)) q
  have hF:(cb i n (s1F o S) (aZ o i) l).1=true→lF n i o l=(cb i n (s1F o S) (aZ o i) l).2:=fun z=>by
   rw [hw,ht] at z ⊢
   split at z
   ·cases z
   ·rename_i q
    rw [if_neg q];unfold lF;rw [if_pos ⟨.inl K15,by omega,by omega⟩,Int.toNat_natCast,hS]
  have hsF:sF n i o l=(lF n i o l).getD ((i:Int)+1).toNat default:=by unfold sF;rw [if_neg (by omega),if_neg K13,if_pos (.inl K15)]
  have hrun:=uP (r:=r) hg hF hsF
  rw [hbF] at hrun
  exact gU (st:=s1F o S) hl hI hbad (by rw [gi,gb,ha,e1]) (by rw [e1];exact t0) (by rw [e1];exact t1) (by rw [e1];simp only;omega) (by rw [e1];simp only;omega) hrun (rbsn K6) hB h0 rfl
 by_cases K14:o.kind=14
 ·rw [if_neg (by omega)] at ha
  have hw:aZ o i=[o.n,(i:Int)+1]:=by unfold aZ;rw [if_neg K15,if_pos K14,w64]
  have hsF:sF n i o l=s1F o S:=by unfold sF;rw [if_neg (by omega),if_neg K13,if_neg (by omega),Int.toNat_natCast,hS]
  have hgk:gF code k b0 n i o l bs=(decide ((i:Int) < o.n) && decide (o.n<=(n:Int)) && bn l o.n (s1F o S)):=by rw [g0];unfold gK;rw [if_neg K4,if_neg K6,if_neg K13,if_pos (.inr K14),Int.toNat_natCast,hS]
  have hrun:((cb i n (s1F o S) (aZ o i) l).1=false/\(cO code k b0 n (o ::r) i l bs).1=false)∨((cb i n (s1F o S) (aZ o i) l).1=true/\cO code k b0 n (o ::r) i l bs=cO code k b0 n r ((i+1:Nat):Int) (cb i n (s1F o S) (aZ o i) l).2 (bF code k b0 n i o l bs)):=by
   rw [hw]
   unfold cb cb cb
   by_cases q:o.n<=i∨(n:Int) < o.n∨bn l o.n (s1F o S)=false
   ·left
    rw [if_pos q]
    have:gF code k b0 n i o l bs=false:=by
     rw [hgk]
     rcases q with q | q | q
     ·rw [Xf (show ¬(i:Int) < o.n by omega)];rfl
     ·rw [Xf (show ¬o.n<=(n:Int) by omega),Bool.and_false];rfl
     ·rw [q,Bool.and_false]
    rw [kD r this]
    exact ⟨rfl,rfl⟩
   ·rw [if_neg q]
    have hlb:bn l o.n (s1F o S)=true:=by
     cases e:bn l o.n (s1F o S) with
     | true=>rfl
     | false=>exact absurd (.inr (.inr e)) q
    have hg:gF code k b0 n i o l bs=true:=by
     rw [hgk,Xd (show (i:Int) < o.n by omega),Xd (show o.n<=(n:Int) by omega),hlb];rfl
    have hF:lF n i o l=bh l o.n (s1F o S):=by unfold lF;rw [if_pos ⟨.inr K14,by omega,by omega⟩,Int.toNat_natCast,hS]
    rw [mL r hg,hF,hsF]
    have e:((i+1:Nat):Int)=(i:Int)+1:=by omega
    rw [e]
    cases h:bn (bh l o.n (s1F o S)) ((i:Int)+1) (s1F o S) with
    | false=>left;rw [if_pos (.inr (.inr rfl)),if_neg (by simp)];exact ⟨rfl,rfl⟩
    | true=>right;rw [if_neg (no3 (by omega) (by omega) rfl),if_pos rfl];exact ⟨rfl,rfl⟩
  rw [hbF] at hrun
  exact gU (st:=s1F o S) hl hI hbad (by rw [gi,gb,ha,e1]) (by rw [e1];exact t0) (by rw [e1];exact t1) (by rw [e1];simp only;omega) (by rw [e1];simp only;omega) hrun (rbsn K6) hB h0 rfl
 have ht16:o.kind=16→o.tos.length=o.names.length:=fun e=>by
  unfold bL at hf
  rw [e] at hf
  simp [is8,isB,isU,isR] at hf
  unfold ib toN at hf
  rw [e] at hf
  simp at hf
  omega
 by_cases K16:o.kind=16/\o.tos.length≠0
 ·rw [if_pos (.inr ⟨K16.1,by rw [←ht16 K16.1];exact K16.2⟩)] at ha
  have hw:aZ o i=o.tos:=by unfold aZ;rw [if_neg K15,if_neg K14,if_pos K16]
  have es:(⟨(s1F o S).things,IntKind.i64.wrap (S.names+1)⟩:Stt)=⟨S.things - (aY o).1+(aY o).2,S.names+1⟩:=by rw [e1,wn]
  have hg:gF code k b0 n i o l bs=(cb i n ⟨S.things - (aY o).1+(aY o).2,S.names+1⟩ (aZ o i) l).1:=by
   rw [g0,hw];unfold gK;rw [if_neg K4,if_neg K6,if_neg K13,if_neg (by omega),if_pos K16,Int.toNat_natCast,hS,es]
  have hF:lF n i o l=(cb i n ⟨S.things - (aY o).1+(aY o).2,S.names+1⟩ (aZ o i) l).2:=by
   rw [hw];unfold lF;rw [if_neg (by omega),if_pos K16,Int.toNat_natCast,hS,es]
  have hsF:sF n i o l=(lF n i o l).getD ((i:Int)+1).toNat default:=by unfold sF;rw [if_neg (by omega),if_neg K13,if_pos (.inr K16)]
  have hrun:=uP (r:=r) hg (fun _=>hF) hsF
  rw [hbF] at hrun
  exact gU hl hI hbad (by rw [gi,gb,ha]) t0 t1 (by simp only;omega) (by simp only;omega) hrun (rbsn K6) hB h0 rfl
 have hw:aZ o i=[(i:Int)+1]:=by unfold aZ;rw [if_neg K15,if_neg K14,if_neg K16,w64]
 have hg:gF code k b0 n i o l bs=true:=by rw [g0];unfold gK;rw [if_neg K4,if_neg K6,if_neg K13,if_neg (by omega),if_neg K16]
 have hF:lF n i o l=l:=by unfold lF;rw [if_neg (by omega),if_neg K16]
 have hsF:sF n i o l=⟨S.things - (aY o).1+(aY o).2,if o.kind=12∨o.kind=16/\o.names.length≠0 then S.names+1 else S.names⟩:=by
  unfold sF
  by_cases K12:o.kind=12
  ·rw [if_pos K12,if_pos (.inl K12),Int.toNat_natCast,hS,e1,wn]
  ·rw [if_neg K12,if_neg K13,if_neg (fun z=>z.elim K15 K16),if_neg (fun z=>z.elim K12 (fun z=>K16 ⟨z.1,by rw [ht16 z.1];exact z.2⟩)),Int.toNat_natCast,hS,e1]
 have hrun:=kE (r:=r) hg hF hsF hin hw
 rw [hbF] at hrun
 have hnm:S.names<=(if o.kind=12∨o.kind=16/\o.names.length≠0 then S.names+1 else S.names)/\(if o.kind=12∨o.kind=16/\o.names.length≠0 then S.names+1 else S.names)<=S.names+1:=by split <;> omega
 exact gU hl hI hbad (by rw [gi,gb,ha]) t0 t1 (by simp only;omega) (by simp only;omega) hrun (rbsn K6) hB h0 rfl
theorem y9 {code:List Chnk} {k:Nat} {b0:Stt} {n:Nat} (hk:k < code.length) (hk4:code.length<=4096) (hn4:n<=4096)
  (c1:b0.things=0) (c2:0<=b0.names) (c3:b0.names<=1000000+8192 *k) (hA:∀j,j < code.length→0<=(code.getD j default).args/\(code.getD j default).args<=4096) :
  ∀(r:List Opn) (i:Nat) (l bs:List Stt),(∀o∈r,o.n<=9223372036854775807/\o.names.length<=9223372036854775807)→i+r.length=n→l.length=n+1→bs.length=code.length→bs.getD k default=b0→tp b0 l→uO bs→
   (kL code k n r i (l.map psi) (bs.map psi)).1=(cO code k b0 n r i l bs).1/\
   ((cO code k b0 n r i l bs).1=true→(kL code k n r i (l.map psi) (bs.map psi)).2=(cO code k b0 n r i l bs).2.map psi/\uO (cO code k b0 n r i l bs).2/\(cO code k b0 n r i l bs).2.length=code.length)
 | [],i,l,bs,_,hr,hl,hb,h0,hI,hB=>by
  unfold kL cO
  have gk:((bs.map psi).getD (k:Int).toNat default).names=b0.names:=by rw [Int.toNat_natCast,fY (by omega),h0,fH (by omega)]
  rw [fY (by omega),gk,eH]
  refine ⟨?_,fun _=>⟨rfl,hB,hb⟩⟩
  generalize l.getD n default=x
  by_cases h:x.things < 0
  ·rw [Xd h]
   have:¬x.things=1:=by omega
   simp [eqT,this]
  ·rw [Xf h,fH h]
   simp [eqT]
 | o ::r,i,l,bs,hO,hr,hl,hb,h0,hI,hB=>by
  obtain ⟨o1,o2⟩:=hO o (List.mem_cons_self ..)
  have hr':i+1+r.length=n:=by rw [List.length_cons] at hr;omega
  rcases BU (r:=r) hr' hl hb hk hk4 hn4 h0 c1 c2 c3 o1 o2 hA hI hB with ⟨h1,h2⟩ | ⟨l',bs',h1,h2,h3,h4,h5,h6,h7,h8,h9,h10⟩
  ·rw [h2]
   refine ⟨?_,fun z=>by cases z⟩
   unfold kL
   rcases h1 with h1 | h1
   ·rw [if_pos h1]
   ·split
    ·rfl
    ·rw [if_neg (by rw [h1];exact fun z=>by cases z)]
  ·have ih:=y9 hk hk4 hn4 c1 c2 c3 hA r (i+1) l' bs' (fun o ho=>hO o (List.mem_cons_of_mem _ ho)) hr' h6 (by omega) h10 h8 h9
   rw [h5]
   unfold kL
   rw [if_neg (by rw [h1];exact fun z=>by cases z),if_pos h2,h3,h4]
   exact ih
theorem yb {n:Nat} {s:Stt}:nJ n (psi s)=(bh (cJ n n) 0 s).map psi∨n=0:=by
 rcases Nat.eq_zero_or_pos n with h | h
 ·exact .inr h
 left
 have e:bh (cJ n n) 0 s=(cJ n n).set 0 s:=by
  unfold bh
  have:((cJ n n).getD (0:Int).toNat default).things < 0:=by
   unfold cJ
   rw [dr _ _ _ (by simp;exact h)]
   simp
  rw [if_pos this];rfl
 rw [e,←o6]
 unfold nJ cJ
 congr 1
 simp [psi]
theorem zw {code:List Chnk} {k:Nat} {bs:List Stt} (hk:k < code.length) (hk4:code.length<=4096) (hn4:aF code k<=4096) (hb:bs.length=code.length)
  (hpos:¬(bs.getD k default).things < 0) (hB:uO bs) (hA:∀j,j < code.length→0<=(code.getD j default).args/\(code.getD j default).args<=4096)
  (hO:∀o∈(cP code k).ops,o.n<=9223372036854775807/\o.names.length<=9223372036854775807) :
  (cm code k (bs.map psi)).1=(bU code k bs).1/\((bU code k bs).1=true→(cm code k (bs.map psi)).2=(bU code k bs).2.map psi/\uO (bU code k bs).2/\(bU code k bs).2.length=code.length):=by
 have hb0:=(hB k (by omega)).resolve_left hpos
 unfold cm bU
 rw [Int.toNat_natCast,fY (by omega)]
 generalize hbb:bs.getD k default=b0 at *
 obtain ⟨c1,c2,c3⟩:=hb0
 have hx:((cJ (aF code k+1) (aF code k+1)).getD (0:Int).toNat default).things < 0:=by
  unfold cJ
  rw [dr _ _ _ (by simp)]
  simp
 have el:bh (cJ (aF code k+1) (aF code k+1)) 0 b0=(cJ (aF code k+1) (aF code k+1)).set 0 b0:=by
  unfold bh;rw [if_pos hx];rfl
 have hlead:bn (cJ (aF code k+1) (aF code k+1)) 0 b0=true:=by
  unfold bn
  rw [el,show (0:Int).toNat=0 from rfl,dj (by rw [cq (Nat.le_refl _)];omega)]
  exact o5.2 rfl
 rw [if_pos hlead]
 rw [(yb (n:=aF code k+1) (s:=b0)).resolve_right (by omega)]
 have hll:(bh (cJ (aF code k+1) (aF code k+1)) 0 b0).length=aF code k+1:=by rw [ck,cq (Nat.le_refl _)]
 refine y9 hk hk4 hn4 c1 c2 c3 hA (cP code k).ops 0 _ bs hO ?_ hll hb hbb ?_ hB
 ·unfold aF;omega
 ·intro t ht
  rw [hll] at ht
  rw [el]
  by_cases e:t=0
  ·subst e
   rw [dj (by rw [cq (Nat.le_refl _)];omega)]
   right;omega
  ·left
   rw [fZ (by omega)]
   unfold cJ
   rw [dr _ _ _ (by simp;omega)]
   simp
theorem uQ {code:List Chnk} (hk4:code.length<=4096) (hn4:∀k,k < code.length→aF code k<=4096) (hA:∀j,j < code.length→0<=(code.getD j default).args/\(code.getD j default).args<=4096)
  (hO:∀(k:Nat),∀o∈(cP code k).ops,o.n<=9223372036854775807/\o.names.length<=9223372036854775807) :
  ∀(r k:Nat) (bs:List Stt),k+r=code.length→bs.length=code.length→uO bs→gT code r k (bs.map psi)=lk code r k bs
 | 0,_,_,_,_,_=>rfl
 | r+1,k,bs,hr,hb,hB=>by
  unfold gT lk
  rw [fY (by omega),eH]
  by_cases h:(bs.getD k default).things < 0
  ·rw [if_pos h,if_pos (by rw [Xd h];rfl)]
  ·rw [if_neg h,if_neg (by rw [Xf h];exact fun z=>by cases z)]
   obtain ⟨e1,e2⟩:=zw (by omega) hk4 (hn4 k (by omega)) hb h hB hA (hO k)
   rw [e1]
   split
   ·rename_i q
    obtain ⟨f1,f2,f3⟩:=e2 q
    rw [f1]
    exact uQ hk4 hn4 hA hO r (k+1) _ (by omega) f3 f2
   ·rfl
theorem qh:∀(l:List Chnk) (z:Int),0<=z→bz l z=true→∀c∈l,0<=c.args/\c.args<=4096/\c.ops.length<=4096
 | [],_,_,_,c,hc=>by simp at hc
 | x ::r,z,hz,h,c,hc=>by
  unfold bz at h
  split at h
  ·cases h
  rename_i q
  rcases List.mem_cons.1 hc with rfl | hc
  ·omega
  ·exact qh r _ (by omega) h c hc
theorem Dh {code:List Chnk} {scope:Int} (hO:∀c∈code,∀o∈c.ops,o.n<=9223372036854775807/\o.names.length<=9223372036854775807):qg code scope=iw code scope:=by
 unfold qg iw
 split
 ·rfl
 rename_i q
 split
 ·rfl
 rename_i q2
 have q2:bz code 0=true:=by simpa using q2
 have hm:=qh code 0 (Int.le_refl _) q2
 have hat:∀j (h:j < code.length),code.getD j default∈code:=fun j h=>by rw [dr _ _ _ h];exact List.getElem_mem _
 have e:nJ code.length ⟨true,0,scope⟩=(bg0 code.length scope).map psi:=by
  have:=(yb (n:=code.length) (s:=⟨0,scope⟩)).resolve_right (by omega)
  rw [fH (by simp)] at this
  rw [this]
  congr 1
  unfold bh bg0
  have hx:((cJ code.length code.length).getD (0:Int).toNat default).things < 0:=by
   unfold cJ
   rw [dr _ _ _ (by simp;omega)]
   simp
  rw [if_pos hx];rfl
 rw [e,uQ (by omega) (fun k hk=>(hm _ (hat k hk)).2.2) (fun j hj=>⟨(hm _ (hat j hj)).1,(hm _ (hat j hj)).2.1⟩) ?_ code.length 0 _ (by omega) (lp _ _) ?_]
 ·intro k o ho
  by_cases hk:k < code.length
  ·exact hO _ (hat k hk) o ho
  ·have:cP code k=default:=by unfold cP;rw [Int.toNat_natCast];simp [List.getD_eq_getElem?_getD,List.getElem?_eq_none (show code.length<=k by omega)]
   rw [this] at ho
   cases ho
 ·intro j hj
  rw [lp] at hj
  unfold bg0
  by_cases e:j=0
  ·subst e
   rw [dj (by rw [cq (Nat.le_refl _)];omega)]
   right;exact ⟨rfl,by simp only;omega,by simp only;omega⟩
  ·left
   rw [fZ (by omega)]
   unfold cJ
   rw [dr _ _ _ (by simp;omega)]
   simp
end Go.Pd
end
noncomputable section
namespace Go.Pd
open Go Go.AL
def pz (p:Int) (b:Bool):Int:=if b=true then 0 else p
def rtk (s:Str) (a:Int) (ok:Bool):Int × Int × Bool:=((tkN s a (!ok)).1,pz (tkN s a (!ok)).2.1 (tkN s a (!ok)).2.2,!(tkN s a (!ok)).2.2)
theorem qj (s:Str) (p:Int):tkN s p true=(0,p,true):=by unfold tkN;rw [if_pos (.inl rfl)]
theorem BV (s:Str) (p:Int) (b:Bool):rtk s (pz p b) (!b)=((tkN s p b).1,pz (tkN s p b).2.1 (tkN s p b).2.2,!(tkN s p b).2.2):=by
 unfold rtk
 rw [Bool.not_not]
 cases b with
 | true=>rw [qj,qj];rfl
 | false=>rfl
theorem wK (s:Str) (p:Int):rtk s p true=((tkN s p false).1,pz (tkN s p false).2.1 (tkN s p false).2.2,!(tkN s p false).2.2):=rfl
def gd (s:Str) (p:Int):Opn × Int × Bool:=
 if (op2 s p false).2.2=true∨(op3 s p false).2.2≠0∨(op4 s p false).2.2≠0 then (default,0,false)
 else ((opF s p false).1,pz (opF s p false).2.1 (opF s p false).2.2,!(opF s p false).2.2)
theorem Di (s:Str) (p:Int):(gd s p).2.1=pz (opF s p false).2.1 (opF s p false).2.2/\(gd s p).2.2=!(opF s p false).2.2/\((opF s p false).2.2=false→(gd s p).1=(opF s p false).1):=by
 unfold gd
 by_cases h:(op2 s p false).2.2=true∨(op3 s p false).2.2≠0∨(op4 s p false).2.2≠0
 ·rw [if_pos h]
  have e:(opF s p false).2.2=true:=by
   unfold opF
   by_cases h1:(op2 s p false).2.2=true∨(op3 s p false).2.2≠0
   ·rw [if_pos h1]
   ·rw [if_neg h1,if_pos (h.elim (fun z=>absurd (.inl z) h1) (fun z=>z.elim (fun z=>absurd (.inr z) h1) id))]
  rw [e]
  exact ⟨rfl,rfl,fun z=>by cases z⟩
 ·rw [if_neg h]
  exact ⟨rfl,rfl,fun _=>rfl⟩
theorem mM {s:Str} {p:Int} (h:(aj s p).2.2=0):(aj s p).2.1=p+(bQ (aj s p).1).length/\0<=(aj s p).1/\AtS s (aj s p).2.1:=by
 obtain ⟨b1,b2,b3⟩:=cZ s p
 obtain ⟨a1,a2,a3⟩:=b3 h
 refine ⟨?_,b1.1,a2⟩
 unfold AtS at a1
 obtain ⟨q,rfl⟩:=Int.eq_ofNat_of_zero_le a1.1
 have hq:q<=s.length:=by omega
 rw [rJ hq] at h a2 ⊢
 by_cases h1:q=s.length
 ·rw [if_pos h1] at h;exact absurd h (by decide)
 rw [if_neg h1] at h a2 ⊢
 by_cases h2:bI (s.getD q 0)<=247
 ·rw [if_pos h2]
  have hb:0<=bI (s.getD q 0):=by unfold bI;omega
  simp only
  unfold bQ
  rw [if_pos (by omega)]
  simp [eK]
 rw [if_neg h2] at h a2 ⊢
 by_cases h3:(s.length:Int) - q < bI (s.getD q 0) - 247+1
 ·rw [if_pos h3] at h;exact absurd h (by decide)
 rw [if_neg h3] at h a2 ⊢
 by_cases h4:bQ ((gp s (q+1) ((s.getD q 0).toNat - 247):Nat):Int)=(s.drop q).take ((s.getD q 0).toNat - 247+1)
 ·rw [if_pos h4] at a2 ⊢
  simp only at a2 ⊢
  rw [h4,List.length_take,List.length_drop]
  unfold AtS at a2
  omega
 ·rw [if_neg h4] at h;exact absurd h (by decide)
theorem ig {s:Str} {p:Int} {b:Bool} (h:(tkN s p b).2.2=false):(tkN s p b).2.1=p+(b6 (tkN s p b).1).length/\0<=(tkN s p b).1/\b=false:=by
 unfold tkN at h ⊢
 split at h
 ·cases h
 rename_i k
 rw [if_neg k]
 obtain ⟨b1,b2,b3⟩:=cZ s p
 have k2:(aj s p).2.2=0:=Classical.byContradiction fun z=>k (.inr (.inl z))
 obtain ⟨c1,c2,c3⟩:=mM k2
 refine ⟨?_,c2,h⟩
 have k3:¬9223372036854775807 < (aj s p).1:=fun z=>k (.inr (.inr z))
 simp only
 unfold b6
 obtain ⟨m,hm⟩:=Int.eq_ofNat_of_zero_le c2
 rw [hm] at k3 ⊢
 rw [wJ (by omega),←hm]
 exact c1
theorem qk {s:Str} {p:Int} (h:(aT s p).2.2=0):(aT s p).2.1=p+(b7 (aT s p).1).length:=by
 unfold aT at h ⊢
 split at h
 ·rename_i k;exact absurd h k
 rename_i k
 rw [if_neg k]
 have k:=Classical.not_not.1 k
 obtain ⟨c1,c2,c3⟩:=mM k
 unfold AtS at c3
 split at h
 ·exact absurd h (by decide)
 rename_i m
 rw [if_neg m]
 simp only
 have e:(((s.take ((aj s p).2.1+(aj s p).1).toNat).drop (aj s p).2.1.toNat).length:Int)=(aj s p).1:=by
  rw [List.length_drop,List.length_take];omega
 unfold b7
 rw [List.length_append,e]
 omega
theorem ql {s:Str}:∀(k:Nat) (n:Int) (acc:List Str) (p:Int),0<=n→(ca s k n acc p).2.2=0→
  ((ca s k n acc p).1.length:Int)=acc.length+n/\(ca s k n acc p).2.1+(acc.flatMap b7).length=p+((ca s k n acc p).1.flatMap b7).length
 | 0,n,acc,p,hn,h=>by exact absurd h (by simp [ca])
 | k+1,n,acc,p,hn,h=>by
  unfold ca at h ⊢
  by_cases h1:0 < n
  ·rw [if_pos h1] at h ⊢
   by_cases h2:(aT s p).2.2≠0
   ·rw [if_pos h2] at h;exact absurd h h2
   ·rw [if_neg h2] at h ⊢
    have h2:=Classical.not_not.1 h2
    obtain ⟨e1,e2⟩:=ql k (n - 1) _ _ (by omega) h
    have e3:=qk h2
    rw [List.length_append,List.length_singleton] at e1
    rw [List.flatMap_append,List.length_append] at e2
    simp only [List.flatMap_cons,List.flatMap_nil,List.append_nil] at e2
    omega
  ·rw [if_neg h1] at h ⊢
   exact ⟨by simp only;omega,rfl⟩
theorem wM {s:Str} {p:Int} (h:(bc s p).2.2=0):(bc s p).2.1=p+(cM (bc s p).1).length:=by
 unfold bc at h ⊢
 split at h
 ·rename_i k;exact absurd h k
 rename_i k
 rw [if_neg k]
 have k:=Classical.not_not.1 k
 obtain ⟨c1,c2,c3⟩:=mM k
 obtain ⟨e1,e2⟩:=ql _ _ _ _ c2 h
 unfold cM
 have e3:(([]:List Str).length:Int)+(aj s p).1=(aj s p).1:=by simp
 rw [e3] at e1
 rw [List.length_append,e1]
 simp only [List.flatMap_nil,List.length_nil] at e2
 omega
theorem tq {s:Str}:∀(k:Nat) (n:Int) (l:List Int) (p:Int) (b:Bool),0<=n→(toL s k n l p b).2.2=false→
  ((toL s k n l p b).1.length:Int)=l.length+n/\(toL s k n l p b).2.1+(l.flatMap b6).length=p+((toL s k n l p b).1.flatMap b6).length/\b=false
 | 0,n,acc,p,b,hn,h=>by cases h
 | k+1,n,acc,p,b,hn,h=>by
  unfold toL at h ⊢
  by_cases h1:0 < n/\b=false
  ·rw [if_pos h1] at h ⊢
   obtain ⟨e1,e2,e4⟩:=tq k (n - 1) _ _ _ (by omega) h
   have e3:=(ig e4).1
   rw [List.length_append,List.length_singleton] at e1
   rw [List.flatMap_append,List.length_append] at e2
   simp only [List.flatMap_cons,List.flatMap_nil,List.append_nil] at e2
   exact ⟨by omega,by omega,h1.2⟩
  ·rw [if_neg h1] at h ⊢
   simp only at h ⊢
   have:¬0 < n:=fun z=>h1 ⟨z,h⟩
   exact ⟨by omega,trivial,h⟩
theorem Dj {s:Str} {p:Int} {b:Bool} (h:(opF s p b).2.2=false):(opF s p b).2.1=p+(fX (opF s p b).1).length/\b=false:=by
 unfold opF at h ⊢
 by_cases k:(op2 s p b).2.2=true∨(op3 s p b).2.2≠0
 ·rw [if_pos k] at h;cases h
 rw [if_neg k] at h ⊢
 by_cases k3:(op4 s p b).2.2≠0
 ·rw [if_pos k3] at h;cases h
 rw [if_neg k3] at h ⊢
 have k2:(op3 s p b).2.2=0:=Classical.byContradiction fun q=>k (.inr q)
 have k3:=Classical.not_not.1 k3
 simp only at h ⊢
 obtain ⟨g1,g2,g3⟩:=ig h
 obtain ⟨e1,e2,e3⟩:=ig (s:=s) (p:=(op4 s p b).2.1) (b:=(op2 s p b).2.2) (tq _ _ _ _ _ (by
  unfold op5 tkN
  split
  ·exact Int.le_refl _
  ·exact (cZ s _).1.1) g3).2.2
 obtain ⟨f1,f2,f3⟩:=tq _ _ _ _ _ e2 g3
 obtain ⟨c1,c2,c3⟩:=ig (s:=s) (p:=(op1 s p b).2.1) (b:=(op1 s p b).2.2) e3
 obtain ⟨d1,d2,d3⟩:=ig (s:=s) (p:=p) (b:=b) c3
 have t:=qk k2
 have u:=wM k3
 refine ⟨?_,d3⟩
 have e4:(op5 s p b).1=(((op6 s p b).1.length:Nat):Int):=by
  simp only [List.length_nil] at f1
  have f1:((op6 s p b).1.length:Int)=((0:Nat):Int)+(op5 s p b).1:=f1
  omega
 have e5:(b6 (op5 s p b).1).length=(b6 (((op6 s p b).1.length:Nat):Int)).length:=by rw [e4]
 unfold fX wA
 simp only [List.length_append]
 simp only [List.flatMap_nil,List.length_nil] at f2
 have g1:(op7 s p b).2.1=(op6 s p b).2.1+(b6 (op7 s p b).1).length:=g1
 have f2:(op6 s p b).2.1+((0:Nat):Int)=(op5 s p b).2.1+((op6 s p b).1.flatMap b6).length:=f2
 have e1:(op5 s p b).2.1=(op4 s p b).2.1+(b6 (op5 s p b).1).length:=e1
 have t:(op3 s p b).2.1=(op2 s p b).2.1+(b7 (op3 s p b).1).length:=t
 have u:(op4 s p b).2.1=(op3 s p b).2.1+(cM (op4 s p b).1).length:=u
 have c1:(op2 s p b).2.1=(op1 s p b).2.1+(b6 (op2 s p b).1).length:=c1
 have d1:(op1 s p b).2.1=p+(b6 (op1 s p b).1).length:=d1
 omega
theorem uR {s:Str}:∀(k:Nat) (n:Int) (l:List Opn) (p:Int) (b:Bool),0<=n→(cr s k n l p b).2.2=false→
  ((cr s k n l p b).1.length:Int)=l.length+n/\(cr s k n l p b).2.1+(l.flatMap fX).length=p+((cr s k n l p b).1.flatMap fX).length/\b=false
 | 0,n,acc,p,b,hn,h=>by cases h
 | k+1,n,acc,p,b,hn,h=>by
  unfold cr at h ⊢
  by_cases h1:0 < n/\b=false
  ·rw [if_pos h1] at h ⊢
   obtain ⟨e1,e2,e4⟩:=uR k (n - 1) _ _ _ (by omega) h
   have e3:=(Dj e4).1
   rw [List.length_append,List.length_singleton] at e1
   rw [List.flatMap_append,List.length_append] at e2
   simp only [List.flatMap_cons,List.flatMap_nil,List.append_nil] at e2
   exact ⟨by omega,by omega,h1.2⟩
  ·rw [if_neg h1] at h ⊢
   simp only at h ⊢
   have:¬0 < n:=fun z=>h1 ⟨z,h⟩
   exact ⟨by omega,trivial,h⟩
theorem Dk {s:Str} {p:Int} {b:Bool} (h:(ch3 s p b).2.2=false):(ch3 s p b).2.1=p+(iR ⟨(ch1 s p b).1,(ch3 s p b).1⟩).length/\b=false:=by
 have e0:0<=(ch2 s p b).1:=by
  unfold ch2 tkN
  split
  ·exact Int.le_refl _
  ·exact (cZ s _).1.1
 obtain ⟨f1,f2,f3⟩:=uR _ _ _ _ _ e0 h
 obtain ⟨c1,c2,c3⟩:=ig (s:=s) (p:=(ch1 s p b).2.1) (b:=(ch1 s p b).2.2) f3
 obtain ⟨d1,d2,d3⟩:=ig (s:=s) (p:=p) (b:=b) c3
 refine ⟨?_,d3⟩
 have e4:(ch2 s p b).1=(((ch3 s p b).1.length:Nat):Int):=by
  simp only [List.length_nil] at f1
  have f1:((ch3 s p b).1.length:Int)=((0:Nat):Int)+(ch2 s p b).1:=f1
  omega
 have e5:(b6 (ch2 s p b).1).length=(b6 (((ch3 s p b).1.length:Nat):Int)).length:=by rw [e4]
 unfold iR zk
 simp only [List.length_append]
 simp only [List.flatMap_nil,List.length_nil] at f2
 have f2:(ch3 s p b).2.1+((0:Nat):Int)=(ch2 s p b).2.1+((ch3 s p b).1.flatMap fX).length:=f2
 have c1:(ch2 s p b).2.1=(ch1 s p b).2.1+(b6 (ch2 s p b).1).length:=c1
 have d1:(ch1 s p b).2.1=p+(b6 (ch1 s p b).1).length:=d1
 omega
theorem ye {s:Str}:∀(k:Nat) (n:Int) (l:List Chnk) (p:Int) (b:Bool),0<=n→(chL s k n l p b).2.2=false→
  ((chL s k n l p b).1.length:Int)=l.length+n/\(chL s k n l p b).2.1+(l.flatMap iR).length=p+((chL s k n l p b).1.flatMap iR).length/\b=false
 | 0,n,acc,p,b,hn,h=>by cases h
 | k+1,n,acc,p,b,hn,h=>by
  unfold chL at h ⊢
  by_cases h1:0 < n/\b=false
  ·rw [if_pos h1] at h ⊢
   obtain ⟨e1,e2,e4⟩:=ye k (n - 1) _ _ _ (by omega) h
   have e3:=(Dk e4).1
   rw [List.length_append,List.length_singleton] at e1
   rw [List.flatMap_append,List.length_append] at e2
   simp only [List.flatMap_cons,List.flatMap_nil,List.append_nil] at e2
   exact ⟨by omega,by omega,h1.2⟩
  ·rw [if_neg h1] at h ⊢
   simp only at h ⊢
   have:¬0 < n:=fun z=>h1 ⟨z,h⟩
   exact ⟨by omega,trivial,h⟩
theorem BW {s:Str} (h:(dB s).2.2=false):(dB s).2.1=(kJ (dB s).1).length:=by
 unfold dB at h ⊢
 have e0:0<=(tkN s 0 false).1:=by
  unfold tkN
  split
  ·exact Int.le_refl _
  ·exact (cZ s _).1.1
 obtain ⟨f1,f2,f3⟩:=ye _ _ _ _ _ e0 h
 obtain ⟨d1,d2,d3⟩:=ig (s:=s) (p:=0) (b:=false) f3
 simp only [List.length_nil,List.flatMap_nil] at f1 f2
 unfold kJ
 rw [List.length_append,f1]
 have e6:((0:Nat):Int)+(tkN s 0 false).1=(tkN s 0 false).1:=by omega
 rw [e6]
 omega
def uS (l:List Chnk) (b:Bool) (s:Str):List Chnk × Int:=if b=true then ([],310) else if (db l).2≠0∨(db l).1≠s then ([],310) else (l,0)
theorem BX (s:Str):uS (dB s).1 (dB s).2.2 s=dD s:=by
 by_cases h:(dB s).2.2=true
 ·have e:dD s=([],310):=by unfold dD;rw [if_pos (.inl h)]
  rw [e];unfold uS;rw [if_pos h]
 by_cases h2:(dB s).2.1≠s.length
 ·have e0:dD s=([],310):=by unfold dD;rw [if_pos (.inr h2)]
  rw [e0];unfold uS;rw [if_neg h]
  have e:=BW (Bool.eq_false_iff.2 h)
  by_cases k:(db (dB s).1).2≠0∨(db (dB s).1).1≠s
  ·rw [if_pos k]
  ·exfalso
   have k1:(db (dB s).1).2=0:=Classical.byContradiction fun z=>k (.inl z)
   have k2:(db (dB s).1).1=s:=Classical.byContradiction fun z=>k (.inr z)
   unfold db at k1 k2
   split at k1
   ·cases k1
   ·rename_i q
    rw [if_neg q] at k2
    simp only at k2
    rw [k2] at e
    exact h2 e
 ·have e0:dD s=if (db (dB s).1).2≠0∨(db (dB s).1).1≠s then ([],310) else ((dB s).1,0):=by unfold dD;rw [if_neg (fun z=>z.elim h h2)]
  rw [e0];unfold uS;rw [if_neg h]
def Dl (S0:St) (f:Int→Int→Bool→Int→LA):LA:=
 match aM S0.t 10,aM S0.t 5,aM S0.t 6,ah S0.b 9 with
 | .int _ k,.int _ a,.bool o,some (.box (.agg [.int .i64 c,_]))=>f k a o c
 | _,_,_,_=>⟨Nat,fun _=>False,fun _=>[],fun _=>[],fun _=>0⟩
theorem rK (s:Str) (f:Nat) (m:Int) (l:List Opn) (p:Int) (h:f≠0):cr s f m l p true=(l,p,true):=by
 cases f with
 | zero=>exact absurd rfl h
 | succ f=>unfold cr;rw [if_neg (fun z=>by cases z.2)]
theorem Dm (s:Str) (k:Int) (p:Int) (b:Bool):(cr s (s.length+2) k [] (pz p b) b).1=(cr s (s.length+2) k [] p b).1/\
  pz (cr s (s.length+2) k [] (pz p b) b).2.1 (cr s (s.length+2) k [] (pz p b) b).2.2=pz (cr s (s.length+2) k [] p b).2.1 (cr s (s.length+2) k [] p b).2.2/\
  (cr s (s.length+2) k [] (pz p b) b).2.2=(cr s (s.length+2) k [] p b).2.2:=by
 cases b with
 | true=>rw [rK _ _ _ _ _ (by omega),rK _ _ _ _ _ (by omega)];exact ⟨rfl,rfl,rfl⟩
 | false=>exact ⟨rfl,rfl,rfl⟩
end Go.Pd
end
noncomputable section
namespace Go.Pd
open Go Go.AL
theorem kd {o:Opn} (h:o.pos < 0∨o.kind < 1∨18 < o.kind):bL o=false:=by
 rcases h with h | h
 ·have e:decide (0<=o.pos)=false:=Xf (by omega)
  unfold bL ib
  simp [e]
 ·have k1:o.kind≠1:=by omega
  have k2:o.kind≠2:=by omega
  have k3:o.kind≠3:=by omega
  have k4:o.kind≠4:=by omega
  have k5:o.kind≠5:=by omega
  have k6:o.kind≠6:=by omega
  have k7:o.kind≠7:=by omega
  have k8:o.kind≠8:=by omega
  have k9:o.kind≠9:=by omega
  have k10:o.kind≠10:=by omega
  have k11:o.kind≠11:=by omega
  have k12:o.kind≠12:=by omega
  have k13:o.kind≠13:=by omega
  have k14:o.kind≠14:=by omega
  have k15:o.kind≠15:=by omega
  have k16:o.kind≠16:=by omega
  have k17:o.kind≠17:=by omega
  have k18:o.kind≠18:=by omega
  simp [bL,is8,isB,isU,isR, *]
theorem b9 {o:Opn} {s:Rstt} {b p1 p2:Int} (hp:aY o=(p1,p2)) (h4:¬(o.kind=4/\s.names<=o.n)) (h7:¬(o.kind=7/\s.things<=o.n)) (h13:o.kind≠13) :
  if decide (s.things < p1)=true then True/\s=(aJ o s b).1/\false=(aJ o s b).2/\True
  else if decide (o.kind=12)=true then True/\true=(aJ o s b).1.known/\IntKind.i64.wrap (IntKind.i64.wrap (s.things - p1)+p2)=(aJ o s b).1.things/\IntKind.i64.wrap (s.names+1)=(aJ o s b).1.names/\true=(aJ o s b).2/\True
  else if decide (o.kind=16)=true then
   (if decide ((0:Int) < (o.names.length:Int))=true then True/\true=(aJ o s b).1.known/\IntKind.i64.wrap (IntKind.i64.wrap (s.things - p1)+p2)=(aJ o s b).1.things/\IntKind.i64.wrap (s.names+1)=(aJ o s b).1.names/\true=(aJ o s b).2/\True
   else True/\true=(aJ o s b).1.known/\IntKind.i64.wrap (IntKind.i64.wrap (s.things - p1)+p2)=(aJ o s b).1.things/\s.names=(aJ o s b).1.names/\true=(aJ o s b).2/\True)
  else True/\true=(aJ o s b).1.known/\IntKind.i64.wrap (IntKind.i64.wrap (s.things - p1)+p2)=(aJ o s b).1.things/\s.names=(aJ o s b).1.names/\true=(aJ o s b).2/\True:=by
 have e:aJ o s b=if s.things < p1 then (s,false) else (⟨true,IntKind.i64.wrap (IntKind.i64.wrap (s.things - p1)+p2),if o.kind=12∨o.kind=16/\o.names.length≠0 then IntKind.i64.wrap (s.names+1) else s.names⟩,true):=by
  unfold aJ;rw [if_neg h4,if_neg h7,if_neg h13,hp]
 rw [e]
 refine a7 (fun h=>?_) (fun h=>?_)
 ·rw [if_pos (Xo h)];exact ⟨trivial,rfl,rfl,trivial⟩
 rw [if_neg (fun z=>h (Xd z))]
 refine a7 (fun k=>?_) (fun k=>?_)
 ·rw [if_pos (.inl (Xo k))];exact ⟨trivial,rfl,rfl,rfl,rfl,trivial⟩
 replace k:¬o.kind=12:=fun z=>k (Xd z)
 refine a7 (fun m=>?_) (fun m=>?_)
 ·replace m:=Xo m
  refine a7 (fun q=>?_) (fun q=>?_)
  ·replace q:=Xo q
   rw [if_pos (.inr ⟨m,by omega⟩)];exact ⟨trivial,rfl,rfl,rfl,rfl,trivial⟩
  ·rw [if_neg (fun z=>z.elim k (fun z=>q (Xd (by omega))))];exact ⟨trivial,rfl,rfl,rfl,rfl,trivial⟩
 ·rw [if_neg (fun z=>z.elim k (fun z=>m (Xd z.1)))];exact ⟨trivial,rfl,rfl,rfl,rfl,trivial⟩
theorem dE {o:Opn} {a:Int} (h:o.kind=a):aY o=if is6 a=true then (0,1)
 else if a=7 then (IntKind.i64.wrap (o.n+1),1)
 else if a=8 then ((o.names.length:Int),1)
 else if a=11 then (o.n,1)
 else if is4 a=true then (1,1)
 else if a=16 then (if o.names.length=0 then (1,1) else (1,0))
 else if is2 a=true then (1,0)
 else (0,0):=by unfold aY;rw [h]
theorem zx (o:Opn) (i:Int) (h:o.tos.length<=9223372036854775807):(aZ o i).length<=9223372036854775807:=by
 unfold aZ
 split
 ·simp
 ·split
  ·simp
  ·split
   ·exact h
   ·simp
theorem ny (code:List Chnk) (k:Int) (n:Nat):∀(r:List Opn) (i:Nat) (l bs:List Rstt),(kL code k n r i l bs).2.length=bs.length
 | [],i,l,bs=>rfl
 | o ::r,i,l,bs=>by
  have e:(rbs code i o l bs).length=bs.length:=by unfold rbs;split <;> simp
  unfold kL
  split
  ·rfl
  ·split
   ·rw [ny,e]
   ·exact e
theorem qm (code:List Chnk) (k:Int) (bs:List Rstt):(cm code k bs).2.length=bs.length:=ny _ _ _ _ _ _ _
def Dn (code:List Chnk) (k:Int) (bs:List Rstt) (n:Nat):Prop:=
 0<=k/\k < (code.length:Int)/\bs.length=code.length/\n=code.length/\aF code k<=4096/\Wf (.lst (.st .chunk)) code
def rchS (bs:List Rstt):List (Nat × SObj):=[(900,.box (.row (.st .rstt) bs))]
def rchA (code:List Chnk) (k:Int) (bs:List Rstt) (n:Nat):Ans:=⟨some (Dn code k bs n),none,.bool (cm code k bs).1,rchS (cm code k bs).2⟩
def Ei:Pat:=fun args S=>
 match args,S with
 | [a,.int .i64 k,.arr 900 n 3],[(900,.box (.row (.st .rstt) bs))]=>(match arg (.lst (.st .chunk)) a with | some code=>some (rchA code k bs n) | none=>none)
 | _,_=>none
theorem Dp [Tabs] {P:Program} {f:Nat} (he:aV P f) (h:∀(code:List Chnk) (k:Int) (bs:List Rstt) (n:Nat),Dn code k bs n→bd P f [.lst (.st .chunk) code none,.int .i64 k,.arr 900 n 3] (rchS bs) (rchA code k bs n)):an P f Ei:=by
 intro args S A hA ho hw
 unfold Ei at hA
 split at hA
 ·split at hA
  ·rename_i s hs
   simp only [Xs] at hA
   subst hA
   exact ⟨he,bd.args (.cons (Rd.arg hs) (.cons (Rd.refl _) (.cons (Rd.refl _) .nil))) (h _ _ _ _ (ho _ rfl))⟩
  ·cases hA
 ·cases hA
def BY (S0:St) (f:Int→List Rstt→Rstt→List Int→LA):LA:=
 match aM S0.t 9,ah S0.b 25,ah S0.b 11,aM S0.t 14 with
 | .int _ i,some (.box (.row (.st .rstt) l)),some (.box c),.lst (.int .i64) ws _=>(match arg (.st .rstt) c with | some s=>f i l s ws | none=>⟨Nat,fun _=>False,fun _=>[],fun _=>[],fun _=>0⟩)
 | _,_,_,_=>⟨Nat,fun _=>False,fun _=>[],fun _=>[],fun _=>0⟩
end Go.Pd
end
noncomputable section
namespace Go.Pd
open Go Go.AL
theorem eqN {a b:Nat} (h:¬(!decide ((a:Int)=(b:Int)))=true):a=b:=by
 simp at h
 omega
def cK {α:Type} (f:α→α→Bool):List α→List α→Bool
 | a ::r,b ::t=>f a b && cK f r t
 | _,_=>true
def ke (a b:List Str):Bool:=decide (a.length=b.length) && cK (fun x y=>decide (x=y)) a b
def ff (x y:Opn):Bool:=
 decide (x.kind=y.kind) && decide (x.n=y.n) && decide (x.name=y.name) && decide (x.pos=y.pos) && decide (x.tos.length=y.tos.length) && (cK (fun x y=>decide (x=y)) x.tos y.tos && ke x.names y.names)
def iT (c d:Chnk):Bool:=decide (c.args=d.args) && decide (c.ops.length=d.ops.length) && cK ff c.ops d.ops
def qn (a b:List Chnk):Bool:=decide (a.length=b.length) && cK iT a b
theorem kF {α:Type} {f:α→α→Bool} (h:∀x,f x x=true):∀l:List α,cK f l l=true
 | []=>rfl
 | a ::r=>by unfold cK;rw [h,kF h r];rfl
theorem lX {α:Type} (f:α→α→Bool) (l:List α):cK f [] l=true:=by cases l <;> rfl
theorem zipE {α:Type} [DecidableEq α] (l:List α):cK (fun x y=>decide (x=y)) l l=true:=kF (f:=fun x y=>decide (x=y)) (fun x=>Xd rfl) l
theorem uT (l:List Str):ke l l=true:=by unfold ke;rw [zipE];simp
theorem wN (x:Opn):ff x x=true:=by unfold ff;rw [zipE,uT];simp
theorem wP (c:Chnk):iT c c=true:=by unfold iT;rw [kF wN];simp
theorem wQ (l:List Chnk):qn l l=true:=by unfold qn;rw [kF wP];simp
theorem kG {α:Type} (f:α→α→Bool) (a b:List α) (k:Nat) (d:α) (h:k < a.length) (h2:k < b.length) :
  cK f (a.drop k) (b.drop k)=(f (a.getD k d) (b.getD k d) && cK f (a.drop (k+1)) (b.drop (k+1))):=by
 rw [bS a k d h,bS b k d h2];rfl
end Go.Pd
end
section
open Go Go.AL Go.Proofs Go.Shelf Go.Pd
namespace Go.AL.Seat
variable [Tabs]
def nn:Nat→Bool:=fun _=>false
def cf (k:Nat→Bool) (l:Nat→List (Option Nat)) (p r m:Nat→Bool) (s:Nat→List AV→List (Nat × SObj)→Option Ans):Cfg:=⟨tbl,s,k,l,p,r,m⟩
def a0:An:=⟨[],[],[]⟩
theorem g1 (k:Nat→Bool) (l:Nat→List (Option Nat)) (p r m:Nat→Bool) {s:Nat→List AV→List (Nat × SObj)→Option Ans} (hS:bK Tryz.prog s) (a:An) {f:Nat} {fn:Func} (hf:Tryz.prog.funcs[f]?=some fn)
  {args:List AV} {S:List (Nat × SObj)} {A:Ans} {Q:Prop} (q:Q) (h:fwp (cf k l p r m s) a fn args S A=Q:=by kernel_rfl):bd Tryz.prog f args S A:=AO (C:=cf k l p r m s) mixed DF hS hf q h
theorem g0 {s:Nat→List AV→List (Nat × SObj)→Option Ans} (hS:bK Tryz.prog s) (a:An) {f:Nat} {fn:Func} (hf:Tryz.prog.funcs[f]?=some fn)
  {args:List AV} {S:List (Nat × SObj)} {A:Ans} {Q:Prop} (q:Q) (h:fwp (cf nn (fun _=>[]) nn nn nn s) a fn args S A=Q:=by kernel_rfl):bd Tryz.prog f args S A:=AO (C:=cf nn (fun _=>[]) nn nn nn s) mixed DF hS hf q h
theorem sc {f:Nat} {g:Pat} {l:List (Nat × Pat)} (h:an Tryz.prog f g) (hl:bK Tryz.prog (fV l)):bK Tryz.prog (fV ((f,g) ::l)):=w4 h hl
theorem sn:bK Tryz.prog (fV []):=yR
theorem ee {f:Nat} {fn:Func} (h:Tryz.prog.funcs[f]?=some fn) (e:(fn.body.isNone || (fn.name == "runtime.NumGoroutine"))=false:=by kernel_rfl):aV Tryz.prog f:=aV.mk' h e
variable [SeatLaid]
theorem mN:an Tryz.prog 102 (p1 (.int .u8) fun c=>.ret (.bool (bT c))):=
 bV (ee Tryz.func102) fun c _ _=>g0 sn a0 Tryz.func102 (BF c)
theorem mO:an Tryz.prog 103 (p1 (.int .u8) fun c=>.ret (.bool (bY c))):=
 bV (ee Tryz.func103) fun c _ _=>g0 sn a0 Tryz.func103 (BG c)
theorem zy:an Tryz.prog 106 (p1 (.int .u8) fun c=>.ret (.bool (fa c))):=
 bV (ee Tryz.func106) fun c _ _=>g0 sn a0 Tryz.func106 (BH c)
theorem uU:an Tryz.prog 104 (p1 (.int .u8) fun c=>.ret (.bool (dK c))):=
 bV (ee Tryz.func104) fun c _ _=>g0 (sc mN (sc mO (sc zy sn))) a0 Tryz.func104 (Db c)
theorem wR:an Tryz.prog 139 (pf .str 102 fun s=>.ret (.bool (cw bT s))):=
 DB (ee Tryz.func139) fun s hs _=>g0 (sc mN (sc mO (sc uU sn))) ⟨[(4,fun S0=>⟨Nat,fun k=>k<=s.length/\cw bT s=(s.drop k).all fun c=>dK (bI c),fun k=>[(22,.int .i64 k)],fun _=>[],fun k=>s.length - k⟩)],[],[]⟩ Tryz.func139 (zl s hs)
theorem wS:an Tryz.prog 139 (pf .str 103 fun s=>.ret (.bool (cw bY s))):=
 DB (ee Tryz.func139) fun s hs _=>g0 (sc mN (sc mO (sc uU sn))) ⟨[(4,fun S0=>⟨Nat,fun k=>k<=s.length/\cw bY s=(s.drop k).all fun c=>dK (bI c),fun k=>[(22,.int .i64 k)],fun _=>[],fun k=>s.length - k⟩)],[],[]⟩ Tryz.func139 (zm s hs)
theorem BZ:an Tryz.prog 105 (p1 .str fun s=>.ret (.bool (lS s))):=
 bV (ee Tryz.func105) fun s _ _=>g0 sn a0 Tryz.func105 (Dc s)
theorem qo:an Tryz.prog 96 (p1 .str fun s=>.ret (.bool (bZ s))):=
 bV (ee Tryz.func96) fun s _ _=>g0 (sc wR (sc BZ sn)) a0 Tryz.func96 (Dd s)
theorem rL:an Tryz.prog 97 (p1 .str fun s=>.ret (.bool (fb s))):=
 bV (ee Tryz.func97) fun s _ _=>g0 (sc wS sn) a0 Tryz.func97 (BI s)
theorem wT:an Tryz.prog 141 (p1 (.lst .str) fun a=>⟨none,none,.fn 181 [.ptr 1 0],[(1,.box (.lst .str a none))]⟩):=
 bV (ee Tryz.func141) fun a _ _=>g0 sn a0 Tryz.func141 (zn a)
theorem qp:an Tryz.prog 60 (p1 (.int .u64) fun n=>.ret (.int .i64 (aR n))):=
 bV (ee Tryz.func60) fun n _ _=>g0 (sc (zj) sn) a0 Tryz.func60 (zo n)
theorem kf:an Tryz.prog 28 (p1 (.int .u64) fun n=>.ret (.str (bQ n))):=
 bV (ee Tryz.func28) fun n _ _=>g1 nn (fun _=>[]) nn (fun d=>Nat.beq d 9 || Nat.beq d 18 || Nat.beq d 32 || Nat.beq d 5014) nn (sc qp sn) ⟨[(7,fun S0=>⟨Nat,fun j=>(j:Int)<=aR n,fun j=>[(5,.int .i64 (aR n - 1 - j)),(4,.glst (1+j) (jZ n j).length 14)],fun j=>[(14,.grow (.int .u8) (1+j) (jZ n j))],fun j=>(aR n).toNat - j⟩)],[],[]⟩ Tryz.func28 (wE n)
theorem rM:an Tryz.prog 29 (p1 .str fun s=>⟨some (s.length<=140737488355328),none,.str (b7 s),[]⟩):=
 bV (ee Tryz.func29) fun s _ ho=>g0 (sc kf sn) a0 Tryz.func29 (BJ s (ho _ rfl))
theorem zB:an Tryz.prog 30 (p1 (.lst .str) fun l=>⟨some ((cM l).length<=140737488355328),none,.str (cM l),[]⟩):=
 bV (ee Tryz.func30) fun l hl ho=>g0 (sc kf (sc rM (sc (zi) (sc (wz) sn)))) ⟨[(4,fun S0=>⟨Nat,fun k=>k<=l.length,fun k=>[(13,.int .i64 k)],fun k=>[(3,.bld 127 5 (bQ l.length++(l.take k).flatMap b7))],fun k=>l.length - k⟩)],[],[]⟩ Tryz.func30 (BK l hl (ho _ rfl))
theorem zC:an Tryz.prog 95 (Ed):=
 D1 (ee Tryz.func95) fun s p b ho=>g0 sn a0 Tryz.func95 (BL s p b ho)
theorem mP:an Tryz.prog 65 (p2 .str (.int .i64) fun s p=>.ret (.tup [.int .u64 (aj s p).1,.int .i64 (aj s p).2.1,.int .i64 (aj s p).2.2])):=
 eF (ee Tryz.func65) fun s p hs _ _=>g0 (sc zC (sc qp sn)) ⟨[(10,fun S0=>⟨Nat,fun k=>(k:Int)<=bD (ad s p).1,fun k=>[(32,.int .i64 k),(10,.int .u64 (bg s k (bB (ad s p).1,(ad s p).2.1,(ad s p).2.2)).1)],fun k=>[(3,.box (.int .i64 (bg s k (bB (ad s p).1,(ad s p).2.1,(ad s p).2.2)).2.1)),(7,.box (.bool (bg s k (bB (ad s p).1,(ad s p).2.1,(ad s p).2.2)).2.2))],fun k=>(bD (ad s p).1).toNat - k⟩)],[],[(100009,fun S0=>⟨[(10,.int .u64 (bB (ad s p).1)),(11,.int .i64 (bD (ad s p).1))],[]⟩)]⟩ Tryz.func65 (BM s p hs)
theorem qq:an Tryz.prog 66 (p2 .str (.int .i64) fun s p=>.ret (.tup [.str (aT s p).1,.int .i64 (aT s p).2.1,.int .i64 (aT s p).2.2])):=
 eF (ee Tryz.func66) fun s p hs _ _=>g0 (sc mP sn) a0 Tryz.func66 (zp s p hs)
theorem wU:an Tryz.prog 67 (p2 .str (.int .i64) fun s p=>⟨some (s.length<=1099511627776),none,.tup [.lst .str (bc s p).1 none,.int .i64 (bc s p).2.1,.int .i64 (bc s p).2.2],[]⟩):=
 eF (ee Tryz.func67) fun s p hs _ ho=>g0 (sc mP (sc qq sn)) ⟨[(5,fun S0=>⟨Nat × Int × List Str × Int,fun x=>AtS s x.2.2.2/\(s.length:Int)+1<=x.1+x.2.2.2/\InU x.2.1/\(wL x.2.2.1:Int)<=x.2.2.2/\ca s x.1 x.2.1 x.2.2.1 x.2.2.2=bc s p,fun x=>[(7,.int .u64 x.2.1),(9,.lst .str x.2.2.1 (some 701)),(1,.int .i64 x.2.2.2)],fun x=>[(701,.tail .str x.2.2.1.length)],fun x=>x.1⟩)],[],[]⟩ Tryz.func67 (zq s p hs (ho _ rfl))
theorem wV:an Tryz.prog 98 (p1 (.lst .str) fun l=>⟨some (l.length *16<=140737488355328),none,.bool (dq l),[]⟩):=
 bV (ee Tryz.func98) fun l _ ho=>g0 (sc wT (sc (wg) (sc qo (sc (ur) sn)))) ⟨[(2,fun S0=>⟨Nat,fun k=>k<=l.length/\l.all bZ=(l.drop k).all bZ,fun k=>[(8,.int .i64 k)],fun _=>[],fun k=>l.length - k⟩)],[],[]⟩ Tryz.func98 (zr l (ho _ rfl))
theorem uV:an Tryz.prog 73 (p1 (.st .op) fun o=>⟨some (o.names.length *16<=140737488355328),none,.bool (bL o),[]⟩):=
 bV (ee Tryz.func73) fun o _ ho=>g0 (sc qo (sc rL (sc wV sn))) ⟨[],[],[(100012,fun S0=>⟨[(9,.bool (is8 o.kind))],[]⟩),(100021,fun S0=>⟨[(38,.bool (isB o.kind))],[]⟩),(100024,fun S0=>⟨[(44,.bool (isU o.kind))],[]⟩),(100027,fun S0=>⟨[(50,.bool (isR o.kind))],[]⟩),(100032,fun S0=>⟨[(6,.int .i64 (toN o))],[]⟩)]⟩ Tryz.func73 (wF o (ho _ rfl))
theorem zD:an Tryz.prog 72 (p1 (.st .op) fun o=>.ret (.tup [.int .i64 (aY o).1,.int .i64 (aY o).2])):=
 bV (ee Tryz.func72) fun o _ _=>g1 nn (fun _=>[]) nn (fun d=>Nat.beq d 17) nn sn ⟨[],[],[(100008,fun S0=>⟨[(6,.bool (is6 o.kind))],[]⟩),(100019,fun S0=>⟨[(27,.bool (is4 o.kind))],[]⟩),(100026,fun S0=>⟨[(38,.bool (is2 o.kind))],[]⟩)]⟩ Tryz.func72 (BN o)
theorem zE:an Tryz.prog 71 (BD):=
 BE (ee Tryz.func71) fun l n tgt s ho=>g0 sn a0 Tryz.func71 (BO l n tgt s ho)
theorem wW:an Tryz.prog 39 (Ee):=
 D5 (ee Tryz.func39) fun code k bs n ho=>g1 nn (fun _=>[]) nn (fun d=>Nat.beq d 87 || Nat.beq d 88 || Nat.beq d 126 || Nat.beq d 162 || Nat.beq d 172 || Nat.beq d 178 || Nat.beq d 229) nn (sc zE (sc zD (sc uV sn))) ⟨[(5,fun S0=>⟨Nat,fun j=>j<=aF code k+1,fun j=>[(40,.int .i64 j)],fun j=>[(37,.box (.row (.st .stt) (cJ (aF code k+1) j)))],fun j=>aF code k+1 - j⟩),(13,fun S0=>⟨Nat × List Stt × List Stt,fun x=>x.1<=aF code k/\x.2.1.length=aF code k+1/\x.2.2.length=code.length/\cO code k (bs.getD k.toNat default) (aF code k) ((cP code k).ops.drop x.1) x.1 x.2.1 x.2.2=bU code k bs,fun x=>[(55,.int .i64 x.1)],fun x=>[(37,.box (.row (.st .stt) x.2.1)),(901,.box (.row (.st .stt) x.2.2))],fun x=>aF code k - x.1⟩),(46,fun S0=>kO S0 55 fun i0=>D6 S0 37 12 fun l0 s0=>⟨Nat × List Stt,fun x=>x.1<=((cP code k).ops.getD i0.toNat default).tos.length/\x.2.length=aF code k+1/\cb i0 (aF code k) s0 (((cP code k).ops.getD i0.toNat default).tos.drop x.1) x.2=cb i0 (aF code k) s0 ((cP code k).ops.getD i0.toNat default).tos l0,fun x=>[(234,.int .i64 x.1)],fun x=>[(37,.box (.row (.st .stt) x.2))],fun x=>((cP code k).ops.getD i0.toNat default).tos.length - x.1⟩)],[],[(100051,fun S0=>Ef S0 fun i l b=>([(15,.bool (gF code k (bs.getD k.toNat default) (aF code k) i ((cP code k).ops.getD i.toNat default) l b)),(10,.int .i64 i)],[(12,.box (.st .stt (sF (aF code k) i ((cP code k).ops.getD i.toNat default) l))),(37,.box (.row (.st .stt) (lF (aF code k) i ((cP code k).ops.getD i.toNat default) l))),(901,.box (.row (.st .stt) (bF code k (bs.getD k.toNat default) (aF code k) i ((cP code k).ops.getD i.toNat default) l b)))]))]⟩ Tryz.func39 (zt code k bs n ho)
theorem nz:an Tryz.prog 19 (p2 (.lst (.st .chunk)) (.int .i64) fun l n=>⟨some (kK l),none,.int .i64 (iw l n),[]⟩):=
 eF (ee Tryz.func19) fun l n hl _ ho=>g0 (sc wW sn) ⟨[(6,fun S0=>⟨Nat × Int,fun x=>x.1<=l.length/\0<=x.2/\x.2<=4096/\bz (l.drop x.1) x.2=bz l 0/\∀j:Nat,j < x.1→(l.getD j default).ops.length<=4096,fun x=>[(36,.int .i64 x.1),(5,.int .i64 x.2)],fun _=>[],fun x=>l.length - x.1⟩),(14,fun S0=>⟨Nat,fun k=>k<=l.length,fun k=>[(73,.int .i64 k)],fun k=>[(65,.box (.row (.st .stt) (cJ l.length k)))],fun k=>l.length - k⟩),(20,fun S0=>⟨Nat × List Stt,fun x=>x.1<=l.length/\x.2.length=l.length/\lk l (l.length - x.1) x.1 x.2=lk l l.length 0 (bg0 l.length n),fun x=>[(93,.int .i64 x.1)],fun x=>[(65,.box (.row (.st .stt) x.2))],fun x=>l.length - x.1⟩)],[],[]⟩ Tryz.func19 (wG l n hl (ho _ rfl))
theorem uW:an Tryz.prog 35 (D8 tkA):=
 y5 (ee Tryz.func35) fun s p b _=>g0 (sc mP sn) a0 Tryz.func35 (De s p b)
theorem Dq:an Tryz.prog 36 (D8 opA):=
 y5 (ee Tryz.func36) fun s p b ho=>g0 (sc uW (sc qq (sc wU sn))) ⟨[(12,fun S0=>⟨Nat × Int × List Int × Int × Bool,fun x=>AtS s x.2.2.2.1/\x.2.1<=9223372036854775807/\bW s x.2.2.2.1 x.2.2.2.2<=x.1/\(x.2.2.1.length:Int)<=x.2.2.2.1+aB x.2.2.2.2 1/\toL s x.1 x.2.1 x.2.2.1 x.2.2.2.1 x.2.2.2.2=op6 s p b,fun x=>[(8,.int .i64 x.2.1)],fun x=>[(3,.box (.agg [.int .i64 (op1 s p b).1,.int .i64 (op2 s p b).1,.str (op3 s p b).1,.lst .str (op4 s p b).1 none,.lst (.int .i64) x.2.2.1 (some 701),.int .i64 0])),(900,.box (.agg [.str s,.int .i64 x.2.2.2.1,.bool x.2.2.2.2])),(701,.tail (.int .i64) x.2.2.1.length)],fun x=>x.1⟩)],[],[]⟩ Tryz.func36 (Eh s p b (ho _ rfl))
theorem zF:an Tryz.prog 27 (p1 (.int .i64) fun n=>.ret (.str (b6 n))):=
 bV (ee Tryz.func27) fun n _ _=>g1 nn (fun _=>[]) nn (fun d=>Nat.beq d 4) nn (sc kf sn) a0 Tryz.func27 (BP n)
theorem nA:an Tryz.prog 15 (p1 (.lst (.st .chunk)) fun l=>⟨some (kK l),none,.tup [.str (db l).1,.int .i64 (db l).2],[]⟩):=
 bV (ee Tryz.func15) fun l hl ho=>g0 (sc (nz) (sc zF (sc rM (sc zB sn)))) ⟨[(6,fun S0=>⟨Nat,fun k=>k<=l.length,fun k=>[(21,.int .i64 k),(5,.str (prC l k))],fun k=>[],fun k=>l.length - k⟩),(10,fun S0=>kO S0 21 fun k0=>⟨Nat,fun j=>j<=(l.getD k0.toNat default).ops.length,fun j=>[(40,.int .i64 j),(5,.str (prC l k0.toNat++prO (l.getD k0.toNat default) j))],fun _=>[],fun j=>(l.getD k0.toNat default).ops.length - j⟩),(14,fun S0=>kO S0 21 fun k0=>kO S0 40 fun j0=>⟨Nat,fun i=>i<=((l.getD k0.toNat default).ops.getD j0.toNat default).tos.length,fun i=>[(72,.int .i64 i),(5,.str (prC l k0.toNat++prO (l.getD k0.toNat default) j0.toNat++prT ((l.getD k0.toNat default).ops.getD j0.toNat default) i))],fun _=>[],fun i=>((l.getD k0.toNat default).ops.getD j0.toNat default).tos.length - i⟩)],[],[]⟩ Tryz.func15 (wH l hl (ho _ rfl))
theorem nB:an Tryz.prog 17 (p1 .str fun s=>⟨some (s.length<=68719476736),none,.tup [.lst (.st .chunk) (dD s).1 none,.int .i64 (dD s).2],[]⟩):=
 bV (ee Tryz.func17) fun s _ ho=>g0 (sc uW (sc Dq (sc nA sn))) ⟨[(4,fun S0=>⟨Nat × Int × List Chnk × Int × Bool,fun x=>AtS s x.2.2.2.1/\x.2.1<=9223372036854775807/\bW s x.2.2.2.1 x.2.2.2.2<=x.1/\(wCs x.2.2.1:Int)<=x.2.2.2.1+aB x.2.2.2.2 4/\chL s x.1 x.2.1 x.2.2.1 x.2.2.2.1 x.2.2.2.2=dB s,fun x=>[(6,.int .i64 x.2.1),(5,.lst (.st .chunk) x.2.2.1 (some 702))],fun x=>[(13,.box (.agg [.str s,.int .i64 x.2.2.2.1,.bool x.2.2.2.2])),(702,.tail (.st .chunk) x.2.2.1.length)],fun x=>x.1⟩),(8,fun S0=>D9 S0 13 fun p0 b0=>kO S0 8 fun k0=>Da S0 7 fun a0=>⟨Nat × Int × List Opn × Int × Bool,fun x=>AtS s x.2.2.2.1/\x.2.1<=9223372036854775807/\bW s x.2.2.2.1 x.2.2.2.2<=x.1/\(wOs x.2.2.1:Int)<=x.2.2.2.1+aB x.2.2.2.2 3/\cr s x.1 x.2.1 x.2.2.1 x.2.2.2.1 x.2.2.2.2=cr s (s.length+2) k0 [] p0 b0,fun x=>[(8,.int .i64 x.2.1)],fun x=>[(7,.box (.agg [.int .i64 a0,.lst (.st .op) x.2.2.1 (some 701)])),(13,.box (.agg [.str s,.int .i64 x.2.2.2.1,.bool x.2.2.2.2])),(701,.tail (.st .op) x.2.2.1.length)],fun x=>x.1⟩)],[],[]⟩ Tryz.func17 (wI s (ho _ rfl))
end Go.AL.Seat
end
noncomputable section
namespace Go.AL.Seat
open Go Go.AL Go.Proofs Go.Shelf Go.Pd
variable [Tabs]
def Ej (t:Str):Bool:=!t.isEmpty && decide (t.length<=15) && t.all fun c=>decide (48<=c.toNat) && decide (c.toNat<=57)
theorem Dr {t:Str} (h:Ej t=true):rq t:=by
 unfold Ej at h
 simp only [Bool.and_eq_true,Bool.not_eq_true',decide_eq_true_eq,List.all_eq_true] at h
 exact ⟨fun e=>(by rw [e] at h;exact absurd h.1.1 (by decide)),h.1.2,h.2⟩
def rN:List (Nat × Pat):=
 [(143,p1 .str fun s=>.ret (.tup [.int .i32 ((ju s).1:Int),.int .i64 ((ju s).2:Int)])),
  (156,p2 .str (.int .u8) fun a c=>.ret (.int .i64 (AX a c))),
  (108,q2 .str .str (fun _ b=>decide (b=pM)) fun a _=>.str (pN a)),
  (151,q2 .str .str (fun a b=>decide (b=[45]) && decide (a.length < 4294967281)) fun a _=>.tup [.str (iv a),.str (lf a),.bool (mH a)]),
  (152,q2 .str .str (fun a b=>decide (b=[46]) && decide (a.length < 4294967281)) fun a _=>.lst .str (splitB 46 a) none),
  (158,q2 .str .str (fun _ b=>decide (b.length=1)) fun a b=>.bool (decide (b.getD 0 0∈a))),
  (154,q1 .str Ej fun t=>.tup [.int .i64 (kT t),.nilif]),
  (96,p1 .str fun s=>.ret (.bool (bZ s))),(97,p1 .str fun s=>.ret (.bool (fb s)))]
theorem qt [SeatLaid]:bK Tryz.prog (fV rN):=
 sc pT (sc qQ (sc (rz Be fun _ _ h=>Xo h)
  (sc (rz CT fun _ _ h=>by rw [Bool.and_eq_true] at h;exact ⟨Xo h.1,Xo h.2⟩)
  (sc (rz za fun _ _ h=>by rw [Bool.and_eq_true] at h;exact ⟨Xo h.1,Xo h.2⟩)
  (sc (rz sZ fun _ _ h=>Xo h) (sc (Bu Bd fun _ h=>Dr h)
  (sc qo (sc rL sn))))))))
end Go.AL.Seat
end
noncomputable section
namespace Go.AL.Seat
open Go Go.AL Go.Proofs
variable [Tabs]
def ar:List (Nat × TR):=[(3,r2),(9,r9),(26,⟨.strct false [(0,3),(1,9),(2,9),(3,3),(4,22),(5,22),(6,23),(7,24),(8,3)],9,152,[.int .i64 0,.str [],.str [],.int .i64 0,.nils,.nils,.nils,.nils,.int .i64 0],some (.st .term)⟩),(49,⟨.strct false [(0,3),(1,9),(2,9),(3,22),(4,23)],5,88,[.int .i64 0,.str [],.str [],.nils,.nils],some (.st .shape)⟩),(168,⟨.strct false [(0,166)],4,48,[.nils,.int .i64 0,.int .i64 0,.int .i64 0],some (.st .par)⟩),(22,⟨.slice 9,1,24,[.nils],some (.lst .str)⟩),(163,⟨.ptr 168,1,8,[.nilp],none⟩),(5,r5),(200,ze),(162,⟨.strct true [(0,3),(1,9),(2,3)],3,32,[.int .i64 0,.str [],.int .i64 0],some (.st .token)⟩),(60,⟨.strct false [(0,3),(1,3),(2,9),(3,22),(4,58),(5,3)],6,88,[.int .i64 0,.int .i64 0,.str [],.nils,.nils,.int .i64 0],some (.st .op)⟩),(24,⟨.slice 26,1,24,[.nils],some (.lst (.st .term))⟩),(23,⟨.slice 49,1,24,[.nils],some (.lst (.st .shape))⟩),(55,⟨.strct true [(0,32),(1,3)],2,16,[.int .i64 0,.int .i64 0],some (.st .fault)⟩),(71,r70),(61,⟨.slice 60,1,24,[.nils],some (.lst (.st .op))⟩),(156,CZ),(4,⟨.bool,1,1,[.bool false],some .bool⟩),(154,CY),(69,⟨.slice 73,1,24,[.nils],some (.lst (.st .nm))⟩),(32,r2),(166,⟨.strct false [(0,102),(1,3),(2,55)],4,48,[.nils,.int .i64 0,.int .i64 0,.int .i64 0],some (.st .par)⟩),(58,⟨.slice 3,1,24,[.nils],some (.lst (.int .i64))⟩),(31,⟨.slice 63,1,24,[.nils],some (.lst (.st .chunk))⟩),(102,⟨.slice 162,1,24,[.nils],some (.lst (.st .token))⟩),(189,⟨.strct true [(0,3),(1,3),(2,3),(3,9)],4,40,[.int .i64 0,.int .i64 0,.int .i64 0,.str []],some (.st .version)⟩),(152,⟨.ptr 156,1,8,[.nilp],none⟩),(63,⟨.strct false [(0,3),(1,61)],2,32,[.int .i64 0,.nils],some (.st .chunk)⟩),(68,r67),(1,r1),(73,⟨.strct true [(0,9),(1,9)],2,32,[.str [],.str []],some (.st .nm)⟩),(122,⟨.slice 5,1,24,[.nils],some (.lst (.int .u8))⟩),(195,r1),(51,⟨.strct false [(0,9),(1,9),(2,49)],7,120,[.str [],.str [],.int .i64 0,.str [],.str [],.nils,.nils],some (.st .bind)⟩),(66,⟨.ptr 31,1,8,[.nilp],none⟩),(227,⟨.arr 3 3,3,24,[.int .i64 0,.int .i64 0,.int .i64 0],none⟩),(21,r21),(268,zf),(27,⟨.slice 51,1,24,[.nils],some (.lst (.st .bind))⟩),(110,r1),(203,r1),(46,r1),(20,r20),(267,zf),(199,ze),(48,⟨.strct false [(0,3),(1,9),(2,9),(3,22),(4,23)],5,88,[.int .i64 0,.str [],.str [],.nils,.nils],none⟩),(188,⟨.strct true [(0,3),(1,3),(2,3),(3,9)],4,40,[.int .i64 0,.int .i64 0,.int .i64 0,.str []],none⟩),(165,⟨.strct false [(0,102),(1,3),(2,55)],4,48,[.nils,.int .i64 0,.int .i64 0,.int .i64 0],none⟩),(167,⟨.strct false [(0,166)],4,48,[.nils,.int .i64 0,.int .i64 0,.int .i64 0],none⟩),(161,⟨.strct true [(0,3),(1,9),(2,3)],3,32,[.int .i64 0,.str [],.int .i64 0],none⟩),(155,CZ),(153,CY),(59,⟨.strct false [(0,3),(1,3),(2,9),(3,22),(4,58),(5,3)],6,88,[.int .i64 0,.int .i64 0,.str [],.nils,.nils,.int .i64 0],none⟩),(67,r67),(72,⟨.strct true [(0,9),(1,9)],2,32,[.str [],.str []],none⟩),(50,⟨.strct false [(0,9),(1,9),(2,49)],7,120,[.str [],.str [],.int .i64 0,.str [],.str [],.nils,.nils],none⟩),(70,r70),(62,⟨.strct false [(0,3),(1,61)],2,32,[.int .i64 0,.nils],none⟩),(54,⟨.strct true [(0,32),(1,3)],2,16,[.int .i64 0,.int .i64 0],none⟩),(25,⟨.strct false [(0,3),(1,9),(2,9),(3,3),(4,22),(5,22),(6,23),(7,24),(8,3)],9,152,[.int .i64 0,.str [],.str [],.int .i64 0,.nils,.nils,.nils,.nils,.int .i64 0],none⟩)]
theorem uX:aH Tryz.prog ar:=.cons tk (.cons tk (.cons tk (.cons tk (.cons tk (.cons tk (.cons tk (.cons tk (.cons tk (.cons tk (.cons tk (.cons tk (.cons tk (.cons tk (.cons tk (.cons tk (.cons tk (.cons tk (.cons tk (.cons tk (.cons tk (.cons tk (.cons tk (.cons tk (.cons tk (.cons tk (.cons tk (.cons tk (.cons tk (.cons tk (.cons tk (.cons tk (.cons tk (.cons tk (.cons tk (.cons tk (.cons tk (.cons tk (.cons tk (.cons tk (.cons tk (.cons tk (.cons tk (.cons tk (.cons tk (.cons tk (.cons tk (.cons tk (.cons tk (.cons tk (.cons tk (.cons tk (.cons tk (.cons tk (.cons tk (.cons tk (.cons tk (.cons tk (.cons tk (.cons tk (.nil))))))))))))))))))))))))))))))))))))))))))))))))))))))))))))
end Go.AL.Seat
end
noncomputable section
namespace Go.AL.Seat
open Go Go.AL Go.Proofs
set_option maxRecDepth 1000000
variable [Tabs]
def Ca (f:Nat):List (Option Nat):=if Nat.beq f 74 || Nat.beq f 75 then [some 2] else []
def Cb (f:Nat):Bool:=false
def qu:List (Nat × FB):=(21,au ar Tryz.f21 4362109181 [] (fun _=>false) (fun _=>false) (fun _=>false) false) ::(11,au ar Tryz.f11 15746551 [] (fun _=>false) (fun _=>false) (fun _=>false) false) ::(13,au ar Tryz.f13 2361185502030729349235 [] (fun _=>false) (fun _=>false) (fun d=>Nat.beq d 70) false) ::(40,au ar Tryz.f40 77975715369647181664879229 [] (fun _=>false) (fun _=>false) (fun _=>false) false) ::(41,au ar Tryz.f41 9016029707634675 [] (fun _=>false) (fun _=>false) (fun _=>false) false) ::(42,au ar Tryz.f42 531 [] (fun _=>false) (fun _=>false) (fun _=>false) false) ::(22,au ar Tryz.f22 74783 [] (fun _=>false) (fun _=>false) (fun _=>false) false) ::(23,au ar Tryz.f23 686032242260302265618932259388129843 [] (fun _=>false) (fun _=>false) (fun d=>Nat.beq d 27 || Nat.beq d 43 || Nat.beq d 59 || Nat.beq d 71 || Nat.beq d 83 || Nat.beq d 91 || Nat.beq d 93 || Nat.beq d 101 || Nat.beq d 108 || Nat.beq d 137 || Nat.beq d 148 || Nat.beq d 158) false) ::(26,au ar Tryz.f26 288266660035428415 [] (fun _=>false) (fun _=>false) (fun _=>false) false) ::(74,au ar Tryz.f74 65555 [] (fun _=>false) (fun _=>false) (fun _=>false) false) ::(75,au ar Tryz.f75 4294967347 [] (fun _=>false) (fun _=>false) (fun _=>false) false) ::(76,au ar Tryz.f76 5 [] (fun _=>false) (fun _=>false) (fun _=>false) false) ::(77,au ar Tryz.f77 8388935 [] (fun _=>false) (fun _=>false) (fun _=>false) false) ::(78,au ar Tryz.f78 87112288527988523651034566703108870643455 [] (fun _=>false) (fun _=>false) (fun d=>Nat.beq d 21) false) ::(79,au ar Tryz.f79 33816627 [] (fun _=>false) (fun _=>false) (fun _=>false) false) ::(80,au ar Tryz.f80 5 [] (fun _=>false) (fun _=>false) (fun _=>false) false) ::(81,au ar Tryz.f81 268439557 [] (fun _=>false) (fun _=>false) (fun _=>false) false) ::(82,au ar Tryz.f82 81129648086015544455969055506495 [] (fun _=>false) (fun _=>false) (fun _=>false) false) ::(83,au ar Tryz.f83 263 [] (fun _=>false) (fun _=>false) (fun _=>false) false) ::(43,au ar Tryz.f43 2223863 [] (fun _=>false) (fun _=>false) (fun _=>false) false) ::(44,au ar Tryz.f44 7 [] (fun _=>false) (fun _=>false) (fun _=>false) false) ::(45,au ar Tryz.f45 19 [] (fun _=>false) (fun _=>false) (fun _=>false) false) ::(46,au ar Tryz.f46 4294975539 [] (fun _=>false) (fun _=>false) (fun _=>false) false) ::(47,au ar Tryz.f47 8444249301320051 [] (fun _=>false) (fun _=>false) (fun d=>Nat.beq d 39) false) ::(48,au ar Tryz.f48 51 [] (fun _=>false) (fun _=>false) (fun d=>Nat.beq d 22 || Nat.beq d 39 || Nat.beq d 49 || Nat.beq d 68) false) ::(49,au ar Tryz.f49 37138201178561408728010064627 [] (fun _=>false) (fun _=>false) (fun d=>Nat.beq d 24 || Nat.beq d 31 || Nat.beq d 62 || Nat.beq d 78 || Nat.beq d 106) false) ::(50,au ar Tryz.f50 7 [] (fun _=>false) (fun _=>false) (fun _=>false) false) ::(51,au ar Tryz.f51 467 [] (fun _=>false) (fun _=>false) (fun _=>false) false) ::(52,au ar Tryz.f52 302379064902644767129997 [] (fun _=>false) (fun _=>false) (fun d=>Nat.beq d 27) false) ::(59,au ar Tryz.f59 33571891 [] (fun _=>false) (fun _=>false) (fun _=>false) false) ::(99,au ar Tryz.f99 549890048253 [] (fun _=>false) (fun _=>false) (fun _=>false) false) ::(100,au ar Tryz.f100 71 [] (fun _=>false) (fun _=>false) (fun _=>false) false) ::(101,au ar Tryz.f101 79 [] (fun _=>false) (fun _=>false) (fun _=>false) false) ::(102,au ar Tryz.f102 5 [] (fun _=>false) (fun _=>false) (fun _=>false) false) ::(103,au ar Tryz.f103 5 [] (fun _=>false) (fun _=>false) (fun _=>false) false) ::(104,au ar Tryz.f104 5 [] (fun _=>false) (fun _=>false) (fun _=>false) false) ::(105,au ar Tryz.f105 29 [] (fun _=>false) (fun _=>false) (fun _=>false) false) ::(106,au ar Tryz.f106 5 [] (fun _=>false) (fun _=>false) (fun _=>false) false) ::(107,au ar Tryz.f107 5 [] (fun _=>false) (fun _=>false) (fun _=>false) false) ::(109,au ar Tryz.f109 151115799509488183025661 [] (fun _=>false) (fun _=>false) (fun _=>false) false) ::(110,au ar Tryz.f110 618970019647202533975261693 [] (fun _=>false) (fun _=>false) (fun _=>false) false) ::(111,au ar Tryz.f111 29 [] (fun _=>false) (fun _=>false) (fun _=>false) false) ::(112,au ar Tryz.f112 3 [] (fun d=>Nat.beq d 8) (fun _=>false) (fun _=>false) false) ::(113,au ar Tryz.f113 7 [] (fun d=>Nat.beq d 15) (fun _=>false) (fun _=>false) false) ::(116,au ar Tryz.f116 275 [] (fun _=>false) (fun _=>false) (fun _=>false) false) ::(114,au ar Tryz.f114 131 [] (fun _=>false) (fun _=>false) (fun _=>false) false) ::(118,au ar Tryz.f118 7 [] (fun _=>false) (fun _=>false) (fun _=>false) false) ::(117,au ar Tryz.f117 271375 [] (fun _=>false) (fun _=>false) (fun _=>false) false) ::(120,au ar Tryz.f120 32819 [] (fun _=>false) (fun _=>false) (fun _=>false) false) ::(121,au ar Tryz.f121 15 [] (fun _=>false) (fun _=>false) (fun _=>false) false) ::(122,au ar Tryz.f122 17180524607 [] (fun _=>false) (fun _=>false) (fun _=>false) false) ::(84,au ar Tryz.f84 3537148372723500476506894142080440715070649430595550180525943565456506895 [] (fun _=>false) (fun _=>false) (fun _=>false) false) ::(85,au ar Tryz.f85 27 [] (fun _=>false) (fun _=>false) (fun _=>false) false) ::(86,au ar Tryz.f86 21 [] (fun _=>false) (fun _=>false) (fun _=>false) false) ::(87,au ar Tryz.f87 5 [] (fun _=>false) (fun _=>false) (fun _=>false) false) ::(153,au ar Tryz.f153 5 [] (fun _=>false) (fun _=>false) (fun _=>false) false) ::(155,au ar Tryz.f155 9316337836119 [] (fun _=>false) (fun _=>false) (fun _=>false) false) ::(157,au ar Tryz.f157 5 [] (fun _=>false) (fun _=>false) (fun _=>false) false) ::(115,au ar Tryz.f115 2228285 [] (fun _=>false) (fun _=>false) (fun _=>false) false) ::(161,au ar Tryz.f161 51 [] (fun _=>false) (fun _=>false) (fun _=>false) false) ::(119,au ar Tryz.f119 65587 [] (fun _=>false) (fun _=>false) (fun _=>false) false) ::(163,au ar Tryz.f163 23945973599159813139139346461134680183357916012085311 [] (fun _=>false) (fun _=>false) (fun _=>false) false) ::(164,au ar Tryz.f164 3 [] (fun d=>Nat.beq d 8) (fun _=>false) (fun _=>false) false) ::(123,au ar Tryz.f123 7 [] (fun _=>false) (fun _=>false) (fun _=>false) false) ::(124,au ar Tryz.f124 27 [] (fun _=>false) (fun _=>false) (fun _=>false) false) ::(125,au ar Tryz.f125 7 [] (fun _=>false) (fun _=>false) (fun _=>false) false) ::(126,au ar Tryz.f126 2098133 [] (fun _=>false) (fun _=>false) (fun _=>false) false) ::(127,au ar Tryz.f127 13 [] (fun _=>false) (fun _=>false) (fun _=>false) false) ::(128,au ar Tryz.f128 27 [] (fun _=>false) (fun _=>false) (fun _=>false) false) ::(130,au ar Tryz.f130 15 [] (fun _=>false) (fun _=>false) (fun _=>false) false) ::(129,au ar Tryz.f129 19 [] (fun _=>false) (fun _=>false) (fun _=>false) false) ::(190,au ar Tryz.f190 18014398524686365 [] (fun _=>false) (fun _=>false) (fun _=>false) false) ::(159,au ar Tryz.f159 324677087359430077278579446644799 [] (fun d=>Nat.beq d 129) (fun _=>false) (fun _=>false) false) ::(160,au ar Tryz.f160 299063 [] (fun _=>false) (fun _=>false) (fun _=>false) false) ::(162,au ar Tryz.f162 19 [] (fun _=>false) (fun _=>false) (fun _=>false) false) ::(201,au ar Tryz.f201 3 [] (fun d=>Nat.beq d 23) (fun _=>false) (fun _=>false) false) ::(202,au ar Tryz.f202 13 [] (fun _=>false) (fun _=>false) (fun _=>false) false) ::(166,au ar Tryz.f166 15 [] (fun _=>false) (fun _=>false) (fun _=>false) false) ::(165,au ar Tryz.f165 19 [] (fun _=>false) (fun _=>false) (fun _=>false) false) ::(167,au ar Tryz.f167 7 [] (fun _=>false) (fun _=>false) (fun _=>false) false) ::(141,au ar Tryz.f141 7 [] (fun _=>false) (fun _=>false) (fun _=>false) false) ::(170,au ar Tryz.f170 11 [] (fun _=>false) (fun _=>false) (fun _=>false) false) ::(169,au ar Tryz.f169 19 [] (fun _=>false) (fun _=>false) (fun _=>false) false) ::(171,au ar Tryz.f171 66483 [] (fun _=>false) (fun _=>false) (fun _=>false) false) ::(193,au ar Tryz.f193 7 [] (fun d=>Nat.beq d 21) (fun _=>false) (fun _=>false) false) ::(195,au ar Tryz.f195 149971 [] (fun _=>false) (fun _=>false) (fun _=>false) false) ::(196,au ar Tryz.f196 3 [] (fun d=>Nat.beq d 8) (fun _=>false) (fun _=>false) false) ::(197,au ar Tryz.f197 31 [] (fun _=>false) (fun _=>false) (fun _=>false) false) ::(198,au ar Tryz.f198 2159703 [] (fun _=>false) (fun _=>false) (fun _=>false) false) ::(199,au ar Tryz.f199 10141204803006463002229839257615 [] (fun _=>false) (fun _=>false) (fun _=>false) false) ::(200,au ar Tryz.f200 66483 [] (fun _=>false) (fun _=>false) (fun _=>false) false) ::(203,au ar Tryz.f203 66483 [] (fun _=>false) (fun _=>false) (fun _=>false) false) ::(181,au ar Tryz.f181 16883 [] (fun _=>false) (fun _=>false) (fun _=>false) false) ::(205,au ar Tryz.f205 66483 [] (fun _=>false) (fun _=>false) (fun _=>false) false) ::(194,au ar Tryz.f194 5 [] (fun _=>false) (fun _=>false) (fun _=>false) false) ::(226,au ar Tryz.f226 33071 [] (fun _=>false) (fun _=>false) (fun _=>false) false) ::(228,au ar Tryz.f228 17 [] (fun _=>false) (fun _=>false) (fun _=>false) false) ::(227,au ar Tryz.f227 246479 [] (fun _=>false) (fun _=>false) (fun _=>false) false) ::(229,au ar Tryz.f229 4444215 [] (fun _=>false) (fun _=>false) (fun _=>false) false) ::(230,au ar Tryz.f230 5 [] (fun _=>false) (fun _=>false) (fun _=>false) false) ::[]
theorem nC:ab Tryz.prog qu:=ab.cons Tryz.func21 (by kernel_rfl) (ab.cons Tryz.func11 (by kernel_rfl) (ab.cons Tryz.func13 (by kernel_rfl) (ab.cons Tryz.func40 (by kernel_rfl) (ab.cons Tryz.func41 (by kernel_rfl) (ab.cons Tryz.func42 (by kernel_rfl) (ab.cons Tryz.func22 (by kernel_rfl) (ab.cons Tryz.func23 (by kernel_rfl) (ab.cons Tryz.func26 (by kernel_rfl) (ab.cons Tryz.func74 (by kernel_rfl) (ab.cons Tryz.func75 (by kernel_rfl) (ab.cons Tryz.func76 (by kernel_rfl) (ab.cons Tryz.func77 (by kernel_rfl) (ab.cons Tryz.func78 (by kernel_rfl) (ab.cons Tryz.func79 (by kernel_rfl) (ab.cons Tryz.func80 (by kernel_rfl) (ab.cons Tryz.func81 (by kernel_rfl) (ab.cons Tryz.func82 (by kernel_rfl) (ab.cons Tryz.func83 (by kernel_rfl) (ab.cons Tryz.func43 (by kernel_rfl) (ab.cons Tryz.func44 (by kernel_rfl) (ab.cons Tryz.func45 (by kernel_rfl) (ab.cons Tryz.func46 (by kernel_rfl) (ab.cons Tryz.func47 (by kernel_rfl) (ab.cons Tryz.func48 (by kernel_rfl) (ab.cons Tryz.func49 (by kernel_rfl) (ab.cons Tryz.func50 (by kernel_rfl) (ab.cons Tryz.func51 (by kernel_rfl) (ab.cons Tryz.func52 (by kernel_rfl) (ab.cons Tryz.func59 (by kernel_rfl) (ab.cons Tryz.func99 (by kernel_rfl) (ab.cons Tryz.func100 (by kernel_rfl) (ab.cons Tryz.func101 (by kernel_rfl) (ab.cons Tryz.func102 (by kernel_rfl) (ab.cons Tryz.func103 (by kernel_rfl) (ab.cons Tryz.func104 (by kernel_rfl) (ab.cons Tryz.func105 (by kernel_rfl) (ab.cons Tryz.func106 (by kernel_rfl) (ab.cons Tryz.func107 (by kernel_rfl) (ab.cons Tryz.func109 (by kernel_rfl) (ab.cons Tryz.func110 (by kernel_rfl) (ab.cons Tryz.func111 (by kernel_rfl) (ab.cons Tryz.func112 (by kernel_rfl) (ab.cons Tryz.func113 (by kernel_rfl) (ab.cons Tryz.func116 (by kernel_rfl) (ab.cons Tryz.func114 (by kernel_rfl) (ab.cons Tryz.func118 (by kernel_rfl) (ab.cons Tryz.func117 (by kernel_rfl) (ab.cons Tryz.func120 (by kernel_rfl) (ab.cons Tryz.func121 (by kernel_rfl) (ab.cons Tryz.func122 (by kernel_rfl) (ab.cons Tryz.func84 (by kernel_rfl) (ab.cons Tryz.func85 (by kernel_rfl) (ab.cons Tryz.func86 (by kernel_rfl) (ab.cons Tryz.func87 (by kernel_rfl) (ab.cons Tryz.func153 (by kernel_rfl) (ab.cons Tryz.func155 (by kernel_rfl) (ab.cons Tryz.func157 (by kernel_rfl) (ab.cons Tryz.func115 (by kernel_rfl) (ab.cons Tryz.func161 (by kernel_rfl) (ab.cons Tryz.func119 (by kernel_rfl) (ab.cons Tryz.func163 (by kernel_rfl) (ab.cons Tryz.func164 (by kernel_rfl) (ab.cons Tryz.func123 (by kernel_rfl) (ab.cons Tryz.func124 (by kernel_rfl) (ab.cons Tryz.func125 (by kernel_rfl) (ab.cons Tryz.func126 (by kernel_rfl) (ab.cons Tryz.func127 (by kernel_rfl) (ab.cons Tryz.func128 (by kernel_rfl) (ab.cons Tryz.func130 (by kernel_rfl) (ab.cons Tryz.func129 (by kernel_rfl) (ab.cons Tryz.func190 (by kernel_rfl) (ab.cons Tryz.func159 (by kernel_rfl) (ab.cons Tryz.func160 (by kernel_rfl) (ab.cons Tryz.func162 (by kernel_rfl) (ab.cons Tryz.func201 (by kernel_rfl) (ab.cons Tryz.func202 (by kernel_rfl) (ab.cons Tryz.func166 (by kernel_rfl) (ab.cons Tryz.func165 (by kernel_rfl) (ab.cons Tryz.func167 (by kernel_rfl) (ab.cons Tryz.func141 (by kernel_rfl) (ab.cons Tryz.func170 (by kernel_rfl) (ab.cons Tryz.func169 (by kernel_rfl) (ab.cons Tryz.func171 (by kernel_rfl) (ab.cons Tryz.func193 (by kernel_rfl) (ab.cons Tryz.func195 (by kernel_rfl) (ab.cons Tryz.func196 (by kernel_rfl) (ab.cons Tryz.func197 (by kernel_rfl) (ab.cons Tryz.func198 (by kernel_rfl) (ab.cons Tryz.func199 (by kernel_rfl) (ab.cons Tryz.func200 (by kernel_rfl) (ab.cons Tryz.func203 (by kernel_rfl) (ab.cons Tryz.func181 (by kernel_rfl) (ab.cons Tryz.func205 (by kernel_rfl) (ab.cons Tryz.func194 (by kernel_rfl) (ab.cons Tryz.func226 (by kernel_rfl) (ab.cons Tryz.func228 (by kernel_rfl) (ab.cons Tryz.func227 (by kernel_rfl) (ab.cons Tryz.func229 (by kernel_rfl) (ab.cons Tryz.func230 (by kernel_rfl) (ab.nil))))))))))))))))))))))))))))))))))))))))))))))))))))))))))))))))))))))))))))))))))))))))))))))))))))
end Go.AL.Seat
end
