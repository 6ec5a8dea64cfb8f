/- What the functions' conditions say, proved. No condition. -/
import Derived.Test.YtdmbjejhifjhbaaGreatDoorT19
set_option linter.unusedVariables false
set_option linter.unusedSimpArgs false
set_option linter.unnecessarySimpa false
set_option linter.deprecated false
set_option linter.unusedSectionVars false
set_option maxRecDepth 100000
section
open Go Go.AL Go.Pd
namespace Go.AL.Seat
namespace C2v
def A0 (s:Str):=List.length s<=(4096:Nat)
def B0:=(0:Int)
def C0 (s:Str):=(↑(List.length s):Int)
def D0:=(Ty.st SN.token)
def E0 (s:Str)(c:SC):=(AV.agg [AV.str s,AV.int IntKind.i64 c.pos,AV.lst D0 c.out (some (901:Nat)),AV.int IntKind.i64 c.err,AV.int IntKind.i64 c.fat])
def H0:=True
def I0 (s:Str)(c:SC):=(cut s c.pos (c.pos+(↑(ae bA s c.pos):Int)))
def J0 (n:Nat)(c:SC):=n=List.length c.out
def K0:=(1:Nat)
def L0 (n:Nat)(c:SC):=((J0 n c)/\(n+K0)*(32:Nat)<=(140737488355328:Nat))
def M0 (s:Str)(c:SC):=(aX s c)
def N0 (s:Str)(c:SC):=true=(M0 s c).1
def O0 (s:Str)(c:SC):=(fT (5:Int) (I0 s c) c.pos {pos:=c.pos+(↑(ae bA s c.pos):Int),out:=c.out,err:=c.err,fat:=c.fat:SC})
def P0 (n:Nat)(s:Str)(c:SC):=n+K0=List.length (M0 s c).2.out/\H0
def Q0 (s:Str)(c:SC):=(fT (1:Int) (I0 s c) c.pos {pos:=c.pos+(↑(ae bA s c.pos):Int),out:=c.out,err:=c.err,fat:=c.fat:SC})
def R0 (s:Str)(c:SC):=(fT (2:Int) (I0 s c) c.pos {pos:=c.pos+(↑(ae bA s c.pos):Int),out:=c.out,err:=c.err,fat:=c.fat:SC})
def S0 (c:SC)(s:Str):=(ek (60:Int) c.pos {pos:=c.pos+(↑(ae bA s c.pos):Int),out:=c.out,err:=c.err,fat:=c.fat:SC})
def T0 (s:Str)(c:SC)(n:Nat):=((A0 s)/\B0<=c.pos/\c.pos<=(C0 s))/\if j9 (I0 s c)=true then (L0 n c)/\H0/\(N0 s c)/\s=s/\(O0 s c).2.pos=(M0 s c).2.pos/\(O0 s c).2.out=(M0 s c).2.out/\(O0 s c).2.err=(M0 s c).2.err/\(O0 s c).2.fat=(M0 s c).2.fat/\(P0 n s c) else if aU (I0 s c)=true then (L0 n c)/\H0/\(N0 s c)/\s=s/\(Q0 s c).2.pos=(M0 s c).2.pos/\(Q0 s c).2.out=(M0 s c).2.out/\(Q0 s c).2.err=(M0 s c).2.err/\(Q0 s c).2.fat=(M0 s c).2.fat/\(P0 n s c) else if cZ (I0 s c)=true then (L0 n c)/\H0/\(N0 s c)/\s=s/\(R0 s c).2.pos=(M0 s c).2.pos/\(R0 s c).2.out=(M0 s c).2.out/\(R0 s c).2.err=(M0 s c).2.err/\(R0 s c).2.fat=(M0 s c).2.fat/\(P0 n s c) else (J0 n c)/\H0/\false=(M0 s c).1/\s=s/\(S0 c s).2.pos=(M0 s c).2.pos/\(S0 c s).2.out=(M0 s c).2.out/\(S0 c s).2.err=(M0 s c).2.err/\(S0 c s).2.fat=(M0 s c).2.fat/\List.length (S0 c s).2.out=List.length (M0 s c).2.out/\H0
def U0 (s:Str)(c:SC):=(cut s c.pos (c.pos+(↑(ae aF s c.pos):Int)))
def V0 (s:Str)(c:SC):=(fT (3:Int) (U0 s c) c.pos {pos:=c.pos+(↑(ae aF s c.pos):Int),out:=c.out,err:=c.err,fat:=c.fat:SC})
def W0 (n:Nat)(c:SC)(s:Str):=(L0 n c)/\H0/\(N0 s c)/\s=s/\(V0 s c).2.pos=(M0 s c).2.pos/\(V0 s c).2.out=(M0 s c).2.out/\(V0 s c).2.err=(M0 s c).2.err/\(V0 s c).2.fat=(M0 s c).2.fat/\(P0 n s c)
def X0 (s:Str)(c:SC):=(fT (7:Int) (U0 s c) c.pos {pos:=c.pos+(↑(ae aF s c.pos):Int),out:=c.out,err:=c.err,fat:=c.fat:SC})
def Y0 (c:SC)(s:Str):=(ek (60:Int) c.pos {pos:=c.pos+(↑(ae aF s c.pos):Int),out:=c.out,err:=c.err,fat:=c.fat:SC})
def Z0 (s:Str)(c:SC)(n:Nat):=List.length (U0 s c)<=(4096:Nat)/\if decide ((bY (U0 s c)).2=B0)=true then (L0 n c)/\H0/\(N0 s c)/\s=s/\(X0 s c).2.pos=(M0 s c).2.pos/\(X0 s c).2.out=(M0 s c).2.out/\(X0 s c).2.err=(M0 s c).2.err/\(X0 s c).2.fat=(M0 s c).2.fat/\(P0 n s c) else (J0 n c)/\H0/\false=(M0 s c).1/\s=s/\(Y0 c s).2.pos=(M0 s c).2.pos/\(Y0 c s).2.out=(M0 s c).2.out/\(Y0 c s).2.err=(M0 s c).2.err/\(Y0 c s).2.fat=(M0 s c).2.fat/\List.length (Y0 c s).2.out=List.length (M0 s c).2.out/\H0
def A1 (s:Str)(c:SC):=(cH s c)
def B1 (s:Str)(c:SC):=(fT (4:Int) (A1 s c).1 c.pos (A1 s c).2.2)
def C1 (x:Nat)(s:Str)(c:SC):=(x<=(2:Nat)/\(x<=K0→ff s c.pos (2:Int)=false)/\(x=(0:Nat)→ff s c.pos (1:Int)=false))
def D1 (x:Nat):=(↑x:Int)
def E1:=false=false
def H1 (s:Str)(c:SC)(n:Nat):=bAt s (c.pos+B0)=bAt s (c.pos+B0)/\E1/\E1/\E1/\s=s/\c.pos=c.pos/\c.out=c.out/\c.err=c.err/\c.fat=c.fat/\n=n/\c.pos=c.pos/\H0
def I1 (c:SC)(x:Nat):=inR IntKind.i64 (c.pos+(D1 x))
def J1 (c:SC)(x:Nat)(s:Str):=(B0<=c.pos/\c.pos<=c.pos+(D1 x)/\c.pos+(D1 x)<=(C0 s))
def K1 (c:SC)(x:Nat)(s:Str):=(List.drop (Int.toNat c.pos) (List.take (Int.toNat (c.pos+(D1 x))) s))
def L1 (c:SC)(x:Nat)(s:Str):=(fT (6:Int) (K1 c x s) c.pos {pos:=c.pos+(D1 x),out:=c.out,err:=c.err,fat:=c.fat:SC})
def M1 (x:Nat)(s:Str)(c:SC)(n:Nat):=inR IntKind.i64 ((D1 x) - (1:Int))/\∃(y:Nat),(C1 y s c)/\y<x/\(D1 x) - (1:Int)=(D1 y)/\(H1 s c n)
def N1 (c:SC):=(ek (60:Int) c.pos c)
end C2v
open C2v in
theorem CV (s:Str) (c:SC) (n:Nat) (ho:n=c.out.length/\n<=4096/\s.length<=4096/\0<=c.pos/\c.pos<=(s.length:Int)/\c.pos < (s.length:Int)) :
  (((A0 s)/\B0<=c.pos/\c.pos<=(C0 s)/\B0<=B0/\B0<=(2:Int))/\SObj.box (E0 s c)=SObj.box (E0 s c)/\SObj.tail D0 n=SObj.tail D0 n/\H0)/\if bJ (bAt s (c.pos+B0))=true then (T0 s c n) else if bP (bAt s (c.pos+B0))=true then (T0 s c n) else if aM (bAt s (c.pos+B0))=true then ((A0 s)/\B0<=c.pos/\c.pos<=(C0 s))/\([48,49,50,51,52,53,54,55,56,57]:Str)=pw/\if decide ((↑(List.length (mr (U0 s c))):Int)=B0)=true then if decide ((↑(List.length (U0 s c)):Int)<=(15:Int))=true then if decide (cut s c.pos (c.pos+(↑(ae aF s c.pos):Int))=([48]:Str))=true then (W0 n c s) else (B0<=B0/\B0<(↑(List.length (U0 s c)):Int))/\if (!decide ((↑(UInt8.toNat (List.getD (U0 s c) (Int.toNat B0) (0:UInt8))):Int)=(48:Int)))=true then (W0 n c s) else (Z0 s c n) else (Z0 s c n) else (Z0 s c n) else if decide (bAt s (c.pos+B0)=(34:Int))=true then ((J0 n c)/\n<=(4096:Nat)/\(A0 s)/\B0<=c.pos/\c.pos<=(C0 s)/\c.pos<(C0 s))/\if (A1 s c).2.1=true then (List.length (A1 s c).2.2.out=List.length (A1 s c).2.2.out/\(List.length (A1 s c).2.2.out+K0)*(32:Nat)<=(140737488355328:Nat))/\H0/\(N0 s c)/\s=s/\(B1 s c).2.pos=(M0 s c).2.pos/\(B1 s c).2.out=(M0 s c).2.out/\(B1 s c).2.err=(M0 s c).2.err/\(B1 s c).2.fat=(M0 s c).2.fat/\List.length (A1 s c).2.2.out+K0=List.length (M0 s c).2.out/\H0 else H0/\false=(M0 s c).1/\s=s/\(A1 s c).2.2.pos=(M0 s c).2.pos/\(A1 s c).2.2.out=(M0 s c).2.out/\(A1 s c).2.2.err=(M0 s c).2.err/\(A1 s c).2.2.fat=(M0 s c).2.fat/\List.length (A1 s c).2.2.out=List.length (M0 s c).2.out/\H0 else (∃(x:Nat),(C1 x s c)/\(2:Int)=(D1 x)/\(H1 s c n))/\∀(x:Nat),x<=(2:Nat)/\(x<=K0→ff s c.pos (2:Int)=false)/\(x=(0:Nat)→ff s c.pos (1:Int)=false)→if decide (B0<(D1 x))=true then (I1 c x)/\if decide (c.pos+(D1 x)<=(C0 s))=true then (I1 c x)/\(J1 c x s)/\if fS (K1 c x s)=true then (I1 c x)/\(J1 c x s)/\(L0 n c)/\H0/\(N0 s c)/\s=s/\(L1 c x s).2.pos=(M0 s c).2.pos/\(L1 c x s).2.out=(M0 s c).2.out/\(L1 c x s).2.err=(M0 s c).2.err/\(L1 c x s).2.fat=(M0 s c).2.fat/\(P0 n s c) else (M1 x s c n) else (M1 x s c n) else (J0 n c)/\H0/\false=(M0 s c).1/\s=s/\(N1 c).2.pos=(M0 s c).2.pos/\(N1 c).2.out=(M0 s c).2.out/\(N1 c).2.err=(M0 s c).2.err/\(N1 c).2.fat=(M0 s c).2.fat/\List.length (N1 c).2.out=List.length (M0 s c).2.out/\H0:=by
 delta N1 M1 L1 K1 J1 I1 H1 E1 D1 C1 B1 A1 Z0 Y0 X0 W0 V0 U0 T0 S0 R0 Q0 P0 O0 N0 M0 L0 K0 J0 I0 H0 E0 D0 C0 B0 A0
 obtain ⟨ho1,ho2,ho3,ho4,ho5,ho6⟩:=ho
 have e0:c.pos+0=c.pos:=Int.add_zero _
 have hout:∀(k:Int) (t:Str) (e:Int),n+1=(fT k t c.pos (ce c e)).2.out.length:=fun k t e=>by
  show n+1=(c.out++[_]).length
  rw [List.length_append,List.length_singleton,ho1]
 have hwr:=du (pr:=bA) ho4 ho5
 have hwl:=du (pr:=aF) ho4 ho5
 simp only [e0]
 refine ⟨⟨⟨by omega,by omega,by omega,by omega,by omega⟩,(by first | rfl | trivial),(by first | rfl | trivial),trivial⟩,a6 (fun a=>?_) (fun a=>?_)⟩
 ·have hw:aX s c=uN (cut s c.pos (c.pos+(ae bA s c.pos:Int))) (c.pos+(ae bA s c.pos:Int)) c:=by unfold aX;rw [if_pos (.inl a)]
  unfold uN at hw
  refine ⟨⟨by omega,by omega,by omega⟩,a6 (fun h=>?_) (fun h=>?_)⟩
  ·rw [if_pos h] at hw
   rw [hw]
   refine ⟨⟨ho1,by omega⟩,trivial,?_⟩
   repeat (first | exact trivial | exact ⟨hout _ _ _,trivial⟩ | refine ⟨by first | rfl | trivial,?_⟩)
  rw [if_neg h] at hw
  refine a6 (fun i=>?_) (fun i=>?_)
  ·rw [if_pos i] at hw
   rw [hw]
   refine ⟨⟨ho1,by omega⟩,trivial,?_⟩
   repeat (first | exact trivial | exact ⟨hout _ _ _,trivial⟩ | refine ⟨by first | rfl | trivial,?_⟩)
  rw [if_neg i] at hw
  refine a6 (fun j=>?_) (fun j=>?_)
  ·rw [if_pos j] at hw
   rw [hw]
   refine ⟨⟨ho1,by omega⟩,trivial,?_⟩
   repeat (first | exact trivial | exact ⟨hout _ _ _,trivial⟩ | refine ⟨by first | rfl | trivial,?_⟩)
  rw [if_neg j] at hw
  rw [hw]
  refine ⟨ho1,trivial,?_⟩
  exact Xr
 refine a6 (fun b=>?_) (fun b=>?_)
 ·have hw:aX s c=uN (cut s c.pos (c.pos+(ae bA s c.pos:Int))) (c.pos+(ae bA s c.pos:Int)) c:=by unfold aX;rw [if_pos (.inr b)]
  unfold uN at hw
  refine ⟨⟨by omega,by omega,by omega⟩,a6 (fun h=>?_) (fun h=>?_)⟩
  ·rw [if_pos h] at hw
   rw [hw]
   refine ⟨⟨ho1,by omega⟩,trivial,?_⟩
   repeat (first | exact trivial | exact ⟨hout _ _ _,trivial⟩ | refine ⟨by first | rfl | trivial,?_⟩)
  rw [if_neg h] at hw
  refine a6 (fun i=>?_) (fun i=>?_)
  ·rw [if_pos i] at hw
   rw [hw]
   refine ⟨⟨ho1,by omega⟩,trivial,?_⟩
   repeat (first | exact trivial | exact ⟨hout _ _ _,trivial⟩ | refine ⟨by first | rfl | trivial,?_⟩)
  rw [if_neg i] at hw
  refine a6 (fun j=>?_) (fun j=>?_)
  ·rw [if_pos j] at hw
   rw [hw]
   refine ⟨⟨ho1,by omega⟩,trivial,?_⟩
   repeat (first | exact trivial | exact ⟨hout _ _ _,trivial⟩ | refine ⟨by first | rfl | trivial,?_⟩)
  rw [if_neg j] at hw
  rw [hw]
  refine ⟨ho1,trivial,?_⟩
  exact Xr
 have hn1:¬(bJ (bAt s c.pos)=true∨bP (bAt s c.pos)=true):=fun e=>e.elim a b
 refine a6 (fun d=>?_) (fun d=>?_)
 ·have hw:aX s c=zg (cut s c.pos (c.pos+(ae aF s c.pos:Int))) (c.pos+(ae aF s c.pos:Int)) c:=by unfold aX;rw [if_neg hn1,if_pos d]
  unfold zg at hw
  have hcl:=pM (s:=s) ho4 (b:=c.pos+(ae aF s c.pos:Int)) (by omega) hwl
  have hne:=cp (pr:=aF) ho4 ho6 (by rw [li ho6] at d;unfold aF;rw [d,Bool.or_true];rfl)
  have htr:=te (cut s c.pos (c.pos+(ae aF s c.pos:Int)))
  have hall:∀x:Str,(x.all fun c=>aM (bI c))=x.all cx:=fun _=>rfl
  have hnt:fo (cut s c.pos (c.pos+(ae aF s c.pos:Int)))=((cut s c.pos (c.pos+(ae aF s c.pos:Int))).all cx && decide ((cut s c.pos (c.pos+(ae aF s c.pos:Int))).length<=15) && (decide (cut s c.pos (c.pos+(ae aF s c.pos:Int))=[48]) || !decide (bI ((cut s c.pos (c.pos+(ae aF s c.pos:Int))).getD 0 0)=48))):=rfl
  refine ⟨⟨by omega,by omega,by omega⟩,(by first | rfl | trivial),?_⟩
  have eb:∀b:UInt8,(b.toNat:Int)=bI b:=fun _=>rfl
  simp only [eb,Int.toNat_zero]
  generalize cut s c.pos (c.pos+(ae aF s c.pos:Int))=t at hw hcl htr hnt ⊢
  refine a6 (fun f=>?_) (fun f=>?_)
  ·have f1:t.all cx=true:=htr.1 (List.eq_nil_of_length_eq_zero (by have:=Xo f;omega))
   refine a6 (fun g=>?_) (fun g=>?_)
   ·have g1:=Xo g
    refine a6 (fun i=>?_) (fun i=>?_)
    ·have hnum:fo t=true:=by rw [hnt,f1,Xd (p:=t.length<=15) (by omega),i];rfl
     rw [hnum,if_pos rfl] at hw
     rw [hw]
     refine ⟨⟨ho1,by omega⟩,trivial,?_⟩
     repeat (first | exact trivial | exact ⟨hout _ _ _,trivial⟩ | refine ⟨by first | rfl | trivial,?_⟩)
    ·rw [Bool.not_eq_true] at i
     refine ⟨⟨by omega,by omega⟩,a6 (fun j=>?_) (fun j=>?_)⟩
     ·have hnum:fo t=true:=by rw [hnt,f1,Xd (p:=t.length<=15) (by omega),j,Bool.or_true];rfl
      rw [hnum,if_pos rfl] at hw
      rw [hw]
      refine ⟨⟨ho1,by omega⟩,trivial,?_⟩
      repeat (first | exact trivial | exact ⟨hout _ _ _,trivial⟩ | refine ⟨by first | rfl | trivial,?_⟩)
     ·rw [Bool.not_eq_true] at j
      have hnum:fo t=false:=by rw [hnt,i,j,Bool.or_false,Bool.and_false]
      rw [hnum,if_neg Bool.false_ne_true] at hw
      refine ⟨by omega,a6 (fun z=>?_) (fun z=>?_)⟩
      ·rw [if_pos (Xo z)] at hw
       rw [hw]
       refine ⟨⟨ho1,by omega⟩,trivial,?_⟩
       repeat (first | exact trivial | exact ⟨hout _ _ _,trivial⟩ | refine ⟨by first | rfl | trivial,?_⟩)
      ·rw [if_neg (fun e=>z (Xd e))] at hw
       rw [hw]
       refine ⟨ho1,trivial,?_⟩
       exact Xr
   ·have g1:¬(t.length:Int)<=15:=fun e=>g (Xd e)
    have hnum:fo t=false:=by rw [hnt,Xf (p:=t.length<=15) (by omega),Bool.and_false,Bool.false_and]
    rw [hnum,if_neg Bool.false_ne_true] at hw
    refine ⟨by omega,a6 (fun z=>?_) (fun z=>?_)⟩
    ·rw [if_pos (Xo z)] at hw
     rw [hw]
     refine ⟨⟨ho1,by omega⟩,trivial,?_⟩
     repeat (first | exact trivial | exact ⟨hout _ _ _,trivial⟩ | refine ⟨by first | rfl | trivial,?_⟩)
    ·rw [if_neg (fun e=>z (Xd e))] at hw
     rw [hw]
     refine ⟨ho1,trivial,?_⟩
     exact Xr
  ·have f1:t.all cx=false:=by
    rw [Bool.eq_false_iff]
    intro e
    refine f (Xd ?_)
    rw [htr.2 e]
    rfl
   have hnum:fo t=false:=by rw [hnt,f1,Bool.false_and,Bool.false_and]
   rw [hnum,if_neg Bool.false_ne_true] at hw
   refine ⟨by omega,a6 (fun z=>?_) (fun z=>?_)⟩
   ·rw [if_pos (Xo z)] at hw
    rw [hw]
    refine ⟨⟨ho1,by omega⟩,trivial,?_⟩
    repeat (first | exact trivial | exact ⟨hout _ _ _,trivial⟩ | refine ⟨by first | rfl | trivial,?_⟩)
   ·rw [if_neg (fun e=>z (Xd e))] at hw
    rw [hw]
    refine ⟨ho1,trivial,?_⟩
    exact Xr
 refine a6 (fun q=>?_) (fun q=>?_)
 ·have q:=Xo q
  have hw:aX s c=zh c.pos (cH s c):=by unfold aX;rw [if_neg hn1,if_neg d,if_pos q]
  obtain ⟨q1,q2,q3⟩:=fh s c.pos (s.length+2) [] (ce c (c.pos+1)) (by show 0<=c.pos+1;omega) (by show c.pos+1<=_;omega)
  have q1':(cH s c).2.2.out=c.out:=q1
  unfold zh at hw
  refine ⟨⟨ho1,ho2,ho3,ho4,ho5,ho6⟩,a6 (fun r=>?_) (fun r=>?_)⟩
  ·rw [if_pos r] at hw
   rw [hw]
   refine ⟨⟨by trivial,by rw [q1'];omega⟩,trivial,?_⟩
   repeat (first | exact trivial | refine ⟨by first | rfl | trivial | (show _=(_++[_]).length;rw [List.length_append,List.length_singleton]),?_⟩)
  ·rw [if_neg r] at hw
   rw [hw]
   refine ⟨trivial,?_⟩
   exact Xr
 have q:¬bAt s c.pos=34:=fun e=>q (Xd e)
 have hw:aX s c=wE s c:=by unfold aX;rw [if_neg hn1,if_neg d,if_neg q]
 refine ⟨⟨2,⟨by omega,fun e=>by omega,fun e=>by omega⟩,?_⟩,?_⟩
 ·exact Xr
 rintro k ⟨h1,h2,h3⟩
 have hcut:∀k:Int,List.drop (Int.toNat c.pos) (List.take (Int.toNat (c.pos+k)) s)=cut s c.pos (c.pos+k):=fun _=>rfl
 simp only [hcut]
 refine a6 (fun f=>?_) (fun f=>?_)
 ·have f:=Xo f
  have hk:k=2∨k=1:=by omega
  have hsa:ff s c.pos (k:Int)=(decide (c.pos+(k:Int)<=(s.length:Int)) && fS (cut s c.pos (c.pos+(k:Int)))):=rfl
  refine ⟨ak (by omega) (by omega),a6 (fun g=>?_) (fun g=>?_)⟩
  ·have g1:=Xo g
   refine ⟨ak (by omega) (by omega),⟨by omega,by omega,by omega⟩,a6 (fun i=>?_) (fun i=>?_)⟩
   ·rw [g,i] at hsa
    have hw:aX s c=fT 6 (cut s c.pos (c.pos+(k:Int))) c.pos (ce c (c.pos+(k:Int))):=by
     rw [hw]
     unfold wE
     rcases hk with rfl | rfl
     ·rw [if_pos (show ff s c.pos 2=true from hsa)];rfl
     ·rw [if_neg (by rw [h2 (by omega)];exact Bool.false_ne_true),if_pos (show ff s c.pos 1=true from hsa)];rfl
    rw [hw]
    refine ⟨ak (by omega) (by omega),⟨by omega,by omega,by omega⟩,⟨ho1,by omega⟩,trivial,?_⟩
    repeat (first | exact trivial | exact ⟨hout _ _ _,trivial⟩ | refine ⟨by first | rfl | trivial,?_⟩)
   ·rw [Bool.not_eq_true] at i
    have hmiss:ff s c.pos (k:Int)=false:=by rw [hsa,i,Bool.and_false]
    have hmiss:=hmiss
    ·refine ⟨ak (by omega) (by omega),k - 1,⟨by omega,fun _=>?_,fun _=>?_⟩,by omega,by omega,?_⟩
     ·rcases hk with rfl | rfl
      ·exact hmiss
      ·exact h2 (by omega)
     ·have:k=1:=by omega
      subst this
      exact hmiss
     ·exact Xr
  ·have hmiss:ff s c.pos (k:Int)=false:=by rw [hsa,Xf (fun e=>g (Xd e)),Bool.false_and]
   have hmiss:=hmiss
   ·refine ⟨ak (by omega) (by omega),k - 1,⟨by omega,fun _=>?_,fun _=>?_⟩,by omega,by omega,?_⟩
    ·rcases hk with rfl | rfl
     ·exact hmiss
     ·exact h2 (by omega)
    ·have:k=1:=by omega
     subst this
     exact hmiss
    ·exact Xr
 ·have hk:k=0:=by
   have:¬(0:Int) < (k:Int):=fun e=>f (Xd e)
   omega
  have hw:aX s c=ek 60 c.pos c:=by
   rw [hw]
   unfold wE
   rw [if_neg (by rw [h2 (by omega)];exact Bool.false_ne_true),if_neg (by rw [h3 hk];exact Bool.false_ne_true)]
  rw [hw]
  refine ⟨ho1,trivial,?_⟩
  exact Xr
end Go.AL.Seat
end
section
open Go Go.AL Go.Pd
namespace Go.AL.Seat
namespace C2w
def A0 (s:Str):=(↑(List.length s):Int)
def B0 (x:Nat × SC):=(↑(List.length x.2.out):Int)<=x.2.pos
def C0:=(0:Int)
def D0 (x:Nat × SC):=C0<=x.2.pos
def E0 (x:Nat × SC)(s:Str):=x.2.pos<=(A0 s)
def H0 (x:Nat × SC)(s:Str):=((B0 x)/\(A0 s)<x.2.pos+(↑x.1:Int)/\(D0 x)/\(E0 x s)/\aB s=fe s x.1 x.2)
def I0:=false=false
def J0:=C0=C0/\C0=C0/\True
def K0 (s:Str):=List.length s<=(4096:Nat)
def L0 (x:Nat × SC):=List.length x.2.out=List.length x.2.out
def M0 (s:Str):=[{kind:=C0,text:=[],pos:=(A0 s):Tokn}]
def N0 (x:Nat × SC):=(x.2.pos+C0)
def O0 (x:Nat × SC)(s:Str):=inR IntKind.i64 (x.2.pos+(1:Int))/\∃(y:Nat × SC),(H0 y s)/\y.1<x.1/\s=s/\I0/\s=s/\x.2.pos+(1:Int)=y.2.pos/\x.2.out=y.2.out/\x.2.err=y.2.err/\x.2.fat=y.2.fat/\List.length x.2.out=List.length y.2.out/\J0
def P0 (s:Str)(x:Nat × SC):=(↑(ae cd s x.2.pos):Int)
def Q0 (s:Str)(x:Nat × SC):=(dB s x.2.pos (x.2.pos+(P0 s x)) {pos:=x.2.pos+(P0 s x),out:=x.2.out,err:=x.2.err,fat:=x.2.fat:SC})
def R0 (s:Str)(x:Nat × SC):=(aX s x.2)
def S0 (x:Nat × SC)(s:Str):=((L0 x)/\List.length x.2.out<=(4096:Nat)/\(K0 s)/\(D0 x)/\(E0 x s)/\x.2.pos<(A0 s))/\if (!(R0 s x).1)=true then True/\(aB s).1=[]/\(R0 s x).2.err=(aB s).2.err/\(R0 s x).2.fat=(aB s).2.pos/\True else ∃(y:Nat × SC),(H0 y s)/\y.1<x.1/\s=s/\I0/\s=s/\(R0 s x).2.pos=y.2.pos/\(R0 s x).2.out=y.2.out/\(R0 s x).2.err=y.2.err/\(R0 s x).2.fat=y.2.fat/\List.length (R0 s x).2.out=List.length y.2.out/\J0
end C2w
open C2w in
theorem HM (s:Str) (hs:Wf .str s) :
  if decide ((4096:Int)<(A0 s))=true then True/\(aB s).1=[]/\(3:Int)=(aB s).2.err/\(4096:Int)=(aB s).2.pos/\True else (∃(x:Nat × SC),(H0 x s)/\s=s/\I0/\s=s/\C0=x.2.pos/\x.2.out=[]/\C0=x.2.err/\C0=x.2.fat/\List.length x.2.out=(0:Nat)/\J0)/\∀(x:Nat × SC),(B0 x)/\(A0 s)<x.2.pos+(↑x.1:Int)/\(D0 x)/\(E0 x s)/\aB s=fe s x.1 x.2→((K0 s)/\(D0 x)/\(E0 x s)/\C0<=C0/\C0<=(2:Int))/\if decide (x.2.pos=(A0 s))=true then ((L0 x)/\(List.length x.2.out+List.length (M0 s))*(32:Nat)<=(140737488355328:Nat))/\True/\x.2.out++(M0 s)=(aB s).1/\C0=(aB s).2.err/\C0=(aB s).2.pos/\True else if decide (bAt s (N0 x)=(32:Int))=true then (O0 x s) else if decide (bAt s (N0 x)=(10:Int))=true then (O0 x s) else if decide (bAt s (N0 x)=(9:Int))=true then (O0 x s) else if decide (bAt s (N0 x)=(13:Int))=true then (O0 x s) else if decide (bAt s (N0 x)=(45:Int))=true then ((K0 s)/\(D0 x)/\(E0 x s)/\C0<=(1:Int)/\(1:Int)<=(2:Int))/\if decide (bAt s (x.2.pos+(1:Int))=(45:Int))=true then ((K0 s)/\(D0 x)/\(E0 x s))/\((L0 x)/\(K0 s)/\(D0 x)/\x.2.pos<=x.2.pos+(P0 s x)/\x.2.pos+(P0 s x)<=(A0 s))/\if (!(Q0 s x).1)=true then True/\(aB s).1=[]/\(Q0 s x).2.err=(aB s).2.err/\(Q0 s x).2.fat=(aB s).2.pos/\True else ∃(y:Nat × SC),(H0 y s)/\y.1<x.1/\s=s/\I0/\s=s/\(Q0 s x).2.pos=y.2.pos/\(Q0 s x).2.out=y.2.out/\(Q0 s x).2.err=y.2.err/\(Q0 s x).2.fat=y.2.fat/\List.length (Q0 s x).2.out=List.length y.2.out/\J0 else (S0 x s) else (S0 x s):=by
 delta S0 R0 Q0 P0 O0 N0 M0 L0 K0 J0 I0 H0 E0 D0 C0 B0 A0
 refine a6 (fun h=>?_) (fun h=>?_)
 ·have h:=Xo h
  have e:aB s=([],⟨3,4096⟩):=by unfold aB;rw [if_pos (by omega)]
  rw [e]
  exact ⟨trivial,rfl,rfl,rfl,trivial⟩
 have h:¬(4096:Int) < (s.length:Int):=fun e=>h (Xd e)
 have hs0:aB s=fe s (s.length+2) ⟨0,[],0,0⟩:=by unfold aB;rw [if_neg (by omega)]
 refine ⟨⟨(s.length+2,⟨0,[],0,0⟩),⟨by show ((0:Nat):Int)<=0;omega,by show _ < 0+((s.length+2:Nat):Int);omega,by show (0:Int)<=0;omega,by show (0:Int)<=_;omega,hs0⟩,?_⟩,?_⟩
 ·exact Xr
 rintro ⟨f,d⟩ ⟨d1,d2,d3,d4,d5⟩
 simp only at d1 d2 d3 d4 d5
 obtain ⟨f,rfl⟩:∃g,f=g+1:=⟨f - 1,by omega⟩
 rw [fe] at d5
 have e0:d.pos+0=d.pos:=Int.add_zero _
 simp only [e0]
 refine ⟨⟨by omega,by omega,by omega,by omega,by omega⟩,a6 (fun k=>?_) (fun k=>?_)⟩
 ·replace k:=Xo k
  rw [if_pos k] at d5
  rw [d5]
  refine ⟨⟨by trivial,by simp only [List.length_singleton];omega⟩,trivial,?_⟩
  exact Xr
 replace k:¬d.pos=(s.length:Int):=fun e=>k (Xd e)
 have hlt:d.pos < (s.length:Int):=by omega
 rw [if_neg k] at d5
 clear k
 refine a6 (fun k=>?_) (fun k=>?_)
 ·replace k:=Xo k
  rw [if_pos ((dV _).2 (by omega))] at d5
  refine ⟨ak (by omega) (by omega),(f,ce d (d.pos+1)),⟨by show (d.out.length:Int)<=d.pos+1;omega,by show _ < d.pos+1+(f:Int);omega,by show 0<=d.pos+1;omega,by show d.pos+1<=_;omega,d5⟩,by show f < f+1;omega,?_⟩
  exact Xr
 replace k:¬bAt s d.pos=32:=fun e=>k (Xd e)
 have k32:=k
 clear k
 refine a6 (fun k=>?_) (fun k=>?_)
 ·replace k:=Xo k
  rw [if_pos ((dV _).2 (by omega))] at d5
  refine ⟨ak (by omega) (by omega),(f,ce d (d.pos+1)),⟨by show (d.out.length:Int)<=d.pos+1;omega,by show _ < d.pos+1+(f:Int);omega,by show 0<=d.pos+1;omega,by show d.pos+1<=_;omega,d5⟩,by show f < f+1;omega,?_⟩
  exact Xr
 replace k:¬bAt s d.pos=10:=fun e=>k (Xd e)
 have k10:=k
 clear k
 refine a6 (fun k=>?_) (fun k=>?_)
 ·replace k:=Xo k
  rw [if_pos ((dV _).2 (by omega))] at d5
  refine ⟨ak (by omega) (by omega),(f,ce d (d.pos+1)),⟨by show (d.out.length:Int)<=d.pos+1;omega,by show _ < d.pos+1+(f:Int);omega,by show 0<=d.pos+1;omega,by show d.pos+1<=_;omega,d5⟩,by show f < f+1;omega,?_⟩
  exact Xr
 replace k:¬bAt s d.pos=9:=fun e=>k (Xd e)
 have k9:=k
 clear k
 refine a6 (fun k=>?_) (fun k=>?_)
 ·replace k:=Xo k
  rw [if_pos ((dV _).2 (by omega))] at d5
  refine ⟨ak (by omega) (by omega),(f,ce d (d.pos+1)),⟨by show (d.out.length:Int)<=d.pos+1;omega,by show _ < d.pos+1+(f:Int);omega,by show 0<=d.pos+1;omega,by show d.pos+1<=_;omega,d5⟩,by show f < f+1;omega,?_⟩
  exact Xr
 replace k:¬bAt s d.pos=13:=fun e=>k (Xd e)
 have k13:=k
 clear k
 have hbl:¬aH (bAt s d.pos)=true:=fun e=>by have:=(dV _).1 e;omega
 rw [if_neg hbl] at d5
 refine a6 (fun k=>?_) (fun k=>?_)
 ·replace k:=Xo k
  refine ⟨⟨by omega,by omega,by omega,by omega,by omega⟩,a6 (fun j=>?_) (fun j=>?_)⟩
  ·replace j:=Xo j
   rw [if_pos ⟨k,j⟩] at d5
   have hw:=du (pr:=cd) d3 d4
   have hp:=pN (s:=s) (a:=d.pos+1) (by omega)
   have hh:=cp (pr:=cd) d3 hlt (by rw [←li hlt,k];rfl)
   refine ⟨⟨by omega,by omega,by omega⟩,⟨by trivial,by omega,by omega,by omega,by omega⟩,?_⟩
   unfold dB
   cases hb:cU (cut s d.pos (d.pos+(ae cd s d.pos:Int))) with
   | some q=>
    rw [hb] at d5
    simp only at d5
    rw [d5]
    refine a6 (fun _=>?_) (fun e=>absurd rfl e)
    refine ⟨trivial,?_⟩
    exact Xr
   | none=>
    rw [hb] at d5
    simp only at d5
    refine a6 (fun e=>Bool.noConfusion e) (fun _=>?_)
    refine ⟨(f,ce d (d.pos+(ae cd s d.pos:Int))),⟨by show (d.out.length:Int)<=d.pos+_;omega,by show _ < d.pos+_+(f:Int);omega,by show 0<=d.pos+_;omega,hw,d5⟩,by show f < f+1;omega,?_⟩
    exact Xr
  replace j:¬bAt s (d.pos+1)=45:=fun e=>j (Xd e)
  ·refine ⟨⟨by trivial,by omega,by omega,by omega,by omega,by omega⟩,?_⟩
   have hne:¬(bAt s d.pos=45/\bAt s (d.pos+1)=45):=by omega
   rw [if_neg hne] at d5
   cases ht:(aX s d).1 with
   | false=>
    rw [ht,if_neg Bool.false_ne_true] at d5
    refine a6 (fun _=>?_) (fun e=>absurd rfl e)
    rw [d5]
    refine ⟨trivial,?_⟩
    exact Xr
   | true=>
    rw [ht,if_pos rfl] at d5
    obtain ⟨t1,t2,t3⟩:=ip d3 hlt ht
    refine a6 (fun e=>Bool.noConfusion e) (fun _=>?_)
    refine ⟨(f,(aX s d).2),⟨by show ((aX s d).2.out.length:Int)<=(aX s d).2.pos;omega,by show _ < (aX s d).2.pos+(f:Int);omega,by show 0<=(aX s d).2.pos;omega,t2,d5⟩,by show f < f+1;omega,?_⟩
    exact Xr
 replace k:¬bAt s d.pos=45:=fun e=>k (Xd e)
 ·refine ⟨⟨by trivial,by omega,by omega,by omega,by omega,by omega⟩,?_⟩
  have hne:¬(bAt s d.pos=45/\bAt s (d.pos+1)=45):=by omega
  rw [if_neg hne] at d5
  cases ht:(aX s d).1 with
  | false=>
   rw [ht,if_neg Bool.false_ne_true] at d5
   refine a6 (fun _=>?_) (fun e=>absurd rfl e)
   rw [d5]
   refine ⟨trivial,?_⟩
   exact Xr
  | true=>
   rw [ht,if_pos rfl] at d5
   obtain ⟨t1,t2,t3⟩:=ip d3 hlt ht
   refine a6 (fun e=>Bool.noConfusion e) (fun _=>?_)
   refine ⟨(f,(aX s d).2),⟨by show ((aX s d).2.out.length:Int)<=(aX s d).2.pos;omega,by show _ < (aX s d).2.pos+(f:Int);omega,by show 0<=(aX s d).2.pos;omega,t2,d5⟩,by show f < f+1;omega,?_⟩
   exact Xr
end Go.AL.Seat
end
section
open Go Go.AL Go.Pd
namespace Go.AL.Seat
namespace C2x
def A0:=(0:Int)
def B0 (l:List Tokn)(a:Int):=(cg l a)
def C0 (l:List Tokn)(a:Int):=(a7 (5000:Nat) (aQ l a))
def D0 (l:List Tokn)(a:Int):=(cv (fy (C0 l a).1) (ao (aQ l a)).pos (C0 l a).2)
def E0 (l:List Tokn)(a:Int):=A0=(B0 l a).2.2.err/\A0=(B0 l a).2.2.pos/\True
def H0 (l:List Tokn)(a:Int):=if aV (D0 l a)=true then True/\A0=(B0 l a).1.kind/\[]=(B0 l a).1.pkg/\[]=(B0 l a).1.name/\A0=(B0 l a).1.n/\(B0 l a).1.names=[]/\(B0 l a).1.vars=[]/\(B0 l a).1.shapes=[]/\(B0 l a).1.parts=[]/\A0=(B0 l a).1.pos/\A0=(B0 l a).2.1/\(D0 l a).err=(B0 l a).2.2.err/\(D0 l a).fat=(B0 l a).2.2.pos/\True else True/\(C0 l a).1=(B0 l a).1/\(D0 l a).pos=(B0 l a).2.1/\(E0 l a)
def I0 (l:List Tokn)(a:Int):=if aV (C0 l a).2=true then True/\A0=(B0 l a).1.kind/\[]=(B0 l a).1.pkg/\[]=(B0 l a).1.name/\A0=(B0 l a).1.n/\(B0 l a).1.names=[]/\(B0 l a).1.vars=[]/\(B0 l a).1.shapes=[]/\(B0 l a).1.parts=[]/\A0=(B0 l a).1.pos/\A0=(B0 l a).2.1/\(C0 l a).2.err=(B0 l a).2.2.err/\(C0 l a).2.fat=(B0 l a).2.2.pos/\True else True/\(C0 l a).1=(B0 l a).1/\(C0 l a).2.pos=(B0 l a).2.1/\(E0 l a)
end C2x
open C2x in
theorem FSq (l:List Tokn) (a:Int) (hl:Wf (.lst (.st .token)) l) (hN:dr l) :
  if aV (aQ l a)=true then True/\A0=(B0 l a).1.kind/\[]=(B0 l a).1.pkg/\[]=(B0 l a).1.name/\A0=(B0 l a).1.n/\(B0 l a).1.names=[]/\(B0 l a).1.vars=[]/\(B0 l a).1.shapes=[]/\(B0 l a).1.parts=[]/\A0=(B0 l a).1.pos/\A0=(B0 l a).2.1/\(aQ l a).err=(B0 l a).2.2.err/\(aQ l a).fat=(B0 l a).2.2.pos/\True else a8 (aQ l a)/\(a8 (aQ l a)/\rem (aQ l a)<(5000:Nat))/\if (!aV (C0 l a).2)=true then cO (C0 l a).1=true/\if decide (fy (C0 l a).1=(3:Int))=true then (H0 l a) else if decide (fy (C0 l a).1=(91:Int))=true then (H0 l a) else (I0 l a) else (I0 l a):=by
 delta I0 H0 E0 D0 C0 B0 A0
 refine a6 (fun h=>?_) (fun h=>?_)
 ·have hG:cg l a=(tc,0,⟨(aQ l a).err,(aQ l a).fat⟩):=by unfold cg;rw [if_pos h]
  rw [hG]
  exact Xr
 have b':aV (aQ l a)=false:=by simpa using h
 have g:=ke hN b'
 have hG:cg l a=Fi l a (a7 5000 (aQ l a)):=by unfold cg;rw [if_neg h]
 have hf:=(wU g.2.2.1 5000 (aQ l a) rfl).1
 refine ⟨g,⟨g,by have:=qN g;omega⟩,?_⟩
 unfold Fi at hG
 generalize a7 5000 (aQ l a)=p at hG hf ⊢
 refine a6 (fun k=>?_) (fun k=>?_)
 ·have k:aV p.2=false:=by simpa using k
  rw [if_neg (by rw [k];exact Bool.false_ne_true)] at hG
  have fin:∀q:Par,cg l a=pq tc (p.1,q)→if aV q=true then True/\(0:Int)=(cg l a).1.kind/\[]=(cg l a).1.pkg/\[]=(cg l a).1.name/\(0:Int)=(cg l a).1.n/\(cg l a).1.names=[]/\(cg l a).1.vars=[]/\(cg l a).1.shapes=[]/\(cg l a).1.parts=[]/\(0:Int)=(cg l a).1.pos/\(0:Int)=(cg l a).2.1/\q.err=(cg l a).2.2.err/\q.fat=(cg l a).2.2.pos/\True
    else True/\p.1=(cg l a).1/\q.pos=(cg l a).2.1/\(0:Int)=(cg l a).2.2.err/\(0:Int)=(cg l a).2.2.pos/\True:=by
   intro q hq
   unfold pq at hq
   refine a6 (fun j=>?_) (fun j=>?_)
   ·rw [if_pos j] at hq
    rw [hq]
    exact Xr
   ·rw [if_neg j] at hq
    rw [hq]
    exact Xr
  refine ⟨hf,a6 (fun j=>?_) (fun j=>a6 (fun i=>?_) (fun i=>?_))⟩
  ·rw [if_pos (.inl (Xo j))] at hG
   exact fin _ hG
  ·rw [if_pos (.inr (Xo i))] at hG
   exact fin _ hG
  ·rw [if_neg (fun e=>e.elim (fun e=>j (Xd e)) (fun e=>i (Xd e)))] at hG
   exact fin _ hG
 ·have k:aV p.2=true:=by simpa using k
  rw [if_pos k] at hG
  unfold pq at hG
  rw [if_pos k] at hG
  refine a6 (fun _=>?_) (fun j=>absurd k j)
  rw [hG]
  exact Xr
end Go.AL.Seat
end
section
open Go Go.AL Go.Pd
namespace Go.AL.Seat
namespace C2y
def A0:=(0:Int)
def B0 (s:Str):=A0=(fA s).1.kind
def C0 (s:Str):=[]=(fA s).1.pkg
def D0 (s:Str):=[]=(fA s).1.name
def E0 (s:Str):=(fA s).1.names=[]
def H0 (s:Str):=(fA s).1.parts=[]
def I0 (s:Str):=(bu (aB s).1 A0)
def J0 (s:Str):=dG (aB s).1 (I0 s).2.1=(fA s).2/\True
def K0 (s:Str):=(I0 s).2.2=(fA s).2/\True
end C2y
open C2y in
theorem xe (s:Str)  :
  if (!decide ((aB s).2.err=A0))=true then True/\(B0 s)/\(C0 s)/\(D0 s)/\(E0 s)/\(H0 s)/\(aB s).2=(fA s).2/\True else dr (aB s).1/\if decide ((I0 s).2.2.err=A0)=true then (A0<=(I0 s).2.1/\(I0 s).2.1<(↑(List.length (aB s).1):Int))/\if (!decide ((dG (aB s).1 (I0 s).2.1).err=A0))=true then True/\(B0 s)/\(C0 s)/\(D0 s)/\(E0 s)/\(H0 s)/\(J0 s) else True/\(I0 s).1=(fA s).1/\(J0 s) else if (!decide ((I0 s).2.2.err=A0))=true then True/\(B0 s)/\(C0 s)/\(D0 s)/\(E0 s)/\(H0 s)/\(K0 s) else True/\(I0 s).1=(fA s).1/\(K0 s):=by
 delta K0 J0 I0 H0 E0 D0 C0 B0 A0
 have e0:fA s=tq ta (fun l=>bu l 0) s:=rfl
 unfold tq at e0
 simp only at e0
 refine a6 (fun h=>?_) (fun h=>?_)
 ·have h:¬(aB s).2.err=0:=by simpa using h
  rw [if_neg h] at e0
  rw [e0]
  exact Xr
 have h:(aB s).2.err=0:=by simpa using h
 rw [if_pos h] at e0
 have hN:=rr h
 obtain ⟨l1,l2⟩:=ru h
 refine ⟨hN,a6 (fun k=>?_) (fun k=>?_)⟩
 ·replace k:=Xo k
  rw [if_pos k] at e0
  refine ⟨Cu hN l1 l2 k,a6 (fun j=>?_) (fun j=>?_)⟩
  ·have j:¬(dG (aB s).1 (bu (aB s).1 0).2.1).err=0:=by simpa using j
   rw [if_neg j] at e0
   rw [e0]
   exact Xr
  ·have j:(dG (aB s).1 (bu (aB s).1 0).2.1).err=0:=by simpa using j
   rw [if_pos j] at e0
   rw [e0]
   exact Xr
 ·have k:¬(bu (aB s).1 0).2.2.err=0:=fun e=>k (Xd e)
  rw [if_neg k] at e0
  refine a6 (fun _=>?_) (fun j=>absurd (by simp [k]) j)
  rw [e0]
  exact Xr
end Go.AL.Seat
end
section
open Go Go.AL Go.Pd
namespace Go.AL.Seat
namespace C2z
def A0:=(0:Int)
def B0 (s:Str):=(ox s)
def C0 (s:Str):=(cg (aB s).1 A0)
def D0 (s:Str):=dG (aB s).1 (C0 s).2.1=(B0 s).2/\True
end C2z
open C2z in
theorem xf (s:Str)  :
  if (!decide ((aB s).2.err=A0))=true then True/\A0=(B0 s).1.kind/\[]=(B0 s).1.pkg/\[]=(B0 s).1.name/\A0=(B0 s).1.n/\(B0 s).1.names=[]/\(B0 s).1.vars=[]/\(B0 s).1.shapes=[]/\(B0 s).1.parts=[]/\A0=(B0 s).1.pos/\(aB s).2=(B0 s).2/\True else dr (aB s).1/\if decide ((C0 s).2.2.err=A0)=true then (A0<=(C0 s).2.1/\(C0 s).2.1<(↑(List.length (aB s).1):Int))/\if (!decide ((dG (aB s).1 (C0 s).2.1).err=A0))=true then True/\A0=(B0 s).1.kind/\[]=(B0 s).1.pkg/\[]=(B0 s).1.name/\A0=(B0 s).1.n/\(B0 s).1.names=[]/\(B0 s).1.vars=[]/\(B0 s).1.shapes=[]/\(B0 s).1.parts=[]/\A0=(B0 s).1.pos/\(D0 s) else True/\(C0 s).1=(B0 s).1/\(D0 s) else if (!decide ((C0 s).2.2.err=A0))=true then True/\A0=(B0 s).1.kind/\[]=(B0 s).1.pkg/\[]=(B0 s).1.name/\A0=(B0 s).1.n/\(B0 s).1.names=[]/\(B0 s).1.vars=[]/\(B0 s).1.shapes=[]/\(B0 s).1.parts=[]/\A0=(B0 s).1.pos/\(C0 s).2.2=(B0 s).2/\True else True/\(C0 s).1=(B0 s).1/\(C0 s).2.2=(B0 s).2/\True:=by
 delta D0 C0 B0 A0
 have e0:ox s=tq tc (fun l=>cg l 0) s:=rfl
 unfold tq at e0
 simp only at e0
 refine a6 (fun h=>?_) (fun h=>?_)
 ·have h:¬(aB s).2.err=0:=by simpa using h
  rw [if_neg h] at e0
  rw [e0]
  exact Xr
 have h:(aB s).2.err=0:=by simpa using h
 rw [if_pos h] at e0
 have hN:=rr h
 obtain ⟨l1,l2⟩:=ru h
 refine ⟨hN,a6 (fun k=>?_) (fun k=>?_)⟩
 ·replace k:=Xo k
  rw [if_pos k] at e0
  refine ⟨zu hN l1 l2 k,a6 (fun j=>?_) (fun j=>?_)⟩
  ·have j:¬(dG (aB s).1 (cg (aB s).1 0).2.1).err=0:=by simpa using j
   rw [if_neg j] at e0
   rw [e0]
   exact Xr
  ·have j:(dG (aB s).1 (cg (aB s).1 0).2.1).err=0:=by simpa using j
   rw [if_pos j] at e0
   rw [e0]
   exact Xr
 ·have k:¬(cg (aB s).1 0).2.2.err=0:=fun e=>k (Xd e)
  rw [if_neg k] at e0
  refine a6 (fun _=>?_) (fun j=>absurd (by simp [k]) j)
  rw [e0]
  exact Xr
end Go.AL.Seat
end
