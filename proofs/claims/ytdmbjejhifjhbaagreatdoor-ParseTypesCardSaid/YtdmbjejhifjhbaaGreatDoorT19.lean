/- What the functions' conditions say, proved. No condition. -/
import Derived.Test.YtdmbjejhifjhbaaGreatDoorT18
set_option linter.unusedVariables false
set_option linter.unusedSimpArgs false
set_option linter.unnecessarySimpa false
set_option linter.deprecated false
set_option linter.unusedSectionVars false
set_option maxRecDepth 100000
section
open Go Go.AL Go.Pd
namespace Go.AL.Seat
namespace C26
def A0:=(0:Int)
def B0 (t:Trm):=(↑(List.length t.names):Int)
def C0 (t:Trm):=(↑(List.length t.vars):Int)
def D0 (t:Trm):=(↑(List.length t.shapes):Int)
def E0 (t:Trm):=(↑(List.length t.parts):Int)
def H0:=True
def I0 (t:Trm):=t=t/\false=false/\t=t/\(B0 t)=(B0 t)/\(C0 t)=(C0 t)/\(D0 t)=(D0 t)/\(E0 t)=(E0 t)/\H0
def J0 (t:Trm):=true=!ph t/\(I0 t)
def K0:=(1:Int)
def L0 (t:Trm):=(!List.all t.shapes dC)=!ph t/\(I0 t)
def M0 (t:Trm):=if (!decide (t.pkg=[]))=true then if (!decide (t.kind=(5:Int)))=true then (J0 t) else (L0 t) else (L0 t)
def N0 (t:Trm):=H0/\false=bn t/\H0
def O0 (t:Trm):=H0/\(decide ((B0 t)=A0) && (decide ((C0 t)=A0) && (decide ((D0 t)=A0) && (decide ((E0 t)=A0) && true))))=bn t/\H0
def P0 (t:Trm):=if decide (t.name=[])=true then (O0 t) else (N0 t)
def Q0 (t:Trm):=List.length t.names*(16:Nat)<=(140737488355328:Nat)
def R0 (t:Trm):=(decide ((E0 t)=K0) && true)
def S0 (t:Trm):=H0/\(decide ((B0 t)=A0) && (decide ((C0 t)=A0) && (decide ((D0 t)=A0) && (R0 t))))=bn t/\H0
def T0 (t:Trm):=if aU t.name=true then (S0 t) else (N0 t)
def U0 (t:Trm):=if cZ t.name=true then (S0 t) else (N0 t)
end C26
open C26 in
theorem FM (t:Trm) (ht:Wf (.st .term) t) (ho:t.names.length<=1000000) :
  (if decide (t.pos<A0)=true then (J0 t) else if (!decide (t.n=A0))=true then if (!decide (t.kind=K0))=true then (J0 t) else (M0 t) else (M0 t))/\if (!ph t)=true then (N0 t) else if decide (t.kind=K0)=true then if decide (t.name=[])=true then if decide (A0<=t.n)=true then if decide (t.n<=(999999999999999:Int))=true then (O0 t) else (N0 t) else (N0 t) else (N0 t) else if decide (t.kind=(2:Int))=true then if rg t.name=true then (O0 t) else (N0 t) else if decide (t.kind=(3:Int))=true then (P0 t) else if decide (t.kind=(4:Int))=true then (P0 t) else if decide (t.kind=(5:Int))=true then if aU t.name=true then if decide (t.pkg=[])=true then (O0 t) else if aU t.pkg=true then (O0 t) else (N0 t) else (N0 t) else if decide (t.kind=(6:Int))=true then if decide (t.name=[])=true then if decide ((B0 t)<=(4096:Int))=true then (Q0 t)/\if (List.all t.names aU && decide (List.Nodup t.names))=true then H0/\(decide ((B0 t)=(B0 t)) && (decide ((C0 t)=A0) && (decide ((D0 t)=(B0 t)) && (R0 t))))=bn t/\H0 else (N0 t) else (N0 t) else (N0 t) else if decide (t.kind=(7:Int))=true then if decide (t.name=[])=true then if decide (A0<(E0 t))=true then H0/\(decide ((B0 t)=A0) && (decide ((C0 t)=A0) && (decide ((D0 t)=A0) && (decide ((E0 t)=(E0 t)) && true))))=bn t/\H0 else (N0 t) else (N0 t) else if decide (t.kind=(8:Int))=true then if decide (t.name=[])=true then (Q0 t)/\if (List.all t.names aU && decide (List.Nodup t.names))=true then H0/\(decide ((B0 t)=(B0 t)) && (decide ((C0 t)=A0) && (decide ((D0 t)=A0) && (decide ((E0 t)=(B0 t)) && true))))=bn t/\H0 else (N0 t) else (N0 t) else if decide (t.kind=(9:Int))=true then (T0 t) else if decide (t.kind=(10:Int))=true then (T0 t) else if decide (t.kind=(11:Int))=true then if decide (t.name=[])=true then H0/\(decide ((B0 t)=A0) && (decide ((C0 t)=A0) && (decide ((D0 t)=K0) && (decide ((E0 t)=(E0 t)) && true))))=bn t/\H0 else (N0 t) else if decide (t.kind=(12:Int))=true then if decide (t.name=[])=true then H0/\(decide ((B0 t)=A0) && (decide ((C0 t)=A0) && (decide ((D0 t)=K0) && (decide ((E0 t)=(3:Int)) && true))))=bn t/\H0 else (N0 t) else if decide (t.kind=(13:Int))=true then if decide (t.name=[])=true then (Q0 t)/\if (List.all t.names aU && decide (List.Nodup t.names))=true then if List.all t.vars aU=true then inR IntKind.i64 ((B0 t)+K0)/\inR IntKind.i64 ((B0 t)+K0)/\H0/\(decide ((B0 t)=(B0 t)) && (decide ((C0 t)=(B0 t)) && (decide ((D0 t)=(B0 t)+K0) && (decide ((E0 t)=(B0 t)+K0) && true))))=bn t/\H0 else (N0 t) else (N0 t) else (N0 t) else if decide (t.kind=(14:Int))=true then if aU t.name=true then H0/\(decide ((B0 t)=A0) && (decide ((C0 t)=A0) && (decide ((D0 t)=A0) && (decide ((E0 t)=(2:Int)) && true))))=bn t/\H0 else (N0 t) else if decide (t.kind=(15:Int))=true then if decide (t.name=[])=true then H0/\(decide ((B0 t)=A0) && (decide ((C0 t)=A0) && (decide ((D0 t)=K0) && (R0 t))))=bn t/\H0 else (N0 t) else if decide (t.kind=(16:Int))=true then (U0 t) else if decide (t.kind=(17:Int))=true then (U0 t) else (N0 t):=by
 delta U0 T0 S0 R0 Q0 P0 O0 N0 M0 L0 K0 J0 I0 H0 E0 D0 C0 B0 A0
 refine ⟨?_,a6 (fun h=>?_) (fun h=>?_)⟩
 ·unfold ph
  repeat' (refine a6 (fun _=>?_) (fun _=>?_))
  all_goals simp_all
 ·have h:ph t=false:=by simpa using h
  unfold bn
  rw [h]
  exact ⟨trivial,rfl,trivial⟩
 have h:ph t=true:=by simpa using h
 have e0:bn t=Fe t:=by unfold bn;rw [h,Bool.true_and]
 rw [e0]
 clear h e0
 unfold Fe iX uR
 simp only [dnZ,dn1,dn2,dn3,dnN,dnS,dnL,dnP]
 generalize t.names.all aU=na
 generalize t.vars.all aU=va
 repeat' (first | refine a6 (fun _=>?_) (fun _=>?_) | refine ⟨by omega,?_⟩ | refine ⟨ak (by omega) (by omega),?_⟩ | fail)
 all_goals (refine ⟨trivial,?_,trivial⟩;try simp_all)
 all_goals first | (simp only [Bool.and_assoc];done) | (intros;omega)
end Go.AL.Seat
end
section
open Go Go.AL Go.Pd
namespace Go.AL.Seat
theorem xa (n:Nat) (x:Trm)  (ho:szT x<=n/\cO x=true) :
  (szT x<=n/\cO x=true)/\True/\(!allT bn x)=!allT bn x/\True:=by
 exact ⟨ho,trivial,by trivial,trivial⟩
end Go.AL.Seat
end
section
open Go Go.AL Go.Pd
namespace Go.AL.Seat
namespace C28
def A0:=(allT bn)
def B0 (x:Nat)(l:List Trm):=(x<=List.length l/\cK A0 (List.drop x l) x=cK A0 l (0:Nat))
def C0 (x:Nat):=(↑x:Int)
def D0 (l:List Trm):=(↑(List.length l):Int)
def E0 (l:List Trm)(x:Nat):=(List.getD l (Int.toNat (C0 x)) (dfl (Ty.st SN.term)))
end C28
open C28 in
theorem xb (n:Nat) (l:List Trm)  (hl:Wf (.lst (.st .term)) l) (ho:∀x∈l,szT x<=n/\cO x=true) :
  (∃(x:Nat),(B0 x l)/\(0:Int)=(C0 x)/\l=l/\(D0 l)=(D0 l)/\True)/\∀(x:Nat),x<=List.length l/\cK A0 (List.drop x l) x=cK A0 l (0:Nat)→if decide ((C0 x)<(D0 l))=true then ((0:Int)<=(C0 x)/\(C0 x)<(D0 l))/\(szT (E0 l x)<=n/\cO (E0 l x)=true)/\if (!allT bn (E0 l x))=true then True/\(C0 x)=cK A0 l (0:Nat)/\True else inR IntKind.i64 ((C0 x)+(1:Int))/\∃(y:Nat),(B0 y l)/\List.length l - y<List.length l - x/\(C0 x)+(1:Int)=(C0 y)/\l=l/\(D0 l)=(D0 l)/\True else True/\(-1:Int)=cK A0 l (0:Nat)/\True:=by
 delta E0 D0 C0 B0 A0
 have ln:=hl.len
 simp only [Int.toNat_natCast]
 refine ⟨⟨0,⟨Nat.zero_le _,by simp⟩,rfl,by trivial,by trivial,trivial⟩,?_⟩
 rintro k ⟨h1,h2⟩
 refine a6 (fun h=>?_) (fun h=>?_)
 ·replace h:=Xo h
  have hk:k < l.length:=by omega
  rw [aT l k (dfl (.st .term)) hk,cK] at h2
  refine ⟨by omega,ho _ (dy l k _ hk),a6 (fun c=>?_) (fun c=>?_)⟩
  ·have c:(allT bn) (l.getD k (dfl (.st .term)))=false:=by simpa using c
   rw [c,if_neg Bool.false_ne_true] at h2
   rw [←h2]
   exact ⟨trivial,rfl,trivial⟩
  ·have c:(allT bn) (l.getD k (dfl (.st .term)))=true:=by simpa using c
   rw [if_pos c] at h2
   refine ⟨bN hk ln,k+1,⟨by omega,h2⟩,by omega,by omega,by trivial,by trivial,trivial⟩
 ·replace h:¬((k:Int) < (l.length:Int)):=fun e=>h (Xd e)
  have e:k=l.length:=by omega
  subst e
  rw [List.drop_length,cK] at h2
  rw [←h2]
  exact ⟨trivial,rfl,trivial⟩
end Go.AL.Seat
end
section
open Go Go.AL Go.Pd
namespace Go.AL.Seat
theorem xc (n:Nat) (l:List Trm)  (ho:∀x∈l,szT x<=n/\cO x=true) :
  (∀(x:Trm),x∈l→szT x<=n/\cO x=true)/\True/\decide ((0:Int)<=cK (allT bn) l (0:Nat))=!List.all l (allT bn)/\True:=by
 exact ⟨ho,trivial,lg (allT bn) l 0,trivial⟩
theorem CJ (n:Nat) (l:List Trm)  (ho:∀x∈l,szT x<=n/\cO x=true) :
  (∀(x:Trm),x∈l→szT x<=n/\cO x=true)/\True/\(!!List.all l (allT bn))=List.all l (allT bn)/\True:=by
 exact ⟨ho,trivial,Bool.not_not _,trivial⟩
theorem CK (n:Nat) (t:Trm) (ho:szT t<=n+1/\cO t=true) :
  List.length t.names<=(1000000:Nat)/\if bn t=true then (∀(x:Trm),x∈t.parts→szT x<=n/\cO x=true)/\True/\List.all t.parts (allT bn)=allT bn t/\True else True/\false=allT bn t/\True:=by
 obtain ⟨h1,h2⟩:=ho
 have e0:allT bn t=(bn t && t.parts.all (allT bn)):=by rw [pO,lR]
 have h0:=zf t
 rw [e0]
 refine ⟨zm h2,a6 (fun h=>?_) (fun h=>?_)⟩
 ·rw [h,Bool.true_and]
  exact ⟨fun x hx=>⟨by have:=uL hx;omega,Cs h2 hx⟩,trivial,rfl,trivial⟩
 ·have h:bn t=false:=by simpa using h
  rw [h]
  exact ⟨trivial,rfl,trivial⟩
end Go.AL.Seat
end
section
open Go Go.AL Go.Pd
namespace Go.AL.Seat
namespace C2c
def A0:=(4096:Int)
end C2c
open C2c in
theorem CL (x:Trm) (ho:cO x=true) :
  (szT x<=szT x/\(0:Int)<=A0/\A0<=(1000000:Int))/\if decide (A0<(countT x A0).1)=true then True/\(3:Int)=fy x/\True else if decide ((40:Int)<(countT x A0).2)=true then True/\(91:Int)=fy x/\True else (szT x<=szT x/\cO x=true)/\if (!allT bn x)=true then True/\(80:Int)=fy x/\True else True/\(0:Int)=fy x/\True:=by
 delta A0
 refine ⟨⟨Nat.le_refl _,by omega,by omega⟩,a6 (fun h=>?_) (fun h=>?_)⟩
 ·replace h:=Xo h
  unfold fy
  rw [if_pos h]
  exact ⟨trivial,rfl,trivial⟩
 have h:¬_:=fun e=>h (Xd e)
 have e1:fy x=if 40 < (countT x 4096).2 then 91 else if allT bn x=true then 0 else 80:=by unfold fy;rw [if_neg h]
 refine a6 (fun k=>?_) (fun k=>?_)
 ·rw [if_pos (Xo k)] at e1
  rw [e1]
  exact ⟨trivial,rfl,trivial⟩
 rw [if_neg (fun e=>k (Xd e))] at e1
 refine ⟨⟨Nat.le_refl _,ho⟩,a6 (fun j=>?_) (fun j=>?_)⟩
 ·have j:allT bn x=false:=by simpa using j
  rw [j,if_neg Bool.false_ne_true] at e1
  rw [e1]
  exact ⟨trivial,rfl,trivial⟩
 ·have j:allT bn x=true:=by simpa using j
  rw [if_pos j] at e1
  rw [e1]
  exact ⟨trivial,rfl,trivial⟩
end Go.AL.Seat
end
section
open Go Go.AL Go.Pd
namespace Go.AL.Seat
theorem FN (s:Str) (p:Int) (n:Nat) (k:Int) (ho:s.length<=4096/\0<=p/\p<=(s.length:Int)/\0<=k/\k<=2) :
  inR IntKind.i64 (p+k)/\if decide ((↑(List.length s):Int)<=p+k)=true then True/\(0:Int)=bAt s (p+k)/\s=s/\p=p/\n=n/\True else inR IntKind.i64 (p+k)/\((0:Int)<=p+k/\p+k<(↑(List.length s):Int))/\True/\(↑(UInt8.toNat (List.getD s (Int.toNat (p+k)) (0:UInt8))):Int)=bAt s (p+k)/\s=s/\p=p/\n=n/\True:=by
 obtain ⟨h1,h2,h3,h4,h5⟩:=ho
 refine ⟨ak (by omega) (by omega),a6 (fun h=>?_) (fun h=>?_)⟩
 ·replace h:=Xo h
  refine ⟨trivial,(pL h).symm,?_⟩
  exact Xr
 ·replace h:¬(s.length:Int)<=p+k:=fun e=>h (Xd e)
  refine ⟨ak (by omega) (by omega),⟨by omega,by omega⟩,trivial,(li (by omega)).symm,?_⟩
  exact Xr
end Go.AL.Seat
end
section
open Go Go.AL Go.Pd
namespace Go.AL.Seat
namespace C2e
def A0 (c:Int):=True/\true=aF c/\True
end C2e
open C2e in
theorem HJ (c:Int)  :
  if bJ c=true then (A0 c) else if bP c=true then (A0 c) else if aM c=true then (A0 c) else if decide (c=(46:Int))=true then (A0 c) else True/\decide (c=(45:Int))=aF c/\True:=by
 delta A0
 unfold aF;cases bJ c <;> cases bP c <;> cases aM c <;> simp
 by_cases a:c=46 <;> simp [a]
end Go.AL.Seat
end
section
open Go Go.AL Go.Pd
namespace Go.AL.Seat
theorem FO (c:Int)  :
  True/\(!decide (c=(10:Int)))=cd c/\True:=by
 unfold cd;simp
theorem CM (c:Int)  :
  if decide ((32:Int)<=c)=true then if (!decide (c=(34:Int)))=true then True/\(!decide (c=(92:Int)))=aN c/\True else True/\false=aN c/\True else True/\false=aN c/\True:=by
 unfold aN;by_cases a:(32:Int)<=c <;> by_cases b:c=34 <;> by_cases d:c=92 <;> simp [a,b,d]
end Go.AL.Seat
end
section
open Go Go.AL Go.Pd
namespace Go.AL.Seat
namespace C2h
def A0 (x:Nat):=(↑x:Int)
def B0 (p:Int)(x:Nat)(s:Str):=p+(A0 x)<=(↑(List.length s):Int)
def C0 (p:Int)(x:Nat)(s:Str):=((B0 p x s)/\ae bA s p=x+ae bA s (p+(A0 x)))
def D0 (p:Int)(x:Nat)(s:Str)(n:Nat):=((0:Int)<=p/\p<=p+(A0 x)/\(B0 p x s))/\True/\List.drop (Int.toNat p) (List.take (Int.toNat (p+(A0 x))) s)=cut s p (p+(↑(ae bA s p):Int))/\s=s/\p+(A0 x)=p+(↑(ae bA s p):Int)/\n=n/\True
end C2h
open C2h in
theorem CN (s:Str) (p:Int) (n:Nat) (ho:s.length<=4096/\0<=p/\p<=(s.length:Int)) :
  (∃(x:Nat),(C0 p x s)/\dO UInt8=dO UInt8/\p=p/\s=s/\p=p+(A0 x)/\n=n/\True)/\∀(x:Nat),(B0 p x s)/\ae bA s p=x+ae bA s (p+(A0 x))→if decide (p+(A0 x)<(↑(List.length s):Int))=true then ((0:Int)<=p+(A0 x)/\p+(A0 x)<(↑(List.length s):Int))/\if bA (↑(UInt8.toNat (List.getD s (Int.toNat (p+(A0 x))) (0:UInt8))):Int)=true then inR IntKind.i64 (p+(A0 x)+(1:Int))/\∃(y:Nat),(C0 p y s)/\List.length s - y<List.length s - x/\dO UInt8=dO UInt8/\p=p/\s=s/\p+(A0 x)+(1:Int)=p+(A0 y)/\n=n/\True else (D0 p x s n) else (D0 p x s n):=by
 delta D0 C0 B0 A0
 obtain ⟨a1,a2,a3⟩:=ho
 have fin:∀k:Nat,p+(k:Int)<=(s.length:Int)→ae bA s p=k→((0:Int)<=p/\p<=p+(k:Int)/\p+(k:Int)<=(s.length:Int))/\True/\
   List.drop (Int.toNat p) (List.take (Int.toNat (p+(k:Int))) s)=cut s p (p+(ae bA s p:Int))/\s=s/\p+(k:Int)=p+(ae bA s p:Int)/\n=n/\True:=by
  intro k h1 h2
  refine ⟨⟨by omega,by omega,by omega⟩,trivial,?_,rfl,by omega,rfl,trivial⟩
  rw [h2]
  rfl
 refine ⟨⟨0,⟨by omega,by simp⟩,rfl,rfl,rfl,by simp,rfl,trivial⟩,?_⟩
 rintro k ⟨h1,h2⟩
 refine a6 (fun h=>?_) (fun h=>?_)
 ·replace h:=Xo h
  refine ⟨⟨by omega,h⟩,a6 (fun c=>?_) (fun c=>?_)⟩
  ·have e0:=cp (pr:=bA) (s:=s) (a:=p+(k:Int)) (by omega) h c
   rw [e0] at h2
   refine ⟨ak (by omega) (by omega),k+1,⟨by omega,?_⟩,by omega,rfl,rfl,rfl,by omega,rfl,trivial⟩
   have e:p+((k+1:Nat):Int)=p+(k:Int)+1:=by omega
   rw [e]
   omega
  ·have e0:=fI (pr:=bA) (s:=s) (a:=p+(k:Int)) (by omega) h (Bool.eq_false_iff.2 c)
   rw [e0] at h2
   exact fin k h1 h2
 ·replace h:¬(p+(k:Int) < (s.length:Int)):=fun e=>h (Xd e)
  have e0:=gA (pr:=bA) (s:=s) (a:=p+(k:Int)) (by omega)
  rw [e0] at h2
  exact fin k h1 h2
end Go.AL.Seat
end
section
open Go Go.AL Go.Pd
namespace Go.AL.Seat
namespace C2i
def A0 (x:Nat):=(↑x:Int)
def B0 (p:Int)(x:Nat)(s:Str):=p+(A0 x)<=(↑(List.length s):Int)
def C0 (p:Int)(x:Nat)(s:Str):=((B0 p x s)/\ae aF s p=x+ae aF s (p+(A0 x)))
def D0 (p:Int)(x:Nat)(s:Str)(n:Nat):=((0:Int)<=p/\p<=p+(A0 x)/\(B0 p x s))/\True/\List.drop (Int.toNat p) (List.take (Int.toNat (p+(A0 x))) s)=cut s p (p+(↑(ae aF s p):Int))/\s=s/\p+(A0 x)=p+(↑(ae aF s p):Int)/\n=n/\True
end C2i
open C2i in
theorem CO (s:Str) (p:Int) (n:Nat) (ho:s.length<=4096/\0<=p/\p<=(s.length:Int)) :
  (∃(x:Nat),(C0 p x s)/\dO UInt8=dO UInt8/\p=p/\s=s/\p=p+(A0 x)/\n=n/\True)/\∀(x:Nat),(B0 p x s)/\ae aF s p=x+ae aF s (p+(A0 x))→if decide (p+(A0 x)<(↑(List.length s):Int))=true then ((0:Int)<=p+(A0 x)/\p+(A0 x)<(↑(List.length s):Int))/\if aF (↑(UInt8.toNat (List.getD s (Int.toNat (p+(A0 x))) (0:UInt8))):Int)=true then inR IntKind.i64 (p+(A0 x)+(1:Int))/\∃(y:Nat),(C0 p y s)/\List.length s - y<List.length s - x/\dO UInt8=dO UInt8/\p=p/\s=s/\p+(A0 x)+(1:Int)=p+(A0 y)/\n=n/\True else (D0 p x s n) else (D0 p x s n):=by
 delta D0 C0 B0 A0
 obtain ⟨a1,a2,a3⟩:=ho
 have fin:∀k:Nat,p+(k:Int)<=(s.length:Int)→ae aF s p=k→((0:Int)<=p/\p<=p+(k:Int)/\p+(k:Int)<=(s.length:Int))/\True/\
   List.drop (Int.toNat p) (List.take (Int.toNat (p+(k:Int))) s)=cut s p (p+(ae aF s p:Int))/\s=s/\p+(k:Int)=p+(ae aF s p:Int)/\n=n/\True:=by
  intro k h1 h2
  refine ⟨⟨by omega,by omega,by omega⟩,trivial,?_,rfl,by omega,rfl,trivial⟩
  rw [h2]
  rfl
 refine ⟨⟨0,⟨by omega,by simp⟩,rfl,rfl,rfl,by simp,rfl,trivial⟩,?_⟩
 rintro k ⟨h1,h2⟩
 refine a6 (fun h=>?_) (fun h=>?_)
 ·replace h:=Xo h
  refine ⟨⟨by omega,h⟩,a6 (fun c=>?_) (fun c=>?_)⟩
  ·have e0:=cp (pr:=aF) (s:=s) (a:=p+(k:Int)) (by omega) h c
   rw [e0] at h2
   refine ⟨ak (by omega) (by omega),k+1,⟨by omega,?_⟩,by omega,rfl,rfl,rfl,by omega,rfl,trivial⟩
   have e:p+((k+1:Nat):Int)=p+(k:Int)+1:=by omega
   rw [e]
   omega
  ·have e0:=fI (pr:=aF) (s:=s) (a:=p+(k:Int)) (by omega) h (Bool.eq_false_iff.2 c)
   rw [e0] at h2
   exact fin k h1 h2
 ·replace h:¬(p+(k:Int) < (s.length:Int)):=fun e=>h (Xd e)
  have e0:=gA (pr:=aF) (s:=s) (a:=p+(k:Int)) (by omega)
  rw [e0] at h2
  exact fin k h1 h2
end Go.AL.Seat
end
section
open Go Go.AL Go.Pd
namespace Go.AL.Seat
namespace C2j
def A0 (x:Nat):=(↑x:Int)
def B0 (p:Int)(x:Nat)(s:Str):=p+(A0 x)<=(↑(List.length s):Int)
def C0 (p:Int)(x:Nat)(s:Str):=((B0 p x s)/\ae cd s p=x+ae cd s (p+(A0 x)))
def D0 (p:Int)(x:Nat)(s:Str)(n:Nat):=((0:Int)<=p/\p<=p+(A0 x)/\(B0 p x s))/\True/\List.drop (Int.toNat p) (List.take (Int.toNat (p+(A0 x))) s)=cut s p (p+(↑(ae cd s p):Int))/\s=s/\p+(A0 x)=p+(↑(ae cd s p):Int)/\n=n/\True
end C2j
open C2j in
theorem CP (s:Str) (p:Int) (n:Nat) (ho:s.length<=4096/\0<=p/\p<=(s.length:Int)) :
  (∃(x:Nat),(C0 p x s)/\dO UInt8=dO UInt8/\p=p/\s=s/\p=p+(A0 x)/\n=n/\True)/\∀(x:Nat),(B0 p x s)/\ae cd s p=x+ae cd s (p+(A0 x))→if decide (p+(A0 x)<(↑(List.length s):Int))=true then ((0:Int)<=p+(A0 x)/\p+(A0 x)<(↑(List.length s):Int))/\if cd (↑(UInt8.toNat (List.getD s (Int.toNat (p+(A0 x))) (0:UInt8))):Int)=true then inR IntKind.i64 (p+(A0 x)+(1:Int))/\∃(y:Nat),(C0 p y s)/\List.length s - y<List.length s - x/\dO UInt8=dO UInt8/\p=p/\s=s/\p+(A0 x)+(1:Int)=p+(A0 y)/\n=n/\True else (D0 p x s n) else (D0 p x s n):=by
 delta D0 C0 B0 A0
 obtain ⟨a1,a2,a3⟩:=ho
 have fin:∀k:Nat,p+(k:Int)<=(s.length:Int)→ae cd s p=k→((0:Int)<=p/\p<=p+(k:Int)/\p+(k:Int)<=(s.length:Int))/\True/\
   List.drop (Int.toNat p) (List.take (Int.toNat (p+(k:Int))) s)=cut s p (p+(ae cd s p:Int))/\s=s/\p+(k:Int)=p+(ae cd s p:Int)/\n=n/\True:=by
  intro k h1 h2
  refine ⟨⟨by omega,by omega,by omega⟩,trivial,?_,rfl,by omega,rfl,trivial⟩
  rw [h2]
  rfl
 refine ⟨⟨0,⟨by omega,by simp⟩,rfl,rfl,rfl,by simp,rfl,trivial⟩,?_⟩
 rintro k ⟨h1,h2⟩
 refine a6 (fun h=>?_) (fun h=>?_)
 ·replace h:=Xo h
  refine ⟨⟨by omega,h⟩,a6 (fun c=>?_) (fun c=>?_)⟩
  ·have e0:=cp (pr:=cd) (s:=s) (a:=p+(k:Int)) (by omega) h c
   rw [e0] at h2
   refine ⟨ak (by omega) (by omega),k+1,⟨by omega,?_⟩,by omega,rfl,rfl,rfl,by omega,rfl,trivial⟩
   have e:p+((k+1:Nat):Int)=p+(k:Int)+1:=by omega
   rw [e]
   omega
  ·have e0:=fI (pr:=cd) (s:=s) (a:=p+(k:Int)) (by omega) h (Bool.eq_false_iff.2 c)
   rw [e0] at h2
   exact fin k h1 h2
 ·replace h:¬(p+(k:Int) < (s.length:Int)):=fun e=>h (Xd e)
  have e0:=gA (pr:=cd) (s:=s) (a:=p+(k:Int)) (by omega)
  rw [e0] at h2
  exact fin k h1 h2
end Go.AL.Seat
end
section
open Go Go.AL Go.Pd
namespace Go.AL.Seat
namespace C2k
def A0 (x:Nat):=(↑x:Int)
def B0 (p:Int)(x:Nat)(s:Str):=p+(A0 x)<=(↑(List.length s):Int)
def C0 (p:Int)(x:Nat)(s:Str):=((B0 p x s)/\ae aN s p=x+ae aN s (p+(A0 x)))
def D0 (p:Int)(x:Nat)(s:Str)(n:Nat):=((0:Int)<=p/\p<=p+(A0 x)/\(B0 p x s))/\True/\List.drop (Int.toNat p) (List.take (Int.toNat (p+(A0 x))) s)=cut s p (p+(↑(ae aN s p):Int))/\s=s/\p+(A0 x)=p+(↑(ae aN s p):Int)/\n=n/\True
end C2k
open C2k in
theorem CQ (s:Str) (p:Int) (n:Nat) (ho:s.length<=4096/\0<=p/\p<=(s.length:Int)) :
  (∃(x:Nat),(C0 p x s)/\dO UInt8=dO UInt8/\p=p/\s=s/\p=p+(A0 x)/\n=n/\True)/\∀(x:Nat),(B0 p x s)/\ae aN s p=x+ae aN s (p+(A0 x))→if decide (p+(A0 x)<(↑(List.length s):Int))=true then ((0:Int)<=p+(A0 x)/\p+(A0 x)<(↑(List.length s):Int))/\if aN (↑(UInt8.toNat (List.getD s (Int.toNat (p+(A0 x))) (0:UInt8))):Int)=true then inR IntKind.i64 (p+(A0 x)+(1:Int))/\∃(y:Nat),(C0 p y s)/\List.length s - y<List.length s - x/\dO UInt8=dO UInt8/\p=p/\s=s/\p+(A0 x)+(1:Int)=p+(A0 y)/\n=n/\True else (D0 p x s n) else (D0 p x s n):=by
 delta D0 C0 B0 A0
 obtain ⟨a1,a2,a3⟩:=ho
 have fin:∀k:Nat,p+(k:Int)<=(s.length:Int)→ae aN s p=k→((0:Int)<=p/\p<=p+(k:Int)/\p+(k:Int)<=(s.length:Int))/\True/\
   List.drop (Int.toNat p) (List.take (Int.toNat (p+(k:Int))) s)=cut s p (p+(ae aN s p:Int))/\s=s/\p+(k:Int)=p+(ae aN s p:Int)/\n=n/\True:=by
  intro k h1 h2
  refine ⟨⟨by omega,by omega,by omega⟩,trivial,?_,rfl,by omega,rfl,trivial⟩
  rw [h2]
  rfl
 refine ⟨⟨0,⟨by omega,by simp⟩,rfl,rfl,rfl,by simp,rfl,trivial⟩,?_⟩
 rintro k ⟨h1,h2⟩
 refine a6 (fun h=>?_) (fun h=>?_)
 ·replace h:=Xo h
  refine ⟨⟨by omega,h⟩,a6 (fun c=>?_) (fun c=>?_)⟩
  ·have e0:=cp (pr:=aN) (s:=s) (a:=p+(k:Int)) (by omega) h c
   rw [e0] at h2
   refine ⟨ak (by omega) (by omega),k+1,⟨by omega,?_⟩,by omega,rfl,rfl,rfl,by omega,rfl,trivial⟩
   have e:p+((k+1:Nat):Int)=p+(k:Int)+1:=by omega
   rw [e]
   omega
  ·have e0:=fI (pr:=aN) (s:=s) (a:=p+(k:Int)) (by omega) h (Bool.eq_false_iff.2 c)
   rw [e0] at h2
   exact fin k h1 h2
 ·replace h:¬(p+(k:Int) < (s.length:Int)):=fun e=>h (Xd e)
  have e0:=gA (pr:=aN) (s:=s) (a:=p+(k:Int)) (by omega)
  rw [e0] at h2
  exact fin k h1 h2
end Go.AL.Seat
end
section
open Go Go.AL Go.Pd
namespace Go.AL.Seat
namespace C2l
def A0:=(0:Int)
def B0 (s:Str):=(↑(List.length s):Int)
def C0 (x:Nat × List Int)(s:Str):=(x.1<=List.length s/\List.length x.2<=x.1/\cU s=gh s x.1)
def D0 (x:Nat × List Int):=(↑x.1:Int)
def E0:=A0=A0/\A0=A0/\True
def H0 (x:Nat × List Int)(s:Str):=(io (List.drop (Int.toNat (D0 x)) (List.take (Int.toNat (B0 s)) s)))
def I0 (x:Nat × List Int)(s:Str):=if decide ((D0 x)<(B0 s))=true then True/\(30:Int)=(px s).err/\(D0 x)=(px s).pos/\True else True/\A0=(px s).err/\A0=(px s).pos/\True
def J0 (x:Nat × List Int)(s:Str):=inR IntKind.i64 (↑(H0 x s).1:Int)/\(List.length x.2=List.length x.2/\(List.length x.2+List.length [(↑(H0 x s).1:Int)])*(8:Nat)<=(140737488355328:Nat))/\inR IntKind.i64 ((D0 x)+(↑(H0 x s).2:Int))/\∃(y:Nat × List Int),(C0 y s)/\List.length s - y.1<List.length s - x.1/\x.2++[(↑(H0 x s).1:Int)]=y.2/\(D0 x)+(↑(H0 x s).2:Int)=(D0 y)/\s=s/\List.length (x.2++[(↑(H0 x s).1:Int)])=List.length y.2/\E0
end C2l
open C2l in
theorem CR (s:Str) (ho:s.length<=4096) :
  (A0<=(B0 s)/\(B0 s)*(↑(8:Nat):Int)<=(140737488355328:Int))/\(∃(x:Nat × List Int),(C0 x s)/\[]=x.2/\A0=(D0 x)/\s=s/\(0:Nat)=List.length x.2/\E0)/\∀(x:Nat × List Int),x.1<=List.length s/\List.length x.2<=x.1/\cU s=gh s x.1→if decide ((D0 x)<(B0 s))=true then (A0<=(D0 x)/\(D0 x)<=(B0 s)/\(B0 s)<=(B0 s))/\if decide ((↑(H0 x s).1:Int)=(65533:Int))=true then if decide ((↑(H0 x s).2:Int)=(1:Int))=true then (I0 x s) else (J0 x s) else (J0 x s) else (I0 x s):=by
 delta J0 I0 H0 E0 D0 C0 B0 A0
 refine ⟨⟨by omega,by omega⟩,⟨(0,[]),⟨Nat.zero_le _,Nat.le_refl _,rfl⟩,rfl,rfl,rfl,rfl,rfl,rfl,trivial⟩,?_⟩
 rintro ⟨k,xs⟩ ⟨h1,h2,h3⟩
 simp only [Int.toNat_natCast,List.take_length] at h1 h2 h3 ⊢
 refine a6 (fun h=>?_) (fun h=>?_)
 ·have hk:k < s.length:=by have:=Xo h;omega
  have hx:s.drop k≠[]:=by
   intro e
   have:=congrArg List.length e
   simp at this
   omega
  obtain ⟨g1,g2,g3,g4,g5⟩:=jE hx
  rw [List.length_drop] at g5
  refine ⟨⟨by omega,by omega,by omega⟩,a6 (fun c=>?_) (fun c=>?_)⟩
  ·replace c:=Xo c
   refine a6 (fun d=>?_) (fun d=>?_)
   ·replace d:=Xo d
    have hu:=g1.1 ⟨by omega,by omega⟩
    rw [oq hk hu] at h3
    rw [if_pos h]
    unfold px
    rw [h3]
    exact ⟨trivial,rfl,rfl,trivial⟩
   ·have hd:¬((io (s.drop k)).2:Int)=1:=fun e=>d (Xd e)
    have hu:cw (s.drop k)≠0:=by
     intro e
     have:=g1.2 e
     exact hd (by omega)
    have g6:=g2 hu
    have hs:=kg hk hu
    refine ⟨ak (by omega) (by omega),⟨(by first | rfl | trivial),by simp only [List.length_singleton];omega⟩,ak (by omega) (by omega),(k+(io (s.drop k)).2,xs++[((io (s.drop k)).1:Int)]),⟨by show k+_<=_;omega,by show (xs++[_]).length<=k+_;rw [List.length_append,List.length_singleton];omega,?_⟩,by show s.length - (k+_) < _;omega,(by first | rfl | trivial),by show (k:Int)+_=((k+_:Nat):Int);omega,(by first | rfl | trivial),(by first | rfl | trivial),(by first | rfl | trivial),(by first | rfl | trivial),trivial⟩
    show cU s=gh s (k+_)
    rw [h3,hs,g6]
  ·have hc:¬((io (s.drop k)).1:Int)=65533:=fun e=>c (Xd e)
   have hu:cw (s.drop k)≠0:=by
    intro e
    have:=g1.2 e
    exact hc (by omega)
   have g6:=g2 hu
   have hs:=kg hk hu
   refine ⟨ak (by omega) (by omega),⟨(by first | rfl | trivial),by simp only [List.length_singleton];omega⟩,ak (by omega) (by omega),(k+(io (s.drop k)).2,xs++[((io (s.drop k)).1:Int)]),⟨by show k+_<=_;omega,by show (xs++[_]).length<=k+_;rw [List.length_append,List.length_singleton];omega,?_⟩,by show s.length - (k+_) < _;omega,(by first | rfl | trivial),by show (k:Int)+_=((k+_:Nat):Int);omega,(by first | rfl | trivial),(by first | rfl | trivial),(by first | rfl | trivial),(by first | rfl | trivial),trivial⟩
   show cU s=gh s (k+_)
   rw [h3,hs,g6]
 ·have hk:s.length<=k:=by
   have:¬((k:Int) < (s.length:Int)):=fun e=>h (Xd e)
   omega
  rw [om hk] at h3
  rw [if_neg h]
  unfold px
  rw [h3]
  exact ⟨trivial,rfl,rfl,trivial⟩
end Go.AL.Seat
end
section
open Go Go.AL Go.Pd
namespace Go.AL.Seat
theorem zF (s:Str)  :
  if (!decide (s=[]))=true then ([48,49,50,51,52,53,54,55,56,57]:Str)=pw/\True/\decide (mr s=[])=bO s/\True else True/\false=bO s/\True:=by
 have e:∀l:Str,(l.all cx)=l.all fun c=>aM (bI c):=fun _=>rfl
 refine a6 (fun h=>?_) (fun h=>?_)
 ·refine ⟨rfl,trivial,?_,trivial⟩
  unfold bO
  rw [h,Bool.true_and,←e]
  exact Bool.eq_iff_iff.2 (decide_eq_true_iff.trans (te s))
 ·refine ⟨trivial,?_,trivial⟩
  unfold bO
  rw [Bool.not_eq_true] at h
  rw [h,Bool.false_and]
end Go.AL.Seat
end
section
open Go Go.AL Go.Pd
namespace Go.AL.Seat
namespace C2n
def A0 (s:Str):=True/\false=df s/\True
def B0:=(0:Int)
def C0 (s:Str):=(↑(List.length s):Int)
def D0:=fun (c:UInt8)=>gW (bI c)
def E0 (x:Nat)(s:Str):=(x<=List.length s/\(List.all s D0)=List.all (List.drop x s) D0)
def H0 (x:Nat):=(↑x:Int)
def I0 (s:Str):=s=s/\false=false/\(C0 s)=(C0 s)/\True
def J0 (s:Str)(x:Nat):=(↑(UInt8.toNat (List.getD s (Int.toNat (H0 x)) (0:UInt8))):Int)
def K0 (x:Nat)(s:Str):=inR IntKind.i64 ((H0 x)+(1:Int))/\∃(y:Nat),(E0 y s)/\List.length s - y<List.length s - x/\(H0 x)+(1:Int)=(H0 y)/\(I0 s)
def L0 (s:Str)(x:Nat):=if (!decide ((J0 s x)=(45:Int)))=true then (A0 s) else (K0 x s)
def M0 (s:Str)(x:Nat):=if decide ((65:Int)<=(J0 s x))=true then if decide ((J0 s x)<=(90:Int))=true then (K0 x s) else (L0 s x) else (L0 s x)
def N0 (s:Str)(x:Nat):=if decide ((97:Int)<=(J0 s x))=true then if decide ((J0 s x)<=(122:Int))=true then (K0 x s) else (M0 s x) else (M0 s x)
def O0 (s:Str):=(∃(x:Nat),(E0 x s)/\B0=(H0 x)/\(I0 s))/\∀(x:Nat),(E0 x s)→if decide ((H0 x)<(C0 s))=true then (B0<=(H0 x)/\(H0 x)<(C0 s))/\if decide ((48:Int)<=(J0 s x))=true then if decide ((J0 s x)<=(57:Int))=true then (K0 x s) else (N0 s x) else (N0 s x) else True/\true=df s/\True
end C2n
open C2n in
theorem FQ (s:Str) (hs:Wf .str s) :
  if decide (s=[])=true then (A0 s) else if bO s=true then (B0<=B0/\B0<(C0 s))/\if decide ((↑(UInt8.toNat (List.getD s (Int.toNat B0) (0:UInt8))):Int)=(48:Int))=true then if (!decide (s=([48]:Str)))=true then (A0 s) else (O0 s) else (O0 s) else (O0 s):=by
 delta O0 N0 M0 L0 K0 J0 I0 H0 E0 D0 C0 B0 A0
 refine a6 (fun h=>?_) (fun h=>?_)
 ·replace h:=Xo h
  subst h
  exact ⟨trivial,rfl,trivial⟩
 have hne:s≠[]:=fun e=>h (Xd e)
 have hpos:=List.length_pos_iff.2 hne
 refine a6 (fun h1=>?_) (fun h1=>?_)
 ·refine ⟨⟨by omega,by omega⟩,a6 (fun h2=>?_) (fun h2=>?_)⟩
  ·refine a6 (fun h3=>?_) (fun h3=>?_)
   ·refine ⟨trivial,?_,trivial⟩
    have e:decide (bI (s.getD 0 0)=48)=true:=h2
    unfold df
    rw [h1,e,h3]
    simp
   ·have hz:(bO s && decide (bI (s.getD 0 0)=48) && !decide (s=[48]))=false:=by rw [Bool.not_eq_true] at h3;rw [h3,Bool.and_false]
    refine ⟨⟨0,⟨Nat.zero_le _,rfl⟩,rfl,rfl,rfl,rfl,trivial⟩,?_⟩
    rintro k ⟨h1,h2⟩
    simp only [Int.toNat_natCast]
    refine a6 (fun h=>?_) (fun h=>?_)
    ·have hk:k < s.length:=by have:=Xo h;omega
     rw [aT s k 0 hk,List.all_cons] at h2
     have eb:((s.getD k 0).toNat:Int)=bI (s.getD k 0):=rfl
     refine ⟨⟨by omega,by omega⟩,?_⟩
     simp only [eb]
     have hp:=lm (bI (s.getD k 0))
     have yes:gW (bI (s.getD k 0))=true→(s.all fun c=>gW (bI c))=(s.drop (k+1)).all fun c=>gW (bI c):=fun e=>by rw [h2,e,Bool.true_and]
     have no:¬gW (bI (s.getD k 0))=true→false=df s:=fun e=>by rw [jF hne hz,h2,Bool.eq_false_iff.2 e,Bool.false_and]
     generalize bI (s.getD k 0)=c at hp yes no ⊢
     repeat' (refine a6 (fun _=>?_) (fun _=>?_))
     all_goals (simp only [decide_eq_true_eq,Bool.not_eq_true',decide_eq_false_iff_not] at *)
     all_goals first
      | exact ⟨trivial,no (fun e=>by have:=hp.1 e;omega),trivial⟩
      | exact ⟨bN hk hs.str,k+1,⟨by omega,yes (hp.2 (by omega))⟩,by omega,by omega,(by first | rfl | trivial),(by first | rfl | trivial),(by first | rfl | trivial),trivial⟩
    ·have hk:k=s.length:=by
      have:¬((k:Int) < (s.length:Int)):=fun e=>h (Xd e)
      omega
     refine ⟨trivial,?_,trivial⟩
     rw [jF hne hz,h2,hk,List.drop_length]
     rfl
  ·have hz:(bO s && decide (bI (s.getD 0 0)=48) && !decide (s=[48]))=false:=by
    have e:decide (bI (s.getD 0 0)=48)=false:=by rw [Bool.not_eq_true] at h2;exact h2
    rw [e,Bool.and_false,Bool.false_and]
   refine ⟨⟨0,⟨Nat.zero_le _,rfl⟩,rfl,rfl,rfl,rfl,trivial⟩,?_⟩
   rintro k ⟨h1,h2⟩
   simp only [Int.toNat_natCast]
   refine a6 (fun h=>?_) (fun h=>?_)
   ·have hk:k < s.length:=by have:=Xo h;omega
    rw [aT s k 0 hk,List.all_cons] at h2
    have eb:((s.getD k 0).toNat:Int)=bI (s.getD k 0):=rfl
    refine ⟨⟨by omega,by omega⟩,?_⟩
    simp only [eb]
    have hp:=lm (bI (s.getD k 0))
    have yes:gW (bI (s.getD k 0))=true→(s.all fun c=>gW (bI c))=(s.drop (k+1)).all fun c=>gW (bI c):=fun e=>by rw [h2,e,Bool.true_and]
    have no:¬gW (bI (s.getD k 0))=true→false=df s:=fun e=>by rw [jF hne hz,h2,Bool.eq_false_iff.2 e,Bool.false_and]
    generalize bI (s.getD k 0)=c at hp yes no ⊢
    repeat' (refine a6 (fun _=>?_) (fun _=>?_))
    all_goals (simp only [decide_eq_true_eq,Bool.not_eq_true',decide_eq_false_iff_not] at *)
    all_goals first
     | exact ⟨trivial,no (fun e=>by have:=hp.1 e;omega),trivial⟩
     | exact ⟨bN hk hs.str,k+1,⟨by omega,yes (hp.2 (by omega))⟩,by omega,by omega,(by first | rfl | trivial),(by first | rfl | trivial),(by first | rfl | trivial),trivial⟩
   ·have hk:k=s.length:=by
     have:¬((k:Int) < (s.length:Int)):=fun e=>h (Xd e)
     omega
    refine ⟨trivial,?_,trivial⟩
    rw [jF hne hz,h2,hk,List.drop_length]
    rfl
 ·have hz:(bO s && decide (bI (s.getD 0 0)=48) && !decide (s=[48]))=false:=by rw [Bool.not_eq_true] at h1;rw [h1,Bool.false_and,Bool.false_and]
  refine ⟨⟨0,⟨Nat.zero_le _,rfl⟩,rfl,rfl,rfl,rfl,trivial⟩,?_⟩
  rintro k ⟨h1,h2⟩
  simp only [Int.toNat_natCast]
  refine a6 (fun h=>?_) (fun h=>?_)
  ·have hk:k < s.length:=by have:=Xo h;omega
   rw [aT s k 0 hk,List.all_cons] at h2
   have eb:((s.getD k 0).toNat:Int)=bI (s.getD k 0):=rfl
   refine ⟨⟨by omega,by omega⟩,?_⟩
   simp only [eb]
   have hp:=lm (bI (s.getD k 0))
   have yes:gW (bI (s.getD k 0))=true→(s.all fun c=>gW (bI c))=(s.drop (k+1)).all fun c=>gW (bI c):=fun e=>by rw [h2,e,Bool.true_and]
   have no:¬gW (bI (s.getD k 0))=true→false=df s:=fun e=>by rw [jF hne hz,h2,Bool.eq_false_iff.2 e,Bool.false_and]
   generalize bI (s.getD k 0)=c at hp yes no ⊢
   repeat' (refine a6 (fun _=>?_) (fun _=>?_))
   all_goals (simp only [decide_eq_true_eq,Bool.not_eq_true',decide_eq_false_iff_not] at *)
   all_goals first
    | exact ⟨trivial,no (fun e=>by have:=hp.1 e;omega),trivial⟩
    | exact ⟨bN hk hs.str,k+1,⟨by omega,yes (hp.2 (by omega))⟩,by omega,by omega,(by first | rfl | trivial),(by first | rfl | trivial),(by first | rfl | trivial),trivial⟩
  ·have hk:k=s.length:=by
    have:¬((k:Int) < (s.length:Int)):=fun e=>h (Xd e)
    omega
   refine ⟨trivial,?_,trivial⟩
   rw [jF hne hz,h2,hk,List.drop_length]
   rfl
end Go.AL.Seat
end
section
open Go Go.AL Go.Pd
namespace Go.AL.Seat
namespace C2o
def A0 (v:Vers):=[v.major,v.minor,v.patch]
def B0 (x:Nat)(v:Vers):=(x<=(3:Nat)/\List.all (List.take x (A0 v)) qW=true)
def C0 (x:Nat):=(↑x:Int)
def D0 (v:Vers):=(↑(List.length (A0 v)):Int)
def E0 (v:Vers):=v=v/\List.length (A0 v)=List.length (A0 v)/\True
def H0 (v:Vers):=v=v/\(A0 v)=(A0 v)/\(D0 v)=(D0 v)/\(E0 v)
def I0:=(dfl (Ty.int IntKind.i64))
def J0 (v:Vers):=True/\(40:Int)=bv v/\True
def K0 (v:Vers):=(splitB (46:UInt8) v.pre)
def L0 (x_1:Nat)(v:Vers):=(x_1<=List.length (K0 v)/\List.all (List.take x_1 (K0 v)) df=true)
def M0 (v:Vers):=(↑(List.length (K0 v)):Int)
def N0 (x:Nat)(v:Vers):=(C0 x)=(C0 x)/\v=v/\(A0 v)=(A0 v)/\(D0 v)=(D0 v)/\false=false/\false=false/\true=true/\splitB (46:UInt8) v.pre=splitB (46:UInt8) v.pre/\(M0 v)=(M0 v)/\(E0 v)
end C2o
open C2o in
theorem CS (v:Vers) (hv:Wf (.st .version) v) :
  (∃(x:Nat),(B0 x v)/\(0:Int)=(C0 x)/\(H0 v))/\∀(x:Nat),x<=(3:Nat)/\List.all (List.take x (A0 v)) qW=true→if decide ((C0 x)<(D0 v))=true then ((0:Int)<=(C0 x)/\(C0 x)<(D0 v))/\if decide (List.getD (A0 v) (Int.toNat (C0 x)) I0<(0:Int))=true then (J0 v) else if decide ((999999:Int)<List.getD (A0 v) (Int.toNat (C0 x)) I0)=true then (J0 v) else inR IntKind.i64 ((C0 x)+(1:Int))/\∃(y:Nat),(B0 y v)/\(3:Nat) - y<(3:Nat) - x/\(C0 x)+(1:Int)=(C0 y)/\(H0 v) else if decide ((24:Int)<(↑(List.length v.pre):Int))=true then (J0 v) else if (!decide (v.pre=[]))=true then (([46]:Str)=([46]:Str)/\List.length v.pre<(4294967281:Nat))/\(∃(x_1:Nat),(L0 x_1 v)/\(0:Int)=(C0 x_1)/\(N0 x v))/\∀(x_1:Nat),x_1<=List.length (K0 v)/\List.all (List.take x_1 (K0 v)) df=true→if decide ((C0 x_1)<(M0 v))=true then ((0:Int)<=(C0 x_1)/\(C0 x_1)<(M0 v))/\if (!df (List.getD (K0 v) (Int.toNat (C0 x_1)) (dfl Ty.str)))=true then (J0 v) else inR IntKind.i64 ((C0 x_1)+(1:Int))/\∃(y:Nat),(L0 y v)/\List.length (K0 v) - y<List.length (K0 v) - x_1/\(C0 x_1)+(1:Int)=(C0 y)/\(N0 x v) else True/\(0:Int)=bv v/\True else True/\(0:Int)=bv v/\True:=by
 delta N0 M0 L0 K0 J0 I0 H0 E0 D0 C0 B0 A0
 have bad:∀k:Nat,k < 3→qW ([v.major,v.minor,v.patch].getD k (dfl (.int .i64)))=false→True/\(40:Int)=bv v/\True:=fun k hk e=>
  ⟨trivial,(zi (nB (l:=[v.major,v.minor,v.patch]) (dfl (.int .i64)) hk e)).symm,trivial⟩
 refine ⟨⟨0,⟨by omega,rfl⟩,?_⟩,?_⟩
 ·exact Xr
 rintro k ⟨h1,h2⟩
 have l3:[v.major,v.minor,v.patch].length=3:=rfl
 simp only [Int.toNat_natCast,l3]
 refine a6 (fun h=>?_) (fun h=>?_)
 ·have hk:k < 3:=by have:=Xo h;omega
  have bk:=bad k hk
  have gk:=gJ (l:=[v.major,v.minor,v.patch]) (dfl (.int .i64)) hk h2
  refine ⟨⟨by omega,by omega⟩,?_⟩
  refine a6 (fun a=>bk ?_) (fun a=>a6 (fun b=>bk ?_) (fun b=>?_))
  ·have:=Xo a
   have e:¬0<=[v.major,v.minor,v.patch].getD k (dfl (.int .i64)):=by omega
   unfold qW
   rw [Xf e,Bool.false_and]
  ·have:=Xo b
   have e:¬[v.major,v.minor,v.patch].getD k (dfl (.int .i64))<=999999:=by omega
   unfold qW
   rw [Xf e,Bool.and_false]
  ·have a:¬[v.major,v.minor,v.patch].getD k (dfl (.int .i64)) < 0:=fun e=>a (Xd e)
   have b:¬999999 < [v.major,v.minor,v.patch].getD k (dfl (.int .i64)):=fun e=>b (Xd e)
   have a':0<=[v.major,v.minor,v.patch].getD k (dfl (.int .i64)):=by omega
   have b':[v.major,v.minor,v.patch].getD k (dfl (.int .i64))<=999999:=by omega
   refine ⟨ak (by omega) (by omega),k+1,⟨by omega,gk ?_⟩,by omega,by omega,?_⟩
   ·unfold qW
    rw [Xd a',Xd b']
    rfl
   ·exact Xr
 ·have hk:k=3:=by
   have:¬((k:Int) < ((3:Nat):Int)):=fun e=>h (Xd e)
   omega
  subst hk
  have hg:=wH h2
  refine a6 (fun a=>?_) (fun a=>?_)
  ·have:=Xo a
   rw [if_pos (by omega)] at hg
   rw [hg]
   exact ⟨trivial,rfl,trivial⟩
  have a:¬(24:Int) < (v.pre.length:Int):=fun e=>a (Xd e)
  have hl:=gI 46 v.pre
  rw [if_neg (by omega)] at hg
  refine a6 (fun b=>?_) (fun b=>?_)
  ·have b:¬v.pre=[]:=by simpa using b
   rw [if_neg b] at hg
   refine ⟨⟨(by first | rfl | trivial),by omega⟩,⟨0,⟨by omega,rfl⟩,?_⟩,?_⟩
   ·exact Xr
   rintro j ⟨j1,j2⟩
   refine a6 (fun c=>?_) (fun c=>?_)
   ·have hj:j < (splitB 46 v.pre).length:=by have:=Xo c;omega
    refine ⟨⟨by omega,by omega⟩,a6 (fun d=>?_) (fun d=>?_)⟩
    ·have d:df ((splitB 46 v.pre).getD j (dfl .str))=false:=by simpa using d
     rw [nB (dfl .str) hj d,if_neg Bool.false_ne_true] at hg
     rw [hg]
     exact ⟨trivial,rfl,trivial⟩
    ·have d:df ((splitB 46 v.pre).getD j (dfl .str))=true:=by simpa using d
     refine ⟨ak (by omega) (by omega),j+1,⟨by omega,gJ (dfl .str) hj j2 d⟩,by omega,by omega,?_⟩
     exact Xr
   ·have hj:(splitB 46 v.pre).length<=j:=by
     have:¬((j:Int) < ((splitB 46 v.pre).length:Int)):=fun e=>c (Xd e)
     omega
    rw [qV hj] at j2
    rw [if_pos j2] at hg
    rw [hg]
    exact ⟨trivial,rfl,trivial⟩
  ·have b:v.pre=[]:=by simpa using b
   rw [if_pos b] at hg
   rw [hg]
   exact ⟨trivial,rfl,trivial⟩
end Go.AL.Seat
end
section
open Go Go.AL Go.Pd
namespace Go.AL.Seat
namespace C2p
def A0 (s:Str):=(splitB (46:UInt8) (aD s))
def B0 (s:Str):=(↑(List.length (A0 s)):Int)
def C0:=(0:Int)
def D0 (s:Str):=(bY s)
def E0 (s:Str):=True/\C0=(D0 s).1.major/\C0=(D0 s).1.minor/\C0=(D0 s).1.patch/\[]=(D0 s).1.pre/\(40:Int)=(D0 s).2/\True
def H0:=(3:Nat)
def I0 (x:Nat)(s:Str):=(x<=H0/\List.all (List.take x (A0 s)) eH=true)
def J0 (x:Nat):=(↑x:Int)
def K0 (s:Str):=splitB (46:UInt8) (aD s)=splitB (46:UInt8) (aD s)
def L0:=C0=C0/\C0=C0/\C0=C0/\dO UInt8=dO UInt8/\True
def M0 (s:Str)(x:Nat):=(List.getD (A0 s) (Int.toNat (J0 x)) (dfl Ty.str))
def N0 (s:Str)(x:Nat):=(↑(List.length (M0 s x)):Int)
def O0:=(1:Int)
def P0:=(Int.toNat C0)
def Q0:=(↑H0:Int)
def R0 (s:Str)(x:Nat):=kA (M0 s x)/\(C0<=(J0 x)/\(J0 x)<Q0)/\Int.toNat (J0 x)<List.length (gB s x)/\inR IntKind.i64 ((J0 x)+O0)/\∃(y:Nat),(I0 y s)/\H0 - y<H0 - x/\(J0 x)+O0=(J0 y)/\s=s/\aD s=aD s/\cm s=cm s/\dA s=dA s/\(K0 s)/\false=false/\(K0 s)/\(B0 s)=(B0 s)/\List.set (gB s x) (Int.toNat (J0 x)) (jB (M0 s x))=gB s y/\L0
def S0:=(dfl (Ty.int IntKind.i64))
def T0 (s:Str):=(∃(x:Nat),(I0 x s)/\C0=(J0 x)/\s=s/\aD s=aD s/\cm s=cm s/\dA s=dA s/\(K0 s)/\false=false/\(K0 s)/\(B0 s)=(B0 s)/\List.replicate H0 C0=gB s x/\L0)/\∀(x:Nat),x<=H0/\List.all (List.take x (A0 s)) eH=true→if decide ((J0 x)<(B0 s))=true then (C0<=(J0 x)/\(J0 x)<(B0 s))/\if (!bO (M0 s x))=true then (E0 s) else if decide ((6:Int)<(N0 s x))=true then (E0 s) else if decide (O0<(N0 s x))=true then (C0<=C0/\C0<(N0 s x))/\if decide ((↑(UInt8.toNat (List.getD (M0 s x) P0 (0:UInt8))):Int)=(48:Int))=true then (E0 s) else (R0 s x) else (R0 s x) else (C0<=C0/\C0<Q0)/\Int.toNat C0<List.length (gB s x)/\(C0<=O0/\O0<Q0)/\Int.toNat O0<List.length (gB s x)/\(C0<=(2:Int)/\(2:Int)<Q0)/\Int.toNat (2:Int)<List.length (gB s x)/\if (!decide (bv {major:=List.getD (gB s x) P0 S0,minor:=List.getD (gB s x) (Int.toNat O0) S0,patch:=List.getD (gB s x) (Int.toNat (2:Int)) S0,pre:=cm s:Vers}=C0))=true then True/\C0=(D0 s).1.major/\C0=(D0 s).1.minor/\C0=(D0 s).1.patch/\[]=(D0 s).1.pre/\bv {major:=List.getD (gB s x) P0 S0,minor:=List.getD (gB s x) (Int.toNat O0) S0,patch:=List.getD (gB s x) (Int.toNat (2:Int)) S0,pre:=cm s:Vers}=(D0 s).2/\True else True/\List.getD (gB s x) P0 S0=(D0 s).1.major/\List.getD (gB s x) (Int.toNat O0) S0=(D0 s).1.minor/\List.getD (gB s x) (Int.toNat (2:Int)) S0=(D0 s).1.patch/\cm s=(D0 s).1.pre/\C0=(D0 s).2/\True
end C2p
open C2p in
theorem CT (s:Str) (ho:s.length<=4096) :
  (([45]:Str)=([45]:Str)/\List.length s<(4294967281:Nat))/\(([46]:Str)=([46]:Str)/\List.length (aD s)<(4294967281:Nat))/\if (!decide ((B0 s)=(3:Int)))=true then (E0 s) else if dA s=true then if decide (cm s=[])=true then (E0 s) else (T0 s) else (T0 s):=by
 delta T0 S0 R0 Q0 P0 O0 N0 M0 L0 K0 J0 I0 H0 E0 D0 C0 B0 A0
 have bad:bY s=(noV,40)→True/\(0:Int)=(bY s).1.major/\(0:Int)=(bY s).1.minor/\(0:Int)=(bY s).1.patch/\[]=(bY s).1.pre/\(40:Int)=(bY s).2/\True:=fun e=>by
  rw [e]
  exact ⟨trivial,rfl,rfl,rfl,rfl,rfl,trivial⟩
 have hc:=tg s
 refine ⟨⟨(by first | rfl | trivial),by omega⟩,⟨(by first | rfl | trivial),by omega⟩,a6 (fun a=>?_) (fun a=>?_)⟩
 ·exact bad (pb (fun e=>by rw [e] at a;simp at a))
 have a:(splitB 46 (aD s)).length=3:=by
  simp only [Bool.not_eq_true',decide_eq_false_iff_not,Decidable.not_not] at a
  omega
 refine a6 (fun b=>a6 (fun c=>?_) (fun c=>?_)) (fun b=>?_)
 ·exact bad (pc b (Xo c))
 ·have he:=jc a (fun _ e=>c (Xd e))
  refine ⟨⟨0,⟨by omega,rfl⟩,?_⟩,?_⟩
  ·exact Xr
  rintro k ⟨h1,h2⟩
  have lr:(gB s k).length=3:=rfl
  simp only [Int.toNat_natCast,lr]
  refine a6 (fun h=>?_) (fun h=>?_)
  ·have hk:k < (splitB 46 (aD s)).length:=by have:=Xo h;omega
   refine ⟨⟨by omega,by omega⟩,?_⟩
   have no:eH ((splitB 46 (aD s)).getD k (dfl .str))=false→bY s=(noV,40):=fun e=>by
    rw [he,nB (dfl .str) hk e,if_neg Bool.false_ne_true]
   have yes:eH ((splitB 46 (aD s)).getD k (dfl .str))=true→((splitB 46 (aD s)).take (k+1)).all eH=true:=gJ (dfl .str) hk h2
   have hset:=wI (s:=s) (k:=k) (by omega)
   refine a6 (fun a=>bad (no ?_)) (fun a=>a6 (fun b=>bad (no ?_)) (fun b=>a6 (fun c=>⟨⟨by omega,by have:=Xo c;omega⟩,a6 (fun d=>bad (no ?_)) (fun d=>?_)⟩) (fun c=>?_)))
   ·unfold eH
    rw [Bool.not_eq_true'] at a
    rw [a,Bool.false_and,Bool.false_and]
   ·have:=Xo b
    unfold eH
    rw [Xf (p:=List.length ((splitB 46 (aD s)).getD k (dfl .str))<=6) (by omega),Bool.and_false,Bool.false_and]
   ·have e:decide (bI (((splitB 46 (aD s)).getD k (dfl .str)).getD 0 0)=48)=true:=d
    have c:=Xo c
    unfold eH
    rw [e,Xd (p:=1 < List.length ((splitB 46 (aD s)).getD k (dfl .str))) (by omega)]
    simp
   ·have e:decide (bI (((splitB 46 (aD s)).getD k (dfl .str)).getD 0 0)=48)=false:=by rw [Bool.not_eq_true] at d;exact d
    have b:¬(6:Int) < _:=fun x=>b (Xd x)
    have en:eH ((splitB 46 (aD s)).getD k (dfl .str))=true:=by
     unfold eH
     rw [e]
     simp only [Bool.not_eq_true',Bool.not_eq_false] at a
     rw [a,Xd (p:=List.length ((splitB 46 (aD s)).getD k (dfl .str))<=6) (by omega)]
     simp
    have ed:bO ((splitB 46 (aD s)).getD k (dfl .str))=true/\((splitB 46 (aD s)).getD k (dfl .str)).length<=6:=by
     have e:=en
     unfold eH at e
     simp only [Bool.and_eq_true,decide_eq_true_eq] at e
     exact ⟨e.1.1,e.1.2⟩
    refine ⟨gX ed.1 (by omega),⟨by omega,by omega⟩,by omega,ak (by omega) (by omega),k+1,⟨by omega,yes en⟩,by omega,by omega,?_⟩
    repeat (first | exact trivial | refine ⟨by first | rfl | (exact hset) | trivial,?_⟩)
   ·have b:¬(6:Int) < _:=fun x=>b (Xd x)
    have c:¬(1:Int) < _:=fun x=>c (Xd x)
    have en:eH ((splitB 46 (aD s)).getD k (dfl .str))=true:=by
     unfold eH
     simp only [Bool.not_eq_true',Bool.not_eq_false] at a
     rw [a,Xd (p:=List.length ((splitB 46 (aD s)).getD k (dfl .str))<=6) (by omega),Xf (p:=1 < List.length ((splitB 46 (aD s)).getD k (dfl .str))) (by omega)]
     simp
    have ed:bO ((splitB 46 (aD s)).getD k (dfl .str))=true/\((splitB 46 (aD s)).getD k (dfl .str)).length<=6:=by
     have e:=en
     unfold eH at e
     simp only [Bool.and_eq_true,decide_eq_true_eq] at e
     exact ⟨e.1.1,e.1.2⟩
    refine ⟨gX ed.1 (by omega),⟨by omega,by omega⟩,by omega,ak (by omega) (by omega),k+1,⟨by omega,yes en⟩,by omega,by omega,?_⟩
    repeat (first | exact trivial | refine ⟨by first | rfl | (exact hset) | trivial,?_⟩)
  ·have hk:k=3:=by
    have:¬((k:Int) < ((splitB 46 (aD s)).length:Int)):=fun e=>h (Xd e)
    omega
   subst hk
   rw [qV (by omega)] at h2
   rw [if_pos h2] at he
   have ev:(⟨List.getD (gB s 3) (Int.toNat 0) (dfl (Ty.int IntKind.i64)),List.getD (gB s 3) (Int.toNat 1) (dfl (Ty.int IntKind.i64)),List.getD (gB s 3) (Int.toNat 2) (dfl (Ty.int IntKind.i64)),cm s⟩:Vers)=dH s:=rfl
   refine ⟨⟨by omega,by omega⟩,by decide,⟨by omega,by omega⟩,by decide,⟨by omega,by omega⟩,by decide,?_⟩
   refine a6 (fun a=>?_) (fun a=>?_)
   ·have a:¬bv (dH s)=0:=by rw [←ev];simpa using a
    rw [if_neg a] at he
    have a4:=(qX (dH s)).resolve_left a
    rw [he,ev,a4]
    repeat (first | exact trivial | refine ⟨by first | rfl | (exact hset) | trivial,?_⟩)
   ·have a:bv (dH s)=0:=by rw [←ev];simpa using a
    rw [if_pos a] at he
    rw [he]
    repeat (first | exact trivial | refine ⟨by first | rfl | (exact hset) | trivial,?_⟩)
 ·have he:=jc a (fun e=>absurd e b)
  refine ⟨⟨0,⟨by omega,rfl⟩,?_⟩,?_⟩
  ·exact Xr
  rintro k ⟨h1,h2⟩
  have lr:(gB s k).length=3:=rfl
  simp only [Int.toNat_natCast,lr]
  refine a6 (fun h=>?_) (fun h=>?_)
  ·have hk:k < (splitB 46 (aD s)).length:=by have:=Xo h;omega
   refine ⟨⟨by omega,by omega⟩,?_⟩
   have no:eH ((splitB 46 (aD s)).getD k (dfl .str))=false→bY s=(noV,40):=fun e=>by
    rw [he,nB (dfl .str) hk e,if_neg Bool.false_ne_true]
   have yes:eH ((splitB 46 (aD s)).getD k (dfl .str))=true→((splitB 46 (aD s)).take (k+1)).all eH=true:=gJ (dfl .str) hk h2
   have hset:=wI (s:=s) (k:=k) (by omega)
   refine a6 (fun a=>bad (no ?_)) (fun a=>a6 (fun b=>bad (no ?_)) (fun b=>a6 (fun c=>⟨⟨by omega,by have:=Xo c;omega⟩,a6 (fun d=>bad (no ?_)) (fun d=>?_)⟩) (fun c=>?_)))
   ·unfold eH
    rw [Bool.not_eq_true'] at a
    rw [a,Bool.false_and,Bool.false_and]
   ·have:=Xo b
    unfold eH
    rw [Xf (p:=List.length ((splitB 46 (aD s)).getD k (dfl .str))<=6) (by omega),Bool.and_false,Bool.false_and]
   ·have e:decide (bI (((splitB 46 (aD s)).getD k (dfl .str)).getD 0 0)=48)=true:=d
    have c:=Xo c
    unfold eH
    rw [e,Xd (p:=1 < List.length ((splitB 46 (aD s)).getD k (dfl .str))) (by omega)]
    simp
   ·have e:decide (bI (((splitB 46 (aD s)).getD k (dfl .str)).getD 0 0)=48)=false:=by rw [Bool.not_eq_true] at d;exact d
    have b:¬(6:Int) < _:=fun x=>b (Xd x)
    have en:eH ((splitB 46 (aD s)).getD k (dfl .str))=true:=by
     unfold eH
     rw [e]
     simp only [Bool.not_eq_true',Bool.not_eq_false] at a
     rw [a,Xd (p:=List.length ((splitB 46 (aD s)).getD k (dfl .str))<=6) (by omega)]
     simp
    have ed:bO ((splitB 46 (aD s)).getD k (dfl .str))=true/\((splitB 46 (aD s)).getD k (dfl .str)).length<=6:=by
     have e:=en
     unfold eH at e
     simp only [Bool.and_eq_true,decide_eq_true_eq] at e
     exact ⟨e.1.1,e.1.2⟩
    refine ⟨gX ed.1 (by omega),⟨by omega,by omega⟩,by omega,ak (by omega) (by omega),k+1,⟨by omega,yes en⟩,by omega,by omega,?_⟩
    repeat (first | exact trivial | refine ⟨by first | rfl | (exact hset) | trivial,?_⟩)
   ·have b:¬(6:Int) < _:=fun x=>b (Xd x)
    have c:¬(1:Int) < _:=fun x=>c (Xd x)
    have en:eH ((splitB 46 (aD s)).getD k (dfl .str))=true:=by
     unfold eH
     simp only [Bool.not_eq_true',Bool.not_eq_false] at a
     rw [a,Xd (p:=List.length ((splitB 46 (aD s)).getD k (dfl .str))<=6) (by omega),Xf (p:=1 < List.length ((splitB 46 (aD s)).getD k (dfl .str))) (by omega)]
     simp
    have ed:bO ((splitB 46 (aD s)).getD k (dfl .str))=true/\((splitB 46 (aD s)).getD k (dfl .str)).length<=6:=by
     have e:=en
     unfold eH at e
     simp only [Bool.and_eq_true,decide_eq_true_eq] at e
     exact ⟨e.1.1,e.1.2⟩
    refine ⟨gX ed.1 (by omega),⟨by omega,by omega⟩,by omega,ak (by omega) (by omega),k+1,⟨by omega,yes en⟩,by omega,by omega,?_⟩
    repeat (first | exact trivial | refine ⟨by first | rfl | (exact hset) | trivial,?_⟩)
  ·have hk:k=3:=by
    have:¬((k:Int) < ((splitB 46 (aD s)).length:Int)):=fun e=>h (Xd e)
    omega
   subst hk
   rw [qV (by omega)] at h2
   rw [if_pos h2] at he
   have ev:(⟨List.getD (gB s 3) (Int.toNat 0) (dfl (Ty.int IntKind.i64)),List.getD (gB s 3) (Int.toNat 1) (dfl (Ty.int IntKind.i64)),List.getD (gB s 3) (Int.toNat 2) (dfl (Ty.int IntKind.i64)),cm s⟩:Vers)=dH s:=rfl
   refine ⟨⟨by omega,by omega⟩,by decide,⟨by omega,by omega⟩,by decide,⟨by omega,by omega⟩,by decide,?_⟩
   refine a6 (fun a=>?_) (fun a=>?_)
   ·have a:¬bv (dH s)=0:=by rw [←ev];simpa using a
    rw [if_neg a] at he
    have a4:=(qX (dH s)).resolve_left a
    rw [he,ev,a4]
    repeat (first | exact trivial | refine ⟨by first | rfl | (exact hset) | trivial,?_⟩)
   ·have a:bv (dH s)=0:=by rw [←ev];simpa using a
    rw [if_pos a] at he
    rw [he]
    repeat (first | exact trivial | refine ⟨by first | rfl | (exact hset) | trivial,?_⟩)
end Go.AL.Seat
end
section
open Go Go.AL Go.Pd
namespace Go.AL.Seat
theorem FR (s:Str) (c:SC) (n:Nat) (e a:Int) (ho:n=c.out.length) :
  True/\false=false/\s=s/\c.pos=(ek e a c).2.pos/\c.out=(ek e a c).2.out/\e=(ek e a c).2.err/\a=(ek e a c).2.fat/\n=List.length (ek e a c).2.out/\True:=by
 exact ⟨trivial,rfl,rfl,rfl,rfl,rfl,rfl,ho,trivial⟩
end Go.AL.Seat
end
section
open Go Go.AL Go.Pd
namespace Go.AL.Seat
namespace C2r
def A0 (a:Int)(b:Int)(s:Str):=(px (List.drop (Int.toNat a) (List.take (Int.toNat b) s)))
def B0 (a:Int)(b:Int)(s:Str)(c:SC):=(ek (A0 a b s).err (a+(A0 a b s).pos) c)
end C2r
open C2r in
theorem CU (s:Str) (c:SC) (n:Nat) (a b:Int) (ho:n=c.out.length/\s.length<=4096/\0<=a/\a<=b/\b<=(s.length:Int)) :
  ((0:Int)<=a/\a<=b/\b<=(↑(List.length s):Int))/\List.length (List.drop (Int.toNat a) (List.take (Int.toNat b) s))<=(4096:Nat)/\if (!decide ((A0 a b s).err=(0:Int)))=true then inR IntKind.i64 (a+(A0 a b s).pos)/\n=List.length c.out/\True/\false=(dB s a b c).1/\s=s/\(B0 a b s c).2.pos=(dB s a b c).2.pos/\(B0 a b s c).2.out=(dB s a b c).2.out/\(B0 a b s c).2.err=(dB s a b c).2.err/\(B0 a b s c).2.fat=(dB s a b c).2.fat/\List.length (B0 a b s c).2.out=List.length (dB s a b c).2.out/\True else True/\true=(dB s a b c).1/\s=s/\c.pos=(dB s a b c).2.pos/\c.out=(dB s a b c).2.out/\c.err=(dB s a b c).2.err/\c.fat=(dB s a b c).2.fat/\n=List.length (dB s a b c).2.out/\True:=by
 delta B0 A0
 obtain ⟨h1,h2,h3,h4,h5⟩:=ho
 have hl:=pM h3 h4 h5
 have hc:List.drop (Int.toNat a) (List.take (Int.toNat b) s)=cut s a b:=rfl
 simp only [hc]
 refine ⟨⟨h3,h4,h5⟩,by omega,?_⟩
 unfold dB
 cases hb:cU (cut s a b) with
 | none=>
  rw [Cl hb]
  refine ⟨trivial,rfl,?_⟩
  repeat (first | exact trivial | exact ⟨h1,trivial⟩ | refine ⟨by first | rfl | trivial,?_⟩)
 | some k=>
  rw [Cm hb]
  have:=Cn hb
  refine ⟨ak (by show _<=a+(k:Int);omega) (by show a+(k:Int)<=_;omega),h1,trivial,?_⟩
  exact Xr
end Go.AL.Seat
end
section
open Go Go.AL Go.Pd
namespace Go.AL.Seat
namespace C2s
def A0 (k:Int)(t:Str)(fr:Int):=[{kind:=k,text:=t,pos:=fr:Tokn}]
end C2s
open C2s in
theorem HK (s:Str) (c:SC) (n:Nat) (k:Int) (t:Str) (fr:Int) (ho:n=c.out.length/\(n+1) *32<=140737488355328) :
  (List.length c.out=n/\(List.length c.out+List.length (A0 k t fr))*(32:Nat)<=(140737488355328:Nat))/\True/\true=true/\fr=fr/\s=s/\c.pos=(fT k t fr c).2.pos/\c.out++(A0 k t fr)=(fT k t fr c).2.out/\c.err=(fT k t fr c).2.err/\c.fat=(fT k t fr c).2.fat/\List.length (c.out++(A0 k t fr))=n+(1:Nat)/\True:=by
 delta A0
 obtain ⟨h1,h2⟩:=ho
 refine ⟨⟨h1.symm,by simp only [List.length_singleton];omega⟩,trivial,by trivial,by trivial,by trivial,rfl,rfl,rfl,rfl,?_,trivial⟩
 rw [List.length_append,List.length_singleton,h1]
end Go.AL.Seat
end
section
open Go Go.AL Go.Pd
namespace Go.AL.Seat
namespace C2t
def A0:=(1:Int)
def B0:=(0:Int)
def C0 (x:Nat × Str × SC):=B0<=x.2.2.pos
def D0 (s:Str):=(↑(List.length s):Int)
def E0 (x:Nat × Str × SC)(s:Str):=x.2.2.pos<=(D0 s)
def H0 (x:Nat × Str × SC)(c:SC)(s:Str):=(x.2.2.out=c.out/\x.2.2.err=c.err/\x.2.2.fat=c.fat/\(C0 x)/\(E0 x s)/\(↑(List.length x.2.1):Int)<=x.2.2.pos/\(D0 s)<x.2.2.pos+(↑x.1:Int)/\cH s c=cD s c.pos x.1 x.2.1 x.2.2)
def I0 (x:Nat × Str × SC):=(aJ x.2.1)
def J0 (s:Str):=List.length s<=(4096:Nat)
def K0 (s:Str)(c:SC):=(cH s c)
def L0 (c:SC)(x:Nat × Str × SC):=(ek (60:Int) c.pos x.2.2)
def M0 (n:Nat)(x:Nat × Str × SC)(s:Str)(c:SC):=n=List.length x.2.2.out/\True/\[]=(K0 s c).1/\false=(K0 s c).2.1/\s=s/\(L0 c x).2.pos=(K0 s c).2.2.pos/\(L0 c x).2.out=(K0 s c).2.2.out/\(L0 c x).2.err=(K0 s c).2.2.err/\(L0 c x).2.fat=(K0 s c).2.2.fat/\List.length (L0 c x).2.out=List.length (K0 s c).2.2.out/\True
def N0:=([110,116,34,92]:Str)
def O0 (s:Str)(x:Nat × Str × SC):=(bAt s (x.2.2.pos+A0))
def P0 (s:Str)(x:Nat × Str × SC):=[(↑(UInt8.toNat (List.getD ([10,9,34,92]:Str) (Int.toNat (ol N0 (O0 s x))) (0:UInt8))):Int)]
def Q0 (s:Str)(x:Nat × Str × SC):=(↑(ae aN s x.2.2.pos):Int)
def R0 (s:Str)(x:Nat × Str × SC):=(cut s x.2.2.pos (x.2.2.pos+(Q0 s x)))
def S0 (s:Str)(x:Nat × Str × SC):=(dB s (x.2.2.pos+(Q0 s x) - (↑(List.length (R0 s x)):Int)) (x.2.2.pos+(Q0 s x)) {pos:=x.2.2.pos+(Q0 s x),out:=x.2.2.out,err:=x.2.2.err,fat:=x.2.2.fat:SC})
end C2t
open C2t in
theorem zG (s:Str) (c:SC) (n:Nat) (ho:n=c.out.length/\n<=4096/\s.length<=4096/\0<=c.pos/\c.pos<=(s.length:Int)/\c.pos < (s.length:Int)) :
  inR IntKind.i64 (c.pos+A0)/\(∃(x:Nat × Str × SC),(H0 x c s)/\aJ x.2.1=[]/\c.pos=c.pos/\s=s/\c.pos+A0=x.2.2.pos/\c.out=x.2.2.out/\c.err=x.2.2.err/\c.fat=x.2.2.fat/\List.length (I0 x)=(0:Nat)/\n=n/\True)/\∀(x:Nat × Str × SC),x.2.2.out=c.out/\x.2.2.err=c.err/\x.2.2.fat=c.fat/\(C0 x)/\(E0 x s)/\(↑(List.length x.2.1):Int)<=x.2.2.pos/\(D0 s)<x.2.2.pos+(↑x.1:Int)/\cH s c=cD s c.pos x.1 x.2.1 x.2.2→((J0 s)/\(C0 x)/\(E0 x s)/\B0<=B0/\B0<=(2:Int))/\if decide (bAt s (x.2.2.pos+B0)<(32:Int))=true then (M0 n x s c) else if decide (bAt s (x.2.2.pos+B0)=(34:Int))=true then inR IntKind.i64 (x.2.2.pos+A0)/\True/\List.map (fun (n:Int)=>UInt8.ofNat (Int.toNat n)) (I0 x)=(K0 s c).1/\true=(K0 s c).2.1/\s=s/\x.2.2.pos+A0=(K0 s c).2.2.pos/\x.2.2.out=(K0 s c).2.2.out/\x.2.2.err=(K0 s c).2.2.err/\x.2.2.fat=(K0 s c).2.2.fat/\n=List.length (K0 s c).2.2.out/\True else if decide (bAt s (x.2.2.pos+B0)=(92:Int))=true then ((J0 s)/\(C0 x)/\(E0 x s)/\B0<=A0/\A0<=(2:Int))/\if decide (ol N0 (O0 s x)<B0)=true then (M0 n x s c) else (B0<=ol N0 (O0 s x)/\ol N0 (O0 s x)<(↑(List.length ([10,9,34,92]:Str)):Int))/\(List.length (I0 x)=List.length (I0 x)/\(List.length (I0 x)+List.length (P0 s x))*(1:Nat)<=(140737488355328:Nat))/\inR IntKind.i64 (x.2.2.pos+(2:Int))/\∃(y:Nat × Str × SC),(H0 y c s)/\y.1<x.1/\aJ x.2.1++(P0 s x)=aJ y.2.1/\c.pos=c.pos/\s=s/\x.2.2.pos+(2:Int)=y.2.2.pos/\x.2.2.out=y.2.2.out/\x.2.2.err=y.2.2.err/\x.2.2.fat=y.2.2.fat/\List.length (aJ x.2.1++(P0 s x))=List.length (I0 y)/\n=n/\True else ((J0 s)/\(C0 x)/\(E0 x s))/\inR IntKind.i64 (x.2.2.pos+(Q0 s x) - (↑(List.length (R0 s x)):Int))/\(n=List.length x.2.2.out/\(J0 s)/\B0<=x.2.2.pos+(Q0 s x) - (↑(List.length (R0 s x)):Int)/\x.2.2.pos+(Q0 s x) - (↑(List.length (R0 s x)):Int)<=x.2.2.pos+(Q0 s x)/\x.2.2.pos+(Q0 s x)<=(D0 s))/\if (!(S0 s x).1)=true then True/\[]=(K0 s c).1/\false=(K0 s c).2.1/\s=s/\(S0 s x).2.pos=(K0 s c).2.2.pos/\(S0 s x).2.out=(K0 s c).2.2.out/\(S0 s x).2.err=(K0 s c).2.2.err/\(S0 s x).2.fat=(K0 s c).2.2.fat/\List.length (S0 s x).2.out=List.length (K0 s c).2.2.out/\True else (List.length (I0 x)=List.length (I0 x)/\(List.length (I0 x)+List.length (R0 s x))*(1:Nat)<=(140737488355328:Nat))/\∃(y:Nat × Str × SC),(H0 y c s)/\y.1<x.1/\aJ x.2.1++aJ (R0 s x)=aJ y.2.1/\c.pos=c.pos/\s=s/\(S0 s x).2.pos=y.2.2.pos/\(S0 s x).2.out=y.2.2.out/\(S0 s x).2.err=y.2.2.err/\(S0 s x).2.fat=y.2.2.fat/\List.length (aJ x.2.1++aJ (R0 s x))=List.length (I0 y)/\List.length (S0 s x).2.out=n/\True:=by
 delta S0 R0 Q0 P0 O0 N0 M0 L0 K0 J0 I0 H0 E0 D0 C0 B0 A0
 obtain ⟨ho1,ho2,ho3,ho4,ho5,ho6⟩:=ho
 refine ⟨ak (by omega) (by omega),⟨(s.length+2,[],ce c (c.pos+1)),⟨rfl,rfl,rfl,by show 0<=c.pos+1;omega,by show c.pos+1<=_;omega,by show ((0:Nat):Int)<=c.pos+1;omega,by show _ < c.pos+1+((s.length+2:Nat):Int);omega,rfl⟩,?_⟩,?_⟩
 ·exact Xr
 rintro ⟨f,acc,d⟩ ⟨d1,d2,d3,d4,d5,d6,d7,d8⟩
 simp only at d1 d2 d3 d4 d5 d6 d7 d8
 obtain ⟨f,rfl⟩:∃g,f=g+1:=⟨f - 1,by omega⟩
 rw [cD] at d8
 have e0:d.pos+0=d.pos:=Int.add_zero _
 have hn:n=d.out.length:=by rw [d1];exact ho1
 simp only [e0]
 refine ⟨⟨by omega,by omega,by omega,by omega,by omega⟩,a6 (fun h=>?_) (fun h=>?_)⟩
 ·replace h:=Xo h
  rw [if_pos h] at d8
  rw [d8]
  refine ⟨hn,trivial,?_⟩
  exact Xr
 replace h:¬bAt s d.pos < 32:=fun e=>h (Xd e)
 rw [if_neg h] at d8
 refine a6 (fun k=>?_) (fun k=>?_)
 ·replace k:=Xo k
  rw [if_pos k] at d8
  rw [d8]
  refine ⟨ak (by omega) (by omega),trivial,mL acc,by trivial,by trivial,rfl,rfl,rfl,rfl,hn,trivial⟩
 replace k:¬bAt s d.pos=34:=fun e=>k (Xd e)
 rw [if_neg k] at d8
 refine a6 (fun j=>?_) (fun j=>?_)
 ·replace j:=Xo j
  rw [if_pos j] at d8
  refine ⟨⟨by omega,by omega,by omega,by omega,by omega⟩,?_⟩
  cases he:ij (bAt s (d.pos+1)) with
  | none=>
   have hi:=F3 he
   rw [he] at d8
   simp only at d8
   refine a6 (fun _=>?_) (fun e=>absurd (Xd hi) e)
   rw [d8]
   refine ⟨hn,trivial,?_⟩
   exact Xr
  | some x=>
   obtain ⟨i1,i2,i3⟩:=F4 he
   have hp:=ot he
   rw [he] at d8
   simp only at d8
   refine a6 (fun e=>absurd (Xo e) (by omega)) (fun _=>?_)
   simp only [i3]
   refine ⟨⟨i1,i2⟩,⟨by trivial,by have:(aJ acc).length=acc.length:=List.length_map _;rw [this];simp only [List.length_singleton];omega⟩,ak (by omega) (by omega),(f,acc++[UInt8.ofNat x.toNat],ce d (d.pos+2)),⟨d1,d2,d3,by show 0<=d.pos+2;omega,by show d.pos+2<=_;omega,by show ((acc++[_]).length:Int)<=d.pos+2;rw [List.length_append,List.length_singleton];omega,by show _ < d.pos+2+(f:Int);omega,d8⟩,by show f < f+1;omega,by show _=aJ (acc++[UInt8.ofNat x.toNat]);rw [eA];rfl,by trivial,by trivial,rfl,rfl,rfl,rfl,by rw [eA];rfl,by trivial,trivial⟩
 replace j:¬bAt s d.pos=92:=fun e=>j (Xd e)
 rw [if_neg j] at d8
 obtain ⟨p1,p2⟩:=ou h k j
 have p2:=p2 d4
 have p3:=du (pr:=aN) d4 (Int.le_of_lt p1)
 have hcl:=pM (s:=s) d4 (b:=d.pos+(ae aN s d.pos:Int)) (by omega) p3
 have e1:d.pos+(ae aN s d.pos:Int) - ((cut s d.pos (d.pos+(ae aN s d.pos:Int))).length:Int)=d.pos:=by omega
 simp only [e1]
 refine ⟨⟨by omega,by omega,by omega⟩,ak (by omega) (by omega),⟨hn,by omega,by omega,by omega,by omega⟩,?_⟩
 unfold dB
 cases hb:cU (cut s d.pos (d.pos+(ae aN s d.pos:Int))) with
 | some q=>
  rw [hb] at d8
  simp only at d8
  rw [d8]
  refine a6 (fun _=>?_) (fun e=>absurd rfl e)
  refine ⟨trivial,?_⟩
  exact Xr
 | none=>
  rw [hb] at d8
  simp only at d8
  refine a6 (fun e=>Bool.noConfusion e) (fun _=>?_)
  have hbl:∀x:Str,(aJ x).length=x.length:=fun _=>List.length_map _
  refine ⟨⟨by trivial,by rw [hbl];omega⟩,(f,acc++cut s d.pos (d.pos+(ae aN s d.pos:Int)),ce d (d.pos+(ae aN s d.pos:Int))),⟨d1,d2,d3,by show 0<=d.pos+_;omega,p3,by show ((acc++cut s _ _).length:Int)<=d.pos+_;rw [List.length_append];omega,by show _ < d.pos+_+(f:Int);omega,d8⟩,by show f < f+1;omega,(eA _ _).symm,by trivial,by trivial,rfl,rfl,rfl,rfl,by rw [eA],?_⟩
  first | exact ⟨hn,trivial⟩ | exact ⟨hn.symm,trivial⟩
end Go.AL.Seat
end
section
open Go Go.AL Go.Pd
namespace Go.AL.Seat
namespace C2u
def A0 (s:Str):=True/\true=fS s/\True
end C2u
open C2u in
theorem HL (s:Str)  :
  if decide (s=([60,61]:Str))=true then (A0 s) else if decide (s=([62,61]:Str))=true then (A0 s) else if decide (s=([45,62]:Str))=true then (A0 s) else if decide ((↑(List.length s):Int)=(1:Int))=true then List.length s=(1:Nat)/\True/\decide (List.getD s (0:Nat) (0:UInt8)∈([40,41,123,125,91,93,60,62,61,94,42,44,58,46,47,64,124]:Str))=fS s/\True else True/\false=fS s/\True:=by
 delta A0
 unfold fS
 refine a6 (fun h=>?_) (fun h=>?_)
 ·rw [h];exact ⟨trivial,rfl,trivial⟩
 rw [Bool.not_eq_true] at h
 refine a6 (fun k=>?_) (fun k=>?_)
 ·rw [k,h];exact ⟨trivial,rfl,trivial⟩
 rw [Bool.not_eq_true] at k
 refine a6 (fun j=>?_) (fun j=>?_)
 ·rw [k,h,j];exact ⟨trivial,rfl,trivial⟩
 rw [Bool.not_eq_true] at j
 rw [h,k,j]
 simp only [Bool.false_or]
 refine a6 (fun i=>?_) (fun i=>?_)
 ·have i:=Xo i
  have e:s.length=1:=by omega
  rw [Xd e,Bool.true_and]
  exact ⟨e,trivial,rfl,trivial⟩
 ·have i:¬(s.length:Int)=1:=fun e=>i (Xd e)
  rw [Xf (p:=s.length=1) (by omega),Bool.false_and]
  exact ⟨trivial,rfl,trivial⟩
end Go.AL.Seat
end
