/- What the functions' conditions say, proved. The contracts of the functions. Plain facts. No condition. -/
import Derived.Test.YtdmbjejhifjhbaaGreatDoorT26
set_option linter.unusedVariables false
set_option linter.unusedSimpArgs false
set_option linter.unnecessarySimpa false
set_option linter.deprecated false
set_option linter.unusedSectionVars false
set_option maxRecDepth 100000
section
open Go Go.AL Go.Pd
namespace Go.AL.Seat
namespace C55
def A0 (x:Nat)(l:List Tokn):=(x<=List.length l/\hX (List.take x l)<=(100000:Nat)/\List.all (List.take x l) kE=true)
def B0 (x:Nat)(l:List Tokn):=(↑(hX (List.take x l)):Int)
def C0 (x:Nat):=(↑x:Int)
def D0 (x:Nat)(l:List Tokn):=((0:Int)<=(C0 x)/\(C0 x)<(↑(List.length l):Int))
def E0 (l:List Tokn)(x:Nat):=(List.getD l (Int.toNat (C0 x)) (dfl (Ty.st SN.token)))
def H0 (l:List Tokn)(x:Nat):=(↑(List.length (E0 l x).text):Int)
def I0 (l:List Tokn)(x:Nat):=(min (H0 l x) (100000:Int)+(1:Int))
def J0 (l:List Tokn):=True/\false=lE l/\True
def K0 (x_1:Nat)(l:List Tokn)(x:Nat):=(x_1<=List.length (E0 l x).text/\List.all (List.take x_1 (E0 l x).text) cx=true)
def L0 (x:Nat)(l:List Tokn):=(B0 x l)+(I0 l x)=(B0 x l)+(I0 l x)/\(C0 x)=(C0 x)/\l=l/\true=true/\false=false/\false=false/\True
def M0 (l:List Tokn)(x:Nat)(x_1:Nat):=(↑(UInt8.toNat (List.getD (E0 l x).text (Int.toNat (C0 x_1)) (0:UInt8))):Int)
def N0 (x:Nat)(l:List Tokn):=inR IntKind.i64 ((C0 x)+(1:Int))/\∃(y:Nat),(A0 y l)/\List.length l - y<List.length l - x/\(B0 x l)+(I0 l x)=(B0 y l)/\(C0 x)+(1:Int)=(C0 y)/\l=l/\True
def O0 (x:Nat)(l:List Tokn):=(D0 x l)/\if decide ((E0 l x).kind=(3:Int))=true then (D0 x l)/\if decide ((E0 l x).text=[])=true then (J0 l) else (N0 x l) else (N0 x l)
def P0 (l:List Tokn)(x:Nat):=(∃(x_1:Nat),(K0 x_1 l x)/\(0:Int)=(C0 x_1)/\(L0 x l))/\∀(x_1:Nat),x_1<=List.length (E0 l x).text/\List.all (List.take x_1 (E0 l x).text) cx=true→(D0 x l)/\if decide ((E0 l x).kind=(3:Int))=true then (D0 x l)/\if decide ((C0 x_1)<(H0 l x))=true then (D0 x l)/\((0:Int)<=(C0 x_1)/\(C0 x_1)<(H0 l x))/\if decide ((M0 l x x_1)<(48:Int))=true then (J0 l) else (D0 x l)/\((0:Int)<=(C0 x_1)/\(C0 x_1)<(H0 l x))/\if decide ((57:Int)<(M0 l x x_1))=true then (J0 l) else inR IntKind.i64 ((C0 x_1)+(1:Int))/\∃(y:Nat),(K0 y l x)/\List.length (E0 l x).text - y<List.length (E0 l x).text - x_1/\(C0 x_1)+(1:Int)=(C0 y)/\(L0 x l) else (O0 x l) else (O0 x l)
end C55
open C55 in
theorem Ie (l:List Tokn) (hl:Wf (.lst (.st .token)) l) :
  (∃(x:Nat),(A0 x l)/\(0:Int)=(B0 x l)/\(0:Int)=(C0 x)/\l=l/\True)/\∀(x:Nat),x<=List.length l/\hX (List.take x l)<=(100000:Nat)/\List.all (List.take x l) kE=true→if decide ((C0 x)<(↑(List.length l):Int))=true then (D0 x l)/\inR IntKind.i64 (I0 l x)/\inR IntKind.i64 ((B0 x l)+(I0 l x))/\if decide ((100000:Int)<(B0 x l)+(I0 l x))=true then (J0 l) else (D0 x l)/\if decide ((E0 l x).kind=(3:Int))=true then (D0 x l)/\if decide ((15:Int)<(H0 l x))=true then (J0 l) else (P0 l x) else (P0 l x) else True/\true=lE l/\True:=by
 delta P0 O0 N0 M0 L0 K0 J0 I0 H0 E0 D0 C0 B0 A0
 have ln:=hl.len
 simp only [Int.toNat_natCast,eq_self,true_and,and_true]
 refine ⟨⟨0,⟨Nat.zero_le _,by simp [hX],by simp⟩,by simp [hX],rfl⟩,?_⟩
 rintro k ⟨h1,h2,h3⟩
 refine a6 (fun h=>?_) (fun h=>?_)
 ·replace h:=Xo h
  have hk:k < l.length:=by omega
  have ht:=eZ l k (dfl (.st .token)) hk
  have hs:hX (l.take (k+1))=hX (l.take k)+(min (l.getD k (dfl (.st .token))).text.length 100000+1):=by rw [ht,yk,GN]
  refine ⟨by omega,ak (by omega) (by omega),ak (by omega) (by omega),a6 (fun a=>?_) (fun a=>?_)⟩
  ·replace a:=Xo a
   exact (GO (k:=k+1) (by rw [hs];omega)).symm
  replace a:¬(100000:Int) < (hX (l.take k):Int)+(min ((l.getD k (dfl (.st .token))).text.length:Int) 100000+1):=fun e=>a (Xd e)
  have hs2:hX (l.take (k+1))<=100000:=by rw [hs];omega
  have nx:kE (l.getD k (dfl (.st .token)))=true→inR IntKind.i64 ((k:Int)+1)/\∃y:Nat,(y<=l.length/\hX (l.take y)<=100000/\(l.take y).all kE=true)/\l.length - y < l.length - k/\(hX (l.take k):Int)+(min ((l.getD k (dfl (.st .token))).text.length:Int) 100000+1)=(hX (l.take y):Int)/\(k:Int)+1=(y:Int):=fun q=>
   ⟨bN hk ln,k+1,⟨by omega,hs2,by rw [ht,List.all_append,h3];simpa using q⟩,by omega,by rw [hs];omega,by omega⟩
  have no:kE (l.getD k (dfl (.st .token)))=false→false=lE l:=fun q=>(Ic hk q).symm
  refine ⟨by omega,a6 (fun b=>?_) (fun b=>?_)⟩
  ·have b:=Xo b
   refine ⟨by omega,a6 (fun c=>?_) (fun c=>?_)⟩
   ·have c:=Xo c
    exact no (by unfold kE;rw [Xd b,Xf (show ¬(l.getD k (dfl (.st .token))).text.length<=15 by omega)];rfl)
   have hlen:(l.getD k (dfl (.st .token))).kind=3→(l.getD k (dfl (.st .token))).text.length<=15:=fun _=>by
    have:¬(15:Int) < ((l.getD k (dfl (.st .token))).text.length:Int):=fun e=>c (Xd e)
    omega
   refine ⟨⟨0,⟨Nat.zero_le _,by simp⟩,rfl⟩,?_⟩
   rintro j ⟨j1,j2⟩
   refine ⟨by omega,a6 (fun c=>?_) (fun c=>?_)⟩
   ·have c:=Xo c
    refine ⟨by omega,a6 (fun d=>?_) (fun d=>?_)⟩
    ·have d:=Xo d
     have hj:j < (l.getD k (dfl (.st .token))).text.length:=by omega
     have hm:=dy (l.getD k (dfl (.st .token))).text j 0 hj
     have nd:cx ((l.getD k (dfl (.st .token))).text.getD j 0)=false→false=lE l:=fun q=>no (by
      unfold kE
      rw [Xd c]
      have:(l.getD k (dfl (.st .token))).text.all cx=false:=by
       rw [Bool.eq_false_iff]
       intro e
       rw [List.all_eq_true.1 e _ hm] at q
       cases q
      rw [this]
      simp)
     refine ⟨by omega,by omega,a6 (fun e=>?_) (fun e=>?_)⟩
     ·have e:=Xo e
      exact nd (by unfold cx aM bI;rw [Xf (by omega)];rfl)
     have e:¬(UInt8.toNat ((l.getD k (dfl (.st .token))).text.getD j 0):Int) < 48:=fun q=>e (Xd q)
     refine ⟨by omega,by omega,a6 (fun f=>?_) (fun f=>?_)⟩
     ·have f:=Xo f
      exact nd (by unfold cx aM bI;rw [Xf (show ¬(UInt8.toNat ((l.getD k (dfl (.st .token))).text.getD j 0):Int)<=57 by omega),Bool.and_false])
     have f:¬57 < (UInt8.toNat ((l.getD k (dfl (.st .token))).text.getD j 0):Int):=fun q=>f (Xd q)
     have hd:cx ((l.getD k (dfl (.st .token))).text.getD j 0)=true:=by unfold cx aM bI;rw [Xd (show 48<=(UInt8.toNat ((l.getD k (dfl (.st .token))).text.getD j 0):Int) by omega),Xd (show (UInt8.toNat ((l.getD k (dfl (.st .token))).text.getD j 0):Int)<=57 by omega)];rfl
     have h15:=hlen c
     exact ⟨ak (by omega) (by omega),j+1,⟨by omega,by rw [eZ (l.getD k (dfl (.st .token))).text j 0 hj,List.all_append,j2];simpa using hd⟩,by omega,by omega⟩
    ·have ej:j=(l.getD k (dfl (.st .token))).text.length:=by
      have:¬((j:Int) < ((l.getD k (dfl (.st .token))).text.length:Int)):=fun e=>d (Xd e)
      omega
     rw [ej,List.take_length] at j2
     refine ⟨by omega,a6 (fun _=>?_) (fun q=>absurd (Xd c) q)⟩
     refine ⟨by omega,a6 (fun e=>?_) (fun e=>?_)⟩
     ·have e:=Xo e
      exact no (by unfold kE;rw [Xd c,e];rfl)
     ·have e:¬(l.getD k (dfl (.st .token))).text=[]:=fun q=>e (Xd q)
      exact nx (by unfold kE;rw [Xd c,Xd (hlen c),j2,Xf e];rfl)
   ·have c3:¬(l.getD k (dfl (.st .token))).kind=3:=fun q=>c (Xd q)
    refine ⟨by omega,a6 (fun q=>absurd q c) (fun _=>?_)⟩
    exact nx (by unfold kE;rw [Xf c3];rfl)
  ·have hlen:(l.getD k (dfl (.st .token))).kind=3→(l.getD k (dfl (.st .token))).text.length<=15:=fun q=>absurd (Xd q) b
   refine ⟨⟨0,⟨Nat.zero_le _,by simp⟩,rfl⟩,?_⟩
   rintro j ⟨j1,j2⟩
   refine ⟨by omega,a6 (fun c=>?_) (fun c=>?_)⟩
   ·have c:=Xo c
    refine ⟨by omega,a6 (fun d=>?_) (fun d=>?_)⟩
    ·have d:=Xo d
     have hj:j < (l.getD k (dfl (.st .token))).text.length:=by omega
     have hm:=dy (l.getD k (dfl (.st .token))).text j 0 hj
     have nd:cx ((l.getD k (dfl (.st .token))).text.getD j 0)=false→false=lE l:=fun q=>no (by
      unfold kE
      rw [Xd c]
      have:(l.getD k (dfl (.st .token))).text.all cx=false:=by
       rw [Bool.eq_false_iff]
       intro e
       rw [List.all_eq_true.1 e _ hm] at q
       cases q
      rw [this]
      simp)
     refine ⟨by omega,by omega,a6 (fun e=>?_) (fun e=>?_)⟩
     ·have e:=Xo e
      exact nd (by unfold cx aM bI;rw [Xf (by omega)];rfl)
     have e:¬(UInt8.toNat ((l.getD k (dfl (.st .token))).text.getD j 0):Int) < 48:=fun q=>e (Xd q)
     refine ⟨by omega,by omega,a6 (fun f=>?_) (fun f=>?_)⟩
     ·have f:=Xo f
      exact nd (by unfold cx aM bI;rw [Xf (show ¬(UInt8.toNat ((l.getD k (dfl (.st .token))).text.getD j 0):Int)<=57 by omega),Bool.and_false])
     have f:¬57 < (UInt8.toNat ((l.getD k (dfl (.st .token))).text.getD j 0):Int):=fun q=>f (Xd q)
     have hd:cx ((l.getD k (dfl (.st .token))).text.getD j 0)=true:=by unfold cx aM bI;rw [Xd (show 48<=(UInt8.toNat ((l.getD k (dfl (.st .token))).text.getD j 0):Int) by omega),Xd (show (UInt8.toNat ((l.getD k (dfl (.st .token))).text.getD j 0):Int)<=57 by omega)];rfl
     have h15:=hlen c
     exact ⟨ak (by omega) (by omega),j+1,⟨by omega,by rw [eZ (l.getD k (dfl (.st .token))).text j 0 hj,List.all_append,j2];simpa using hd⟩,by omega,by omega⟩
    ·have ej:j=(l.getD k (dfl (.st .token))).text.length:=by
      have:¬((j:Int) < ((l.getD k (dfl (.st .token))).text.length:Int)):=fun e=>d (Xd e)
      omega
     rw [ej,List.take_length] at j2
     refine ⟨by omega,a6 (fun _=>?_) (fun q=>absurd (Xd c) q)⟩
     refine ⟨by omega,a6 (fun e=>?_) (fun e=>?_)⟩
     ·have e:=Xo e
      exact no (by unfold kE;rw [Xd c,e];rfl)
     ·have e:¬(l.getD k (dfl (.st .token))).text=[]:=fun q=>e (Xd q)
      exact nx (by unfold kE;rw [Xd c,Xd (hlen c),j2,Xf e];rfl)
   ·have c3:¬(l.getD k (dfl (.st .token))).kind=3:=fun q=>c (Xd q)
    refine ⟨by omega,a6 (fun q=>absurd q c) (fun _=>?_)⟩
    exact nx (by unfold kE;rw [Xf c3];rfl)
 ·have e:k=l.length:=by
   have:¬((k:Int) < (l.length:Int)):=fun e=>h (Xd e)
   omega
  subst e
  rw [List.take_length] at h2 h3
  unfold lE
  rw [Xd h2,h3]
  rfl
end Go.AL.Seat
end
section
open Go Go.AL Go.Pd
namespace Go.AL.Seat
theorem DW (s:Str) (hs:Wf .str s) :
  True/\(fY s).1=(aB s).1/\(!decide ((fY s).2.err=(0:Int)))=!decide ((aB s).2.err=(0:Int))/\True:=by
 rw [DT]
 exact ⟨trivial,rfl,rfl,trivial⟩
end Go.AL.Seat
end
section
open Go Go.AL Go.Pd
namespace Go.AL.Seat
namespace C57
def A0 (x:Nat)(l:List Tokn):=(x<=List.length l/\fk l=List.all (List.drop x l) kB)
def B0:=(0:Int)
def C0 (x:Nat):=(↑x:Int)
def D0 (x:Nat)(l:List Tokn):=(B0<=(C0 x)/\(C0 x)<(↑(List.length l):Int))
def E0 (l:List Tokn)(x:Nat):=(List.getD l (Int.toNat (C0 x)) (dfl (Ty.st SN.token)))
def H0 (l:List Tokn):=True/\false=fk l/\True
def I0 (l:List Tokn)(x:Nat):=(B0<=B0/\B0<(↑(List.length (aB (E0 l x).text).1):Int))
def J0 (l:List Tokn)(x:Nat):=(List.getD (aB (E0 l x).text).1 (Int.toNat B0) (dfl (Ty.st SN.token)))
def K0 (x:Nat)(l:List Tokn):=inR IntKind.i64 ((C0 x)+(1:Int))/\∃(y:Nat),(A0 y l)/\List.length l - y<List.length l - x/\(C0 x)+(1:Int)=(C0 y)/\l=l/\True
def L0 (x:Nat)(l:List Tokn):=(D0 x l)/\if (!decide ((aB (E0 l x).text).2.err=B0))=true then (H0 l) else if (!decide ((↑(List.length (aB (E0 l x).text).1):Int)=(2:Int)))=true then (H0 l) else (I0 l x)/\(D0 x l)/\if (!decide ((J0 l x).kind=(E0 l x).kind))=true then (H0 l) else (I0 l x)/\(D0 x l)/\if (!decide ((J0 l x).text=(E0 l x).text))=true then (H0 l) else (K0 x l)
end C57
open C57 in
theorem ym (l:List Tokn) (hl:Wf (.lst (.st .token)) l) :
  (∃(x:Nat),(A0 x l)/\B0=(C0 x)/\l=l/\True)/\∀(x:Nat),x<=List.length l/\fk l=List.all (List.drop x l) kB→if decide ((C0 x)<(↑(List.length l):Int))=true then (D0 x l)/\if decide ((E0 l x).kind=(1:Int))=true then (L0 x l) else (D0 x l)/\if decide ((E0 l x).kind=(2:Int))=true then (L0 x l) else (K0 x l) else True/\true=fk l/\True:=by
 delta L0 K0 J0 I0 H0 E0 D0 C0 B0 A0
 have ln:=hl.len
 simp only [Int.toNat_natCast,Int.toNat_zero,eq_self,true_and,and_true]
 refine ⟨⟨0,⟨Nat.zero_le _,rfl⟩,rfl⟩,?_⟩
 rintro k ⟨h1,h3⟩
 refine a6 (fun h=>?_) (fun h=>?_)
 ·replace h:=Xo h
  have hk:k < l.length:=by omega
  have eq1:fk l=(kB (l.getD k (dfl (.st .token))) && (l.drop (k+1)).all kB):=by rw [h3,aT l k (dfl (.st .token)) hk,List.all_cons]
  have nx:kB (l.getD k (dfl (.st .token)))=true→inR IntKind.i64 ((k:Int)+1)/\∃y:Nat,(y<=l.length/\fk l=(l.drop y).all kB)/\l.length - y < l.length - k/\(k:Int)+1=(y:Int):=by
   intro q
   rw [q,Bool.true_and] at eq1
   exact ⟨bN hk ln,k+1,⟨by omega,eq1⟩,by omega,by omega⟩
  have no:kB (l.getD k (dfl (.st .token)))=false→false=fk l:=fun q=>by rw [eq1,q];rfl
  have body:((l.getD k (dfl (.st .token))).kind=1∨(l.getD k (dfl (.st .token))).kind=2)→kB (l.getD k (dfl (.st .token)))=(decide ((aB (l.getD k (dfl (.st .token))).text).2.err=0) && decide ((aB (l.getD k (dfl (.st .token))).text).1.length=2) && decide (((aB (l.getD k (dfl (.st .token))).text).1.getD 0 (dfl (.st .token))).kind=(l.getD k (dfl (.st .token))).kind) && decide (((aB (l.getD k (dfl (.st .token))).text).1.getD 0 (dfl (.st .token))).text=(l.getD k (dfl (.st .token))).text)):=fun q=>by
   unfold kB
   rcases q with q | q <;> rw [q] <;> simp
  refine ⟨by omega,a6 (fun a=>?_) (fun a=>?_)⟩
  ·have b:=body (.inl (Xo a))
   refine ⟨by omega,a6 (fun d=>?_) (fun d=>?_)⟩
   ·have d:¬(aB (l.getD k (dfl (.st .token))).text).2.err=0:=by simpa using d
    exact no (by rw [b,Xf d];rfl)
   have d:(aB (l.getD k (dfl (.st .token))).text).2.err=0:=by simpa using d
   refine a6 (fun e=>?_) (fun e=>?_)
   ·have e:¬((aB (l.getD k (dfl (.st .token))).text).1.length:Int)=2:=by simpa using e
    exact no (by rw [b,Xf (show ¬(aB (l.getD k (dfl (.st .token))).text).1.length=2 by omega)];simp)
   have e:((aB (l.getD k (dfl (.st .token))).text).1.length:Int)=2:=by simpa using e
   refine ⟨by omega,by omega,a6 (fun f=>?_) (fun f=>?_)⟩
   ·have f:¬((aB (l.getD k (dfl (.st .token))).text).1.getD 0 (dfl (.st .token))).kind=(l.getD k (dfl (.st .token))).kind:=by simpa using f
    exact no (by rw [b,Xf f];simp)
   have f:((aB (l.getD k (dfl (.st .token))).text).1.getD 0 (dfl (.st .token))).kind=(l.getD k (dfl (.st .token))).kind:=by simpa using f
   refine ⟨by omega,by omega,a6 (fun g=>?_) (fun g=>?_)⟩
   ·have g:¬((aB (l.getD k (dfl (.st .token))).text).1.getD 0 (dfl (.st .token))).text=(l.getD k (dfl (.st .token))).text:=by simpa using g
    exact no (by rw [b,Xf g];simp)
   have g:((aB (l.getD k (dfl (.st .token))).text).1.getD 0 (dfl (.st .token))).text=(l.getD k (dfl (.st .token))).text:=by simpa using g
   exact nx (by rw [b,Xd d,Xd f,Xd g,Xd (show (aB (l.getD k (dfl (.st .token))).text).1.length=2 by omega)];rfl)
  ·replace a:¬(l.getD k (dfl (.st .token))).kind=1:=fun e=>a (Xd e)
   refine ⟨by omega,a6 (fun c=>?_) (fun c=>?_)⟩
   ·have b:=body (.inr (Xo c))
    refine ⟨by omega,a6 (fun d=>?_) (fun d=>?_)⟩
    ·have d:¬(aB (l.getD k (dfl (.st .token))).text).2.err=0:=by simpa using d
     exact no (by rw [b,Xf d];rfl)
    have d:(aB (l.getD k (dfl (.st .token))).text).2.err=0:=by simpa using d
    refine a6 (fun e=>?_) (fun e=>?_)
    ·have e:¬((aB (l.getD k (dfl (.st .token))).text).1.length:Int)=2:=by simpa using e
     exact no (by rw [b,Xf (show ¬(aB (l.getD k (dfl (.st .token))).text).1.length=2 by omega)];simp)
    have e:((aB (l.getD k (dfl (.st .token))).text).1.length:Int)=2:=by simpa using e
    refine ⟨by omega,by omega,a6 (fun f=>?_) (fun f=>?_)⟩
    ·have f:¬((aB (l.getD k (dfl (.st .token))).text).1.getD 0 (dfl (.st .token))).kind=(l.getD k (dfl (.st .token))).kind:=by simpa using f
     exact no (by rw [b,Xf f];simp)
    have f:((aB (l.getD k (dfl (.st .token))).text).1.getD 0 (dfl (.st .token))).kind=(l.getD k (dfl (.st .token))).kind:=by simpa using f
    refine ⟨by omega,by omega,a6 (fun g=>?_) (fun g=>?_)⟩
    ·have g:¬((aB (l.getD k (dfl (.st .token))).text).1.getD 0 (dfl (.st .token))).text=(l.getD k (dfl (.st .token))).text:=by simpa using g
     exact no (by rw [b,Xf g];simp)
    have g:((aB (l.getD k (dfl (.st .token))).text).1.getD 0 (dfl (.st .token))).text=(l.getD k (dfl (.st .token))).text:=by simpa using g
    exact nx (by rw [b,Xd d,Xd f,Xd g,Xd (show (aB (l.getD k (dfl (.st .token))).text).1.length=2 by omega)];rfl)
   ·replace c:¬(l.getD k (dfl (.st .token))).kind=2:=fun e=>c (Xd e)
    exact nx (by unfold kB;rw [Xf a,Xf c];rfl)
 ·have e:k=l.length:=by
   have:¬((k:Int) < (l.length:Int)):=fun e=>h (Xd e)
   omega
  subst e
  rw [h3,List.drop_length]
  rfl
end Go.AL.Seat
end
section
open Go Go.AL Go.Pd
namespace Go.AL.Seat
namespace C58
def A0 (F:Str→Shape × Flt):=(F ([40,73,110,116,44,32,91,75,101,121,93,41,32,45,62,32,123,97,58,32,113,47,73,100,125]:Str))
def B0 (F:Str→Shape × Flt):=(F ([123,97,58,32,73,110,116,44,32,97,58,32,73,110,116,125]:Str))
def C0 (G:Str→Trm × Flt):=(G ([102,46,97,40,49,41]:Str))
def D0 (F:Str→Shape × Flt)(G:Str→Trm × Flt):=True/\false=sf F G/\True
end C58
open C58 in
theorem DX (F:Str→Shape × Flt) (G:Str→Trm × Flt)  :
  if decide ((A0 F).2.err=(0:Int))=true then if decide ((A0 F).1.kind=(8:Int))=true then if decide ((↑(List.length (A0 F).1.parts):Int)=(3:Int))=true then if (decide ((B0 F).2.err=(111:Int)) && (decide ((B0 F).2.pos=(9:Int)) && true))=true then if decide ((C0 G).2.err=(0:Int))=true then if decide ((C0 G).1.kind=(7:Int))=true then if decide ((↑(List.length (C0 G).1.parts):Int)=(2:Int))=true then ((0:Int)<=(1:Int)/\(1:Int)<(↑(List.length (C0 G).1.parts):Int))/\if decide ((List.getD (C0 G).1.parts (Int.toNat (1:Int)) (dfl (Ty.st SN.term))).pos=(4:Int))=true then True/\decide ((G ([91,73,110,116]:Str)).2.err=(90:Int))=sf F G/\True else (D0 F G) else (D0 F G) else (D0 F G) else (D0 F G) else (D0 F G) else (D0 F G) else (D0 F G) else (D0 F G):=by
 delta D0 C0 B0 A0
 unfold sf
 simp only [eq_self,true_and,and_true,Int.toNat_one]
 refine a6 (fun h1=>?_) (fun h1=>?_)
 ·rw [h1]
  refine a6 (fun h2=>?_) (fun h2=>?_)
  ·rw [h2]
   refine a6 (fun h3=>?_) (fun h3=>?_)
   ·have h3n:=Xo h3
    rw [Xd (show _=3 by omega)]
    refine a6 (fun h4=>?_) (fun h4=>?_)
    ·rw [Bool.and_eq_true,Bool.and_true] at h4
     rw [h4.1,h4.2]
     refine a6 (fun h5=>?_) (fun h5=>?_)
     ·rw [h5]
      refine a6 (fun h6=>?_) (fun h6=>?_)
      ·rw [h6]
       refine a6 (fun h7=>?_) (fun h7=>?_)
       ·have h7n:=Xo h7
        rw [Xd (show _=2 by omega)]
        refine ⟨by omega,a6 (fun h8=>?_) (fun h8=>?_)⟩
        ·rw [h8];simp
        ·rw [Bool.not_eq_true] at h8;rw [h8];simp
       ·rw [Xf (fun e=>h7 (Xd (by omega)))];simp
      ·rw [Bool.not_eq_true] at h6;rw [h6];simp
     ·rw [Bool.not_eq_true] at h5;rw [h5];simp
    ·rw [Bool.not_eq_true,Bool.and_true,Bool.and_eq_false_iff] at h4
     rcases h4 with h4 | h4 <;> rw [h4] <;> simp
   ·rw [Xf (fun e=>h3 (Xd (by omega)))];simp
  ·rw [Bool.not_eq_true] at h2;rw [h2];simp
 ·rw [Bool.not_eq_true] at h1;rw [h1];simp
end Go.AL.Seat
end
section
open Go Go.AL Go.Pd
namespace Go.AL.Seat
namespace C59
def A0:=True/\true=true/\True
def B0:=([]:List Tokn)
def C0:=True/\false=true/\True
end C59
open C59 in
theorem sg (F:List Tokn→Int→Shape × Int × Flt) (l:List Tokn) (a:Int) (hl:Wf (.lst (.st .token)) l) :
  if (!lE l)=true then A0 else if (!fk l)=true then A0 else (List.length B0=List.length B0/\(List.length B0+List.length l)*(32:Nat)<=(140737488355328:Nat))/\dr ([]++l)/\dr l/\sz (F ([]++l) a).1<=sz (F l a).1/\if eqS (F ([]++l) a).1 (F l a).1=true then if decide ((F ([]++l) a).2.1=(F l a).2.1)=true then if (decide ((F ([]++l) a).2.2.err=(F l a).2.2.err) && (decide ((F ([]++l) a).2.2.pos=(F l a).2.2.pos) && true))=true then A0 else C0 else C0 else C0:=by
 delta C0 B0 A0
 refine a6 (fun _=>⟨trivial,rfl,trivial⟩) (fun f=>?_)
 have f:lE l=true:=by simpa using f
 refine a6 (fun _=>⟨trivial,rfl,trivial⟩) (fun _=>?_)
 have hn:=Ib f
 rw [List.nil_append]
 refine ⟨⟨rfl,by simp only [List.length_nil];omega⟩,yl f,yl f,Nat.le_refl _,?_⟩
 rw [eqS_self,if_pos rfl,if_pos (by simp),if_pos (by simp)]
 exact ⟨trivial,rfl,trivial⟩
end Go.AL.Seat
end
section
open Go Go.AL Go.Proofs Go.Shelf Go.Pd
namespace Go.AL.Seat
open Go.Proofs.Tryz
variable [Tabs]
variable [SeatLaid]
theorem AQ:ac prog 13 (p2 (.lst (.st .token)) (.int .i64) fun l a=>⟨some (dr l),none,.tup [.st .shape (bu l a).1,.int .i64 (bu l a).2.1,.st .fault (bu l a).2.2],[]⟩):=
 dN (ee func13) fun l a hl _ ho=>g0 (sc AK (sc yb sn)) a0 func13 (DV l a hl (ho _ rfl))
theorem GP:ac prog 9 (p1 (.lst (.st .token)) fun l=>.ret (.bool (lE l))):=
 b6 (ee func9) fun l hl _=>g0 sn ⟨[(3,fun S0=>⟨Nat,fun k=>k<=l.length/\hX (l.take k)<=100000/\(l.take k).all kE=true,fun k=>[(3,.int .i64 (hX (l.take k):Int)),(4,.int .i64 k)],fun _=>[],fun k=>l.length - k⟩),(11,fun S0=>Ij S0 4 fun k0=>⟨Nat,fun j=>j<=(l.getD k0.toNat (dfl (.st .token))).text.length/\((l.getD k0.toNat (dfl (.st .token))).text.take j).all cx=true,fun j=>[(5,.int .i64 j)],fun _=>[],fun j=>(l.getD k0.toNat (dfl (.st .token))).text.length - j⟩)],[],[]⟩ func9 (Ie l hl)
theorem AR:ac prog 22 (p1 .str fun s=>.ret (.tup [.lst (.st .token) (aB s).1 none,.bool (!decide ((aB s).2.err=0))])):=
 b6 (ee func22) fun s hs _=>g0 (sc DS sn) a0 func22 (DW s hs)
theorem vH:ac prog 10 (p1 (.lst (.st .token)) fun l=>.ret (.bool (fk l))):=
 b6 (ee func10) fun l hl _=>g0 (sc AR sn) ⟨[(2,fun S0=>⟨Nat,fun k=>k<=l.length/\fk l=(l.drop k).all kB,fun k=>[(3,.int .i64 k)],fun _=>[],fun k=>l.length - k⟩)],[],[]⟩ func10 (ym l hl)
theorem DY:ar prog 11:=ee func11
theorem vI (F:Str→Shape × Flt) (G:Str→Trm × Flt)  (hF:ac prog 18 (p1 .str fun s=>.ret (.tup [.st .shape (F s).1,.st .fault (F s).2]))) (hG:ac prog 20 (p1 .str fun s=>.ret (.tup [.st .term (G s).1,.st .fault (G s).2]))):aq prog 11 [] [] (.ret (.bool (sf F G))):=
 g0 (sc (hF) (sc (hG) sn)) a0 func11 (DX F G)
theorem AT:ac prog 11 (p0 (.ret (.bool true))):=Jo DY (AP ▸ vI fA ox vk vl)
theorem nO (F:List Tokn→Int→Shape × Int × Flt) (l:List Tokn) (a:Int) (hl:Wf (.lst (.st .token)) l) (hF:ac prog 12 (p2 (.lst (.st .token)) (.int .i64) fun l a=>⟨some (dr l),none,.tup [.st .shape (F l a).1,.int .i64 (F l a).2.1,.st .fault (F l a).2.2],[]⟩)) (hG:ac prog 13 (p2 (.lst (.st .token)) (.int .i64) fun l a=>⟨some (dr l),none,.tup [.st .shape (F l a).1,.int .i64 (F l a).2.1,.st .fault (F l a).2.2],[]⟩)):aq prog 3 [.lst (.st .token) l none,.int .i64 a] [] (.ret (.bool true)):=
 g0 (sc GP (sc vH (sc (AT) (sc (hF) (sc (hG) (sc (AF (sz (F l a).1)) sn)))))) a0 func3 (sg F l a hl)
end Go.AL.Seat
end
section
namespace Go.Proofs.YtdmbjejhifjhbaaGreatDoor.JParseTypes
open Go.AL Go.AL.Seat Go.Pd Go.ChangeShapes Go.WideShapes Go.RowKit Go.Proofs.YtdmbjejhifjhbaaGreatDoor.Join
set_option maxRecDepth 1000000
theorem par:Tryz.f3.params=#[22,3]:=by kernel_rfl
theorem res:Tryz.f3.resultTypes=#[4]:=by kernel_rfl
theorem spec {H:Type} (ds:List (DataW H)) (hd:ds.length=2):Rows.parseTypesSpec.fn H ds={results:=[.lit (.bool true)],args:=ds}:=by
 match ds,hd with
 | [d0,d1],_=>rfl
theorem GQ (H:Type) (enc:TypeId × Value→H) (W:World) (base:Nat) (args:Array Value) (ds gs:List (DataW H)) (before:List MemPlace)
  (hval:∀(j:Nat) t v,Tryz.f3.params[j]?=some t→args[j]?=some v→Value.okWide Tryz.prog W .any base t v)
  (hW:DataW.Whole enc Tryz.prog Tryz.f3.params.toList Rows.parseTypesSpec.vars false W args.toList ds gs before) (hL:laidMet Tryz.prog laid W) (hsh:W.ShapedOpen Tryz.prog) :
  Calls Tryz.prog 3 args W fun e W'=>∃v,e=.returned v/\Rows.parseTypesSpec.post enc Tryz.prog Tryz.f3 false true false false W args v W':=by
 letI:Tabs:=qL W
 haveI:SeatLaid:=F9 hL hsh
 have hW':=hW
 obtain ⟨p,q,hA,hV,_,_,_⟩:=hW
 rw [par] at hA hval
 obtain ⟨v0,vs0,d0,ds0,p0,q0,hargs0,rfl,rfl,h0,r0⟩:=trodAll_cons hA
 obtain ⟨v1,vs1,d1,ds1,p1,q1,hargs1,rfl,rfl,h1,r1⟩:=trodAll_cons r0
 obtain ⟨rfl,rfl,rfl⟩:=trodAll_nil r1
 subst hargs1
 obtain rfl:args=#[v0,v1]:=by
  have:=congrArg List.toArray hargs0
  simpa using this
 obtain ⟨fu0,hf0⟩:=h0
 obtain ⟨x0,hx0⟩:=IG undL Jf (hval 0 22 v0 rfl rfl) hf0
 obtain ⟨x1,hx1⟩:=ED undI (hval 1 3 v1 rfl rfl) h1
 refine (C9 (nO bu x0 x1 ⟨_,_,hx0⟩ xx AQ) (fun b o v h=>h.2) (VL.cons hx0 (VL.cons hx1 .nil))).mono fun e W' ⟨he,hb⟩=>?_
 subst he
 refine ⟨_,rfl,EB (tb:=4) Hq (fun t ht=>?_) rfl (fun ds hd=>spec ds ?_) res undB hW' hb⟩
 ·rw [par] at ht
  have ht:t∈[22,3]:=ht
  simp only [List.mem_cons,List.not_mem_nil,or_false] at ht
  rcases ht with rfl | rfl
  ·exact ⟨Jg,Iu⟩
  ·exact ⟨Jh,Nat.lt_trans (by decide) Iu⟩
 ·rw [par] at hd
  exact hd
theorem reads (os:Os) {H:Type} (enc:TypeId × Value→H):(DataW.whole enc Tryz.prog ((lQ os).forCall (fun _ _=>0) ⟨#[],#[.slice none 0 0,.int .i64 0],[]⟩).memory Tryz.f3.params.toList Rows.parseTypesSpec.vars false [Value.slice none 0 0,Value.int .i64 0] 8).map (fun x=>(x.1,x.2.1))=some ([.nil,.lit (.int .i64 0)],[]):=by kernel_rfl
theorem J5 (os:Os) (started:os.Started) (H:Type) (enc:TypeId × Value→H) (F:Stop.Interp) :
  ReturnsInHanded {} Tryz.checked os 3 .any ((OpenSpec.ofChange Rows.parseTypesSpec).preRow enc Tryz.prog Tryz.f3 Rows.parseTypesRow.domain false Rows.parseTypesRow.laid) (((OpenSpec.ofChange Rows.parseTypesSpec).at F).post enc Tryz.prog Tryz.f3 false true false false):=by
 obtain ⟨⟨y1,y2,y3⟩,hx,hy⟩:=Option.map_eq_some_iff.1 (reads os enc)
 simp only [Prod.mk.injEq] at hy
 obtain ⟨rfl,rfl⟩:=hy
 refine returnsInHanded_of_row (C:=Tryz.checked) (s:=OpenSpec.ofChange Rows.parseTypesSpec) own started (by kernel_rfl) Tryz.func3
  (witness_row_atRef (enc:=enc) (C:=Tryz.checked) false (lQ os) #[.slice none 0 0,.int .i64 0] rfl (by kernel_rfl) (by kernel_rfl) (by kernel_rfl)
   (OpenSpec.preRow_of_cond 8 hx (by kernel_rfl) (fun k hk=>by cases hk) (by kernel_rfl) (Fa os _))) ?_
 intro W base args ds gs before hval hW _ _ _ hL hsh _
 exact GQ H enc W base args ds gs before hval hW hL hsh
theorem c1:(Rows.parseTypesRow.inPlace ==Tryz.prog.inPlace 3)=true:=by kernel_rfl
theorem c2:(Rows.parseTypesRow.unfollowed ==Tryz.prog.unfollowed 3)=true:=by kernel_rfl
theorem c3:(Rows.parseTypesRow.recurses ==Tryz.prog.recurses 3)=true:=by kernel_rfl
theorem c4:(Rows.parseTypesRow.named ==Tryz.prog.varsNamed 3)=true:=by kernel_rfl
theorem J6:joinedFacts Tryz.prog 3 Tryz.f3 (OpenSpec.ofChange Rows.parseTypesSpec).bare Rows.parseTypesRow=true:=by
 unfold joinedFacts
 rw [c1,c2,c3,c4]
 kernel_rfl
theorem said:Rows.ParseTypesSaid:=
 OpenClaim.holds_of_cond 3 Tryz.f3 rfl rfl rfl rfl rfl rfl rfl ⟨rfl,rfl,rfl,rfl,rfl⟩ rfl rfl rfl rfl rfl (by kernel_rfl) Tryz.func3 J6
  (Xo (by kernel_rfl)) (by unfold Func.isWrapper;first | (rw [if_pos (by decide+kernel)];kernel_rfl) | (rw [if_neg (by decide+kernel)];exact ⟨rfl,rfl⟩))
  (fun os started H enc _ F=>by rw [OpenClaim.pre_eq_preRow];exact J5 os started H enc F)
theorem gc (f:FuncId) (fn:Func) (hf:Tryz.pinned.checked.prog.funcNamed "pandect/pandectlaw09.ParseTypes"=some f) (hfn:Tryz.pinned.checked.prog.funcs[f]?=some fn) :
  true=Tryz.pinned.checked.prog.looks []/\∀(j:Nat) t,fn.params[j]?=some t→Tryz.pinned.checked.prog.wantsStandIn t=false:=by
 obtain rfl:f=3:=Option.some.inj ((show Tryz.prog.funcNamed "pandect/pandectlaw09.ParseTypes"=some 3 by kernel_rfl).symm.trans hf) |>.symm
 obtain rfl:fn=Tryz.f3:=(Option.some.inj (Tryz.func3.symm.trans hfn)).symm
 refine ⟨by kernel_rfl,fun j t ht=>?_⟩
 rw [par] at ht
 have ht:=Array.mem_of_getElem? ht
 simp only [List.mem_toArray,List.mem_cons,List.not_mem_nil,or_false] at ht
 rcases ht with rfl | rfl
 ·exact (show Tryz.prog.wantsStandIn 22=false by kernel_rfl)
 ·exact (show Tryz.prog.wantsStandIn 3=false by kernel_rfl)
theorem card:Rows.ParseTypesCardSaid:=
 Claim7.holds_tied_plain_at .later [] _ _ _ _ said (fun _ h=>by cases h) (by kernel_rfl) (fun _ h=>by cases h) parseTypes_row_tie rfl ⟨rfl,rfl⟩ (by kernel_rfl) rfl gc (by kernel_rfl)
end Go.Proofs.YtdmbjejhifjhbaaGreatDoor.JParseTypes
end
