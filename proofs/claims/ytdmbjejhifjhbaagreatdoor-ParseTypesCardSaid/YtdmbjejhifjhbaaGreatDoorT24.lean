/- What the functions' conditions say, proved. No condition. -/
import Derived.Test.YtdmbjejhifjhbaaGreatDoorT23
set_option linter.unusedVariables false
set_option linter.unusedSimpArgs false
set_option linter.unnecessarySimpa false
set_option linter.deprecated false
set_option linter.unusedSectionVars false
set_option maxRecDepth 100000
section
open Go Go.AL Go.Pd
namespace Go.AL.Seat
namespace C3j
def A0:=(0:Int)
def B0:=(999999:Int)
def C0:=([46]:Str)
def D0:=(9223372036854775807:Nat)
end C3j
open C3j in
theorem DJ (v:Vers) (hv:Wf (.st .version) v) :
  if (!decide (bv v=A0))=true then True/\[]=(cz v).1/\(40:Int)=(cz v).2/\True else (A0<=v.major/\v.major<=B0)/\List.length (bU v.major)+List.length C0<=D0/\(A0<=v.minor/\v.minor<=B0)/\List.length (bU v.major++C0)+List.length (bU v.minor)<=D0/\List.length (bU v.major++C0++bU v.minor)+List.length C0<=D0/\(A0<=v.patch/\v.patch<=B0)/\List.length (bU v.major++C0++bU v.minor++C0)+List.length (bU v.patch)<=D0/\if (!decide (v.pre=[]))=true then List.length (bU v.major++C0++bU v.minor++C0++bU v.patch)+List.length ([45]:Str)<=D0/\List.length (bU v.major++C0++bU v.minor++C0++bU v.patch++([45]:Str))+List.length v.pre<=D0/\True/\bU v.major++C0++bU v.minor++C0++bU v.patch++([45]:Str)++v.pre=(cz v).1/\A0=(cz v).2/\True else True/\bU v.major++C0++bU v.minor++C0++bU v.patch=(cz v).1/\A0=(cz v).2/\True:=by
 delta D0 C0 B0 A0
 refine a6 (fun a=>?_) (fun a=>?_)
 ·have a:¬bv v=0:=by simpa using a
  unfold cz
  rw [if_neg a]
  exact ⟨trivial,rfl,rfl,trivial⟩
 have a:bv v=0:=by simpa using a
 obtain ⟨b1,b2,b3,b4⟩:=lA a
 have c1:=rK v.major
 have c2:=rK v.minor
 have c3:=rK v.patch
 have e:cz v=(hD v,0):=by unfold cz;rw [if_pos a]
 rw [e]
 unfold hD
 simp only [List.length_append,List.length_cons,List.length_nil]
 refine ⟨b1,by omega,b2,by omega,by omega,b3,by omega,a6 (fun h=>?_) (fun h=>?_)⟩
 ·have h:¬v.pre=[]:=by simpa using h
  rw [if_neg h]
  exact ⟨by omega,by omega,trivial,by simp only [List.append_assoc],(by first | rfl | trivial),trivial⟩
 ·have h:v.pre=[]:=by simpa using h
  rw [if_pos h]
  exact ⟨trivial,(List.append_nil _).symm,(by first | rfl | trivial),trivial⟩
end Go.AL.Seat
end
section
open Go Go.AL Go.Pd
namespace Go.AL.Seat
namespace C3k
def A0 (s:Str):=(↑(List.length s):Int)
def B0:=(0:Int)
def C0 (s:Str):=(bY s)
def D0 (s:Str):=True/\B0=(C0 s).1.major/\B0=(C0 s).1.minor/\B0=(C0 s).1.patch/\[]=(C0 s).1.pre/\(40:Int)=(C0 s).2/\True
def E0 (x:Nat × Nat × Nat × List Int):=(∀(k:Nat),k<(3:Nat)→B0<=List.getD x.2.2.2 k B0/\List.getD x.2.2.2 k B0<=(99999999:Int))
def H0 (x:Nat × Nat × Nat × List Int)(s:Str):=(x.2.1<=List.length s/\List.length s<x.2.1+x.1/\x.2.2.1<=(2:Nat)/\List.length x.2.2.2=(3:Nat)/\(E0 x)/\gL s=kq s (rvL s x.1 x.2.1 x.2.2.1 x.2.2.2))
def I0 (x:Nat × Nat × Nat × List Int):=(↑x.2.1:Int)
def J0 (x:Nat × Nat × Nat × List Int):=(↑x.2.2.1:Int)
def K0:=false=false
def L0:=[B0,B0,B0]
def M0:=List.length L0=List.length L0
def N0:=B0=B0/\B0=B0/\B0=B0/\dO UInt8=dO UInt8/\True
def O0 (x:Nat × Nat × Nat × List Int)(s:Str):=(B0<=(I0 x)/\(I0 x)<(A0 s))
def P0 (s:Str)(x:Nat × Nat × Nat × List Int):=(↑(UInt8.toNat (List.getD s (Int.toNat (I0 x)) (0:UInt8))):Int)
def Q0:=(1:Int)
def R0:=(2:Int)
def S0:=(↑(List.length L0):Int)
def T0 (x:Nat × Nat × Nat × List Int):=(B0<=(J0 x)+Q0/\(J0 x)+Q0<S0)
def U0 (x:Nat × Nat × Nat × List Int):=Int.toNat ((J0 x)+Q0)<List.length x.2.2.2
def V0:=(dfl (Ty.int IntKind.i64))
def W0:=(10:Int)
def X0 (x:Nat × Nat × Nat × List Int)(s:Str):=(W0*List.getD x.2.2.2 (Int.toNat ((J0 x)+Q0)) V0+((P0 s x) - (48:Int)))
def Y0 (x:Nat × Nat × Nat × List Int):=inR IntKind.i64 ((I0 x)+Q0)
def Z0 (x:Nat × Nat × Nat × List Int)(s:Str):=(Y0 x)/\∃(y:Nat × Nat × Nat × List Int),(H0 y s)/\y.1<x.1/\(I0 x)+Q0=(I0 y)/\(J0 x)+Q0=(J0 y)/\s=s/\K0/\M0/\x.2.2.2=y.2.2.2/\N0
def A1 (x:Nat × Nat × Nat × List Int):=Int.toNat (J0 x)<List.length x.2.2.2
def B1 (x:Nat × Nat × Nat × List Int)(s:Str):=(W0*List.getD x.2.2.2 (Int.toNat (J0 x)) V0+((P0 s x) - (48:Int)))
def C1 (x:Nat × Nat × Nat × List Int)(s:Str):=(Y0 x)/\∃(y:Nat × Nat × Nat × List Int),(H0 y s)/\y.1<x.1/\(I0 x)+Q0=(I0 y)/\(J0 x)=(J0 y)/\s=s/\K0/\M0/\x.2.2.2=y.2.2.2/\N0
def D1 (x:Nat × Nat × Nat × List Int)(s:Str):=(cz {major:=List.getD x.2.2.2 (Int.toNat B0) V0,minor:=List.getD x.2.2.2 (Int.toNat Q0) V0,patch:=List.getD x.2.2.2 (Int.toNat R0) V0,pre:=List.drop (Int.toNat ((I0 x)+Q0)) (List.take (Int.toNat (A0 s)) s):Vers})
def E1 (x:Nat × Nat × Nat × List Int):=(cz {major:=List.getD x.2.2.2 (Int.toNat B0) V0,minor:=List.getD x.2.2.2 (Int.toNat Q0) V0,patch:=List.getD x.2.2.2 (Int.toNat R0) V0,pre:=[]:Vers})
def H1 (x:Nat × Nat × Nat × List Int)(s:Str):=(B0<=B0/\B0<S0)/\Int.toNat B0<List.length x.2.2.2/\(B0<=Q0/\Q0<S0)/\Int.toNat Q0<List.length x.2.2.2/\(B0<=R0/\R0<S0)/\Int.toNat R0<List.length x.2.2.2/\if decide ((I0 x)<(A0 s))=true then (Y0 x)/\(B0<=(I0 x)+Q0/\(I0 x)+Q0<=(A0 s)/\(A0 s)<=(A0 s))/\if (!decide ((D1 x s).2=B0))=true then (D0 s) else if (!decide ((D1 x s).1=s))=true then (D0 s) else True/\List.getD x.2.2.2 (Int.toNat B0) V0=(C0 s).1.major/\List.getD x.2.2.2 (Int.toNat Q0) V0=(C0 s).1.minor/\List.getD x.2.2.2 (Int.toNat R0) V0=(C0 s).1.patch/\List.drop (Int.toNat ((I0 x)+Q0)) (List.take (Int.toNat (A0 s)) s)=(C0 s).1.pre/\B0=(C0 s).2/\True else if (!decide ((E1 x).2=B0))=true then (D0 s) else if (!decide ((E1 x).1=s))=true then (D0 s) else True/\List.getD x.2.2.2 (Int.toNat B0) V0=(C0 s).1.major/\List.getD x.2.2.2 (Int.toNat Q0) V0=(C0 s).1.minor/\List.getD x.2.2.2 (Int.toNat R0) V0=(C0 s).1.patch/\[]=(C0 s).1.pre/\B0=(C0 s).2/\True
end C3k
open C3k in
theorem Au (s:Str) (ho:s.length<=4096) :
  if decide ((60:Int)<(A0 s))=true then (D0 s) else (∃(x:Nat × Nat × Nat × List Int),(H0 x s)/\B0=(I0 x)/\B0=(J0 x)/\s=s/\K0/\M0/\L0=x.2.2.2/\N0)/\∀(x:Nat × Nat × Nat × List Int),x.2.1<=List.length s/\List.length s<x.2.1+x.1/\x.2.2.1<=(2:Nat)/\List.length x.2.2.2=(3:Nat)/\(E0 x)/\gL s=kq s (rvL s x.1 x.2.1 x.2.2.1 x.2.2.2)→if decide ((I0 x)<(A0 s))=true then (O0 x s)/\if (!decide ((P0 s x)=(45:Int)))=true then (O0 x s)/\if decide ((P0 s x)=(46:Int))=true then inR IntKind.i64 ((J0 x)+Q0)/\if decide (R0<(J0 x)+Q0)=true then (D0 s) else (O0 x s)/\if (!decide ((P0 s x)=(46:Int)))=true then (T0 x)/\(U0 x)/\if decide (List.getD x.2.2.2 (Int.toNat ((J0 x)+Q0)) V0<=(999999:Int))=true then (T0 x)/\(U0 x)/\inR IntKind.i64 (W0*List.getD x.2.2.2 (Int.toNat ((J0 x)+Q0)) V0)/\(O0 x s)/\inR IntKind.u8 ((P0 s x) - (48:Int))/\inR IntKind.i64 ((P0 s x) - (48:Int))/\inR IntKind.i64 (X0 x s)/\(T0 x)/\(U0 x)/\(Y0 x)/\∃(y:Nat × Nat × Nat × List Int),(H0 y s)/\y.1<x.1/\(I0 x)+Q0=(I0 y)/\(J0 x)+Q0=(J0 y)/\s=s/\K0/\M0/\List.set x.2.2.2 (Int.toNat ((J0 x)+Q0)) (X0 x s)=y.2.2.2/\N0 else (Z0 x s) else (Z0 x s) else (O0 x s)/\if decide ((P0 s x)<(48:Int))=true then (D0 s) else (O0 x s)/\if decide ((57:Int)<(P0 s x))=true then (D0 s) else if decide (R0<(J0 x))=true then (D0 s) else (O0 x s)/\if (!decide ((P0 s x)=(46:Int)))=true then (B0<=(J0 x)/\(J0 x)<S0)/\(A1 x)/\if decide (List.getD x.2.2.2 (Int.toNat (J0 x)) V0<=(999999:Int))=true then (B0<=(J0 x)/\(J0 x)<S0)/\(A1 x)/\inR IntKind.i64 (W0*List.getD x.2.2.2 (Int.toNat (J0 x)) V0)/\(O0 x s)/\inR IntKind.u8 ((P0 s x) - (48:Int))/\inR IntKind.i64 ((P0 s x) - (48:Int))/\inR IntKind.i64 (B1 x s)/\(B0<=(J0 x)/\(J0 x)<S0)/\(A1 x)/\(Y0 x)/\∃(y:Nat × Nat × Nat × List Int),(H0 y s)/\y.1<x.1/\(I0 x)+Q0=(I0 y)/\(J0 x)=(J0 y)/\s=s/\K0/\M0/\List.set x.2.2.2 (Int.toNat (J0 x)) (B1 x s)=y.2.2.2/\N0 else (C1 x s) else (C1 x s) else (H1 x s) else (H1 x s):=by
 delta H1 E1 D1 C1 B1 A1 Z0 Y0 X0 W0 V0 U0 T0 S0 R0 Q0 P0 O0 N0 M0 L0 K0 J0 I0 H0 E0 D0 C0 B0 A0
 simp only [←Al s]
 refine a6 (fun h=>?_) (fun h=>?_)
 ·have h:=Xo h
  have k6:gL s=(noV,40):=by unfold gL;rw [if_pos (by omega)]
  rw [k6];exact ⟨trivial,rfl,rfl,rfl,rfl,rfl,trivial⟩
 have ln:¬(60:Int) < (s.length:Int):=fun e=>h (Xd e)
 clear h
 have e:gL s=kq s (rvL s (s.length+1) 0 0 [0,0,0]):=by unfold gL;rw [if_neg (by omega)]
 have not_dec:∀{p:Prop} [Decidable p],(!decide p)=true→¬p:=fun {p} _ q=>by simpa using q
 have yes_dec:∀{p:Prop} [Decidable p],¬(!decide p)=true→p:=fun {p} _ q=>by simpa using q
 refine ⟨⟨(s.length+1,0,0,[0,0,0]),⟨Nat.zero_le _,by show s.length < 0+(s.length+1);omega,by show 0<=2;omega,rfl,?_,e⟩,rfl,rfl,?_⟩,?_⟩
 ·intro k hk
  have g:k=0∨k=1∨k=2:=by omega
  rcases g with rfl | rfl | rfl <;> exact (show (0:Int)<=0/\(0:Int)<=99999999 from ⟨by decide,by decide⟩)
 ·exact Xr
 clear e
 rintro ⟨f,i,p,r⟩ ⟨k1,k2,k3,k4,k5,k6⟩
 simp only at k1 k2 k3 k4 k5 k6 ⊢
 have eb:∀b:UInt8,(b.toNat:Int)=bI b:=fun _=>rfl
 have tn:∀a:Nat,Int.toNat ((a:Int)+1)=a+1:=fun a=>by omega
 have tt1:Int.toNat 1=1:=rfl
 have tt2:Int.toNat 2=2:=rfl
 have l3:List.length [(0:Int),(0:Int),(0:Int)]=3:=rfl
 have hz:∀k,r.getD k (dfl (Ty.int IntKind.i64))=r.getD k 0:=fun _=>rfl
 simp only [eb,tn,tt1,tt2,l3,hz,Int.toNat_natCast,Int.toNat_zero,List.take_length]
 cases f with
 | zero=>omega
 | succ f=>
 have hR:rvL s (f+1) i p r=if i < s.length/\¬bI (s.getD i 0)=45 then
   if bI (s.getD i 0)=46 then (if 2 < p+1 then none else rvL s f (i+1) (p+1) r)
   else if bI (s.getD i 0) < 48∨57 < bI (s.getD i 0) then none
   else rvL s f (i+1) p (if r.getD p 0<=999999 then r.set p (10 *r.getD p 0+(bI (s.getD i 0) - 48)) else r)
  else some (r,i):=rfl
 rw [hR] at k6
 clear hR eb tn tt1 tt2 l3 hz
 refine a6 (fun c=>?_) (fun c=>?_)
 ·have c:=Xo c
  have l0:(0:Int)<=(i:Int)/\(i:Int) < (s.length:Int):=⟨by omega,by omega⟩
  refine ⟨l0,a6 (fun d=>⟨l0,a6 (fun g=>⟨ak (by omega) (by omega),a6 (fun m=>?_) (fun m=>⟨l0,a6 (fun q=>?_) (fun q=>?_)⟩)⟩) (fun g=>⟨l0,a6 (fun m=>?_) (fun m=>⟨l0,a6 (fun n=>?_) (fun n=>a6 (fun q=>?_) (fun q=>⟨l0,a6 (fun t=>?_) (fun t=>?_)⟩))⟩)⟩)⟩) (fun d=>?_)⟩
  ·have m:=Xo m
   rw [if_pos ⟨by omega,not_dec d⟩,if_pos (Xo g),if_pos (by omega)] at k6
   rw [k6];exact ⟨trivial,rfl,rfl,rfl,rfl,rfl,trivial⟩
  ·exact absurd (Xo g) (not_dec q)
  ·have m:¬(2:Int) < (p:Int)+1:=fun z=>m (Xd z)
   rw [if_pos ⟨by omega,not_dec d⟩,if_pos (Xo g),if_neg (by omega)] at k6
   refine ⟨ak (by omega) (by omega),(f,i+1,p+1,r),⟨by show i+1<=s.length;omega,by show s.length < i+1+f;omega,by show p+1<=2;omega,k4,k5,k6⟩,by show f < f+1;omega,rfl,rfl,?_⟩
   exact Xr
  ·rw [if_pos ⟨by omega,not_dec d⟩,if_neg (fun z=>g (Xd z)),if_pos (.inl (Xo m))] at k6
   rw [k6];exact ⟨trivial,rfl,rfl,rfl,rfl,rfl,trivial⟩
  ·rw [if_pos ⟨by omega,not_dec d⟩,if_neg (fun z=>g (Xd z)),if_pos (.inr (Xo n))] at k6
   rw [k6];exact ⟨trivial,rfl,rfl,rfl,rfl,rfl,trivial⟩
  ·have q:=Xo q
   omega
  ·have m:¬bI (s.getD i 0) < 48:=fun z=>m (Xd z)
   have n:¬57 < bI (s.getD i 0):=fun z=>n (Xd z)
   rw [if_pos ⟨by omega,not_dec d⟩,if_neg (fun z=>g (Xd z)),if_neg (by omega)] at k6
   have k7:=k5 p (by omega)
   refine ⟨⟨by omega,by omega⟩,by omega,a6 (fun z=>?_) (fun z=>?_)⟩
   ·have z:=Xo z
    rw [if_pos z] at k6
    refine ⟨⟨by omega,by omega⟩,by omega,ak (by omega) (by omega),l0,⟨by show (0:Int)<=_;omega,by show _<=(255:Int);omega⟩,ak (by omega) (by omega),ak (by omega) (by omega),⟨by omega,by omega⟩,by omega,ak (by omega) (by omega),(f,i+1,p,r.set p (10 *r.getD p 0+(bI (s.getD i 0) - 48))),⟨by show i+1<=s.length;omega,by show s.length < i+1+f;omega,k3,by show (r.set p _).length=3;rw [List.length_set];exact k4,HW k4 k3 k5 (by omega) (by omega),k6⟩,by show f < f+1;omega,rfl,rfl,?_⟩
    exact Xr
   ·rw [if_neg (fun y=>z (Xd y))] at k6
    refine ⟨ak (by omega) (by omega),(f,i+1,p,r),⟨by show i+1<=s.length;omega,by show s.length < i+1+f;omega,k3,k4,k5,k6⟩,by show f < f+1;omega,rfl,rfl,?_⟩
    exact Xr
  ·exact absurd (yes_dec t) (fun z=>g (Xd z))
  ·rw [if_neg (fun q=>q.2 (yes_dec d))] at k6
   refine ⟨⟨Int.le_refl 0,by decide⟩,by omega,⟨by decide,by decide⟩,by omega,⟨by decide,by decide⟩,by omega,?_⟩
   have hG:kq s (some (r,i))=if ¬(cz (cM s r i)).2=0∨¬(cz (cM s r i)).1=s then (noV,40) else (cM s r i,0):=rfl
   rw [hG] at k6
   clear hG k5
   refine a6 (fun m=>?_) (fun m=>?_)
   ·have m:=Xo m
    have hv:cM s r i=⟨r.getD 0 0,r.getD 1 0,r.getD 2 0,s.drop (i+1)⟩:=by unfold cM;rw [if_pos (by omega)]
    rw [hv] at k6
    refine ⟨ak (by omega) (by omega),⟨by omega,by omega,Int.le_refl _⟩,a6 (fun a=>?_) (fun a=>a6 (fun b=>?_) (fun b=>?_))⟩
    ·have a:=not_dec a
     rw [if_pos (.inl a)] at k6
     rw [k6];exact ⟨trivial,rfl,rfl,rfl,rfl,rfl,trivial⟩
    ·have b:=not_dec b
     rw [if_pos (.inr b)] at k6
     rw [k6];exact ⟨trivial,rfl,rfl,rfl,rfl,rfl,trivial⟩
    ·have a:=yes_dec a
     have b:=yes_dec b
     rw [if_neg (fun q=>q.elim (fun z=>z a) (fun z=>z b))] at k6
     rw [k6];exact ⟨trivial,rfl,rfl,rfl,rfl,rfl,trivial⟩
   ·have hv:cM s r i=⟨r.getD 0 0,r.getD 1 0,r.getD 2 0,[]⟩:=by unfold cM;rw [if_neg (fun q=>m (Xd (by omega)))]
    rw [hv] at k6
    refine a6 (fun a=>?_) (fun a=>a6 (fun b=>?_) (fun b=>?_))
    ·have a:=not_dec a
     rw [if_pos (.inl a)] at k6
     rw [k6];exact ⟨trivial,rfl,rfl,rfl,rfl,rfl,trivial⟩
    ·have b:=not_dec b
     rw [if_pos (.inr b)] at k6
     rw [k6];exact ⟨trivial,rfl,rfl,rfl,rfl,rfl,trivial⟩
    ·have a:=yes_dec a
     have b:=yes_dec b
     rw [if_neg (fun q=>q.elim (fun z=>z a) (fun z=>z b))] at k6
     rw [k6];exact ⟨trivial,rfl,rfl,rfl,rfl,rfl,trivial⟩
 ·rw [if_neg (fun q=>c (Xd (by omega)))] at k6
  refine ⟨⟨Int.le_refl 0,by decide⟩,by omega,⟨by decide,by decide⟩,by omega,⟨by decide,by decide⟩,by omega,?_⟩
  have hG:kq s (some (r,i))=if ¬(cz (cM s r i)).2=0∨¬(cz (cM s r i)).1=s then (noV,40) else (cM s r i,0):=rfl
  rw [hG] at k6
  clear hG k5
  refine a6 (fun m=>?_) (fun m=>?_)
  ·have m:=Xo m
   have hv:cM s r i=⟨r.getD 0 0,r.getD 1 0,r.getD 2 0,s.drop (i+1)⟩:=by unfold cM;rw [if_pos (by omega)]
   rw [hv] at k6
   refine ⟨ak (by omega) (by omega),⟨by omega,by omega,Int.le_refl _⟩,a6 (fun a=>?_) (fun a=>a6 (fun b=>?_) (fun b=>?_))⟩
   ·have a:=not_dec a
    rw [if_pos (.inl a)] at k6
    rw [k6];exact ⟨trivial,rfl,rfl,rfl,rfl,rfl,trivial⟩
   ·have b:=not_dec b
    rw [if_pos (.inr b)] at k6
    rw [k6];exact ⟨trivial,rfl,rfl,rfl,rfl,rfl,trivial⟩
   ·have a:=yes_dec a
    have b:=yes_dec b
    rw [if_neg (fun q=>q.elim (fun z=>z a) (fun z=>z b))] at k6
    rw [k6];exact ⟨trivial,rfl,rfl,rfl,rfl,rfl,trivial⟩
  ·have hv:cM s r i=⟨r.getD 0 0,r.getD 1 0,r.getD 2 0,[]⟩:=by unfold cM;rw [if_neg (fun q=>m (Xd (by omega)))]
   rw [hv] at k6
   refine a6 (fun a=>?_) (fun a=>a6 (fun b=>?_) (fun b=>?_))
   ·have a:=not_dec a
    rw [if_pos (.inl a)] at k6
    rw [k6];exact ⟨trivial,rfl,rfl,rfl,rfl,rfl,trivial⟩
   ·have b:=not_dec b
    rw [if_pos (.inr b)] at k6
    rw [k6];exact ⟨trivial,rfl,rfl,rfl,rfl,rfl,trivial⟩
   ·have a:=yes_dec a
    have b:=yes_dec b
    rw [if_neg (fun q=>q.elim (fun z=>z a) (fun z=>z b))] at k6
    rw [k6];exact ⟨trivial,rfl,rfl,rfl,rfl,rfl,trivial⟩
end Go.AL.Seat
end
section
open Go Go.AL Go.Pd
namespace Go.AL.Seat
theorem Gv (p:Int)  :
  if decide ((0:Int)<=p)=true then if decide (p<=(1114111:Int))=true then if decide (p<(55296:Int))=true then True/\true=eT p/\True else True/\decide ((57343:Int)<p)=eT p/\True else True/\false=eT p/\True else True/\false=eT p/\True:=by
 unfold eT
 by_cases a:0<=p <;> by_cases b:p<=1114111 <;> by_cases c:p < 55296 <;> simp [a,b,c]
end Go.AL.Seat
end
section
open Go Go.AL Go.Pd
namespace Go.AL.Seat
namespace C3m
def A0:=(128:Int)
def B0:=(fun (n:Int)=>UInt8.ofNat (Int.toNat n))
def C0:=(64:Int)
def D0:=C0≠(0:Int)
def E0 (p:Int):=(D0/\inR IntKind.i64 (Int.tdiv p C0))
def H0 (p:Int):=(D0/\inR IntKind.i64 (Int.tmod p C0))
def I0 (p:Int):=A0+Int.tmod p C0
def J0 (p:Int):=inR IntKind.i64 ((I0 p))
def K0 (p:Int):=inR IntKind.u8 ((I0 p))
def L0 (p:Int):=(Int.tdiv p (4096:Int))
def M0 (p:Int):=((4096:Int)≠(0:Int)/\inR IntKind.i64 (L0 p))
def N0 (p:Int):=(D0/\inR IntKind.i64 (Int.tmod (Int.tdiv p C0) C0))
def O0 (p:Int):=A0+Int.tmod (Int.tdiv p C0) C0
def P0:=(262144:Int)
end C3m
open C3m in
theorem Gw (p:Int) (ho:0<=p/\p<=1114111) :
  if decide (p<A0)=true then inR IntKind.u8 p/\True/\List.map B0 [p]=dD p/\True else if decide (p<(2048:Int))=true then (E0 p)/\inR IntKind.i64 ((192:Int)+Int.tdiv p C0)/\inR IntKind.u8 ((192:Int)+Int.tdiv p C0)/\(H0 p)/\(J0 p)/\(K0 p)/\True/\List.map B0 [(192:Int)+Int.tdiv p C0,(I0 p)]=dD p/\True else if decide (p<(65536:Int))=true then (M0 p)/\inR IntKind.i64 ((224:Int)+Int.tdiv p (4096:Int))/\inR IntKind.u8 ((224:Int)+Int.tdiv p (4096:Int))/\(E0 p)/\(N0 p)/\inR IntKind.i64 ((O0 p))/\inR IntKind.u8 ((O0 p))/\(H0 p)/\(J0 p)/\(K0 p)/\True/\List.map B0 [(224:Int)+Int.tdiv p (4096:Int),(O0 p),(I0 p)]=dD p/\True else (P0≠(0:Int)/\inR IntKind.i64 (Int.tdiv p P0))/\inR IntKind.i64 ((240:Int)+Int.tdiv p P0)/\inR IntKind.u8 ((240:Int)+Int.tdiv p P0)/\(M0 p)/\(D0/\inR IntKind.i64 (Int.tmod (L0 p) C0))/\inR IntKind.i64 (A0+Int.tmod (L0 p) C0)/\inR IntKind.u8 (A0+Int.tmod (L0 p) C0)/\(E0 p)/\(N0 p)/\inR IntKind.i64 ((O0 p))/\inR IntKind.u8 ((O0 p))/\(H0 p)/\(J0 p)/\(K0 p)/\True/\List.map B0 [(240:Int)+Int.tdiv p P0,A0+Int.tmod (L0 p) C0,(O0 p),(I0 p)]=dD p/\True:=by
 delta P0 O0 N0 M0 L0 K0 J0 I0 H0 E0 D0 C0 B0 A0
 obtain ⟨h1,h2⟩:=ho
 have t1:Int.tdiv p 64=p / 64:=Int.tdiv_eq_ediv_of_nonneg h1
 have t2:Int.tdiv p 4096=p / 4096:=Int.tdiv_eq_ediv_of_nonneg h1
 have t3:Int.tdiv p 262144=p / 262144:=Int.tdiv_eq_ediv_of_nonneg h1
 have m0:Int.tmod p 64=p % 64:=Int.tmod_eq_emod_of_nonneg h1
 have m1:Int.tmod (p / 64) 64=p / 64 % 64:=Int.tmod_eq_emod_of_nonneg (by omega)
 have m2:Int.tmod (p / 4096) 64=p / 4096 % 64:=Int.tmod_eq_emod_of_nonneg (by omega)
 simp only [t1,t2,t3,m0,m1,m2]
 have u8:∀n:Int,0<=n→n<=255→inR IntKind.u8 n:=fun n a b=>⟨a,b⟩
 have i64:∀n:Int,-10000000<=n→n<=10000000→inR IntKind.i64 n:=fun n a b=>ak (by omega) (by omega)
 unfold dD jL
 refine a6 (fun a=>?_) (fun a=>?_)
 ·have a:=Xo a
  rw [if_pos a]
  exact ⟨u8 _ (by omega) (by omega),trivial,rfl,trivial⟩
 have a:¬p < 128:=fun e=>a (Xd e)
 rw [if_neg a]
 refine a6 (fun b=>?_) (fun b=>?_)
 ·have b:=Xo b
  rw [if_pos b]
  repeat (first | exact trivial | refine ⟨by first | rfl | trivial | (exact ⟨by decide,i64 _ (by omega) (by omega)⟩) | (exact i64 _ (by omega) (by omega)) | (exact u8 _ (by omega) (by omega)),?_⟩)
 have b:¬p < 2048:=fun e=>b (Xd e)
 rw [if_neg b]
 refine a6 (fun d=>?_) (fun d=>?_)
 ·have d:=Xo d
  rw [if_pos d]
  repeat (first | exact trivial | refine ⟨by first | rfl | trivial | (exact ⟨by decide,i64 _ (by omega) (by omega)⟩) | (exact i64 _ (by omega) (by omega)) | (exact u8 _ (by omega) (by omega)),?_⟩)
 ·have d:¬p < 65536:=fun e=>d (Xd e)
  rw [if_neg d]
  repeat (first | exact trivial | refine ⟨by first | rfl | trivial | (exact ⟨by decide,i64 _ (by omega) (by omega)⟩) | (exact i64 _ (by omega) (by omega)) | (exact u8 _ (by omega) (by omega)),?_⟩)
end Go.AL.Seat
end
section
open Go Go.AL Go.Pd
namespace Go.AL.Seat
namespace C3n
def A0:=(0:Int)
def B0 (s:Str):=True/\A0=(fW s).1/\A0=(fW s).2/\True
def C0 (s:Str):=(↑(List.length s):Int)
def D0 (s:Str):=(A0<=A0/\A0<(C0 s))
def E0 (s:Str):=(↑(UInt8.toNat (List.getD s (Int.toNat A0) (0:UInt8))):Int)
def H0 (s:Str):=inR IntKind.i64 (E0 s)
def I0 (s:Str):=(↑(cI s):Int)
def J0 (s:Str):=s=s/\A0=A0/\A0=A0/\false=false/\True
def K0 (x:Nat)(s:Str):=(x=(1:Nat)→(-300:Int)<=bE s x/\bE s x<=(300:Int))
def L0 (x:Nat)(s:Str):=(x=(2:Nat)→(-20000:Int)<=bE s x/\bE s x<=(20000:Int))
def M0 (x:Nat)(s:Str):=(x=(3:Nat)→(-1300000:Int)<=bE s x/\bE s x<=(1300000:Int))
def N0 (x:Nat)(s:Str):=(x=(4:Nat)→(-90000000:Int)<=bE s x/\bE s x<=(90000000:Int))
def O0 (x:Nat)(s:Str):=((1:Nat)<=x/\x<=cI s/\(K0 x s)/\(L0 x s)/\(M0 x s)/\(N0 x s))
def P0 (x:Nat):=(↑x:Int)
def Q0 (s:Str):=(I0 s)=(I0 s)/\s=s/\A0=A0/\A0=A0/\false=false/\false=false/\True
def R0:=(64:Int)
def S0 (s:Str)(x:Nat):=(↑(UInt8.toNat (List.getD s (Int.toNat (P0 x)) (0:UInt8))):Int)
end C3n
open C3n in
theorem Gx (s:Str) (hs:Wf .str s) :
  if decide (s=[])=true then (B0 s) else (D0 s)/\(H0 s)/\((D0 s)/\if decide ((240:Int)<=(E0 s))=true then (D0 s)/\(H0 s)/\inR IntKind.i64 ((E0 s) - (240:Int))/\(4:Int)=(I0 s)/\(E0 s) - (240:Int)=gi s/\(J0 s) else (D0 s)/\if decide ((224:Int)<=(E0 s))=true then (D0 s)/\(H0 s)/\inR IntKind.i64 ((E0 s) - (224:Int))/\(3:Int)=(I0 s)/\(E0 s) - (224:Int)=gi s/\(J0 s) else (D0 s)/\if decide ((192:Int)<=(E0 s))=true then (D0 s)/\(H0 s)/\inR IntKind.i64 ((E0 s) - (192:Int))/\(2:Int)=(I0 s)/\(E0 s) - (192:Int)=gi s/\(J0 s) else (1:Int)=(I0 s)/\(E0 s)=gi s/\(J0 s))/\if decide ((C0 s)<(I0 s))=true then (B0 s) else (∃(x:Nat),(O0 x s)/\(1:Int)=(P0 x)/\gi s=bE s x/\(Q0 s))/\∀(x:Nat),(1:Nat)<=x/\x<=cI s/\(K0 x s)/\(L0 x s)/\(M0 x s)/\(N0 x s)→if decide ((P0 x)<(I0 s))=true then inR IntKind.i64 (bE s x*R0)/\(A0<=(P0 x)/\(P0 x)<(C0 s))/\inR IntKind.i64 (S0 s x)/\inR IntKind.i64 (bE s x*R0+(S0 s x))/\inR IntKind.i64 (bE s x*R0+(S0 s x) - (128:Int))/\inR IntKind.i64 ((P0 x)+(1:Int))/\∃(y:Nat),(O0 y s)/\cI s - y<cI s - x/\(P0 x)+(1:Int)=(P0 y)/\bE s x*R0+(S0 s x) - (128:Int)=bE s y/\(Q0 s) else if (!eT (bE s x))=true then (B0 s) else (A0<=bE s x/\bE s x<=(1114111:Int))/\(A0<=A0/\A0<=(I0 s)/\(I0 s)<=(C0 s))/\if (!decide (dD (bE s x)=List.drop (Int.toNat A0) (List.take (Int.toNat (I0 s)) s)))=true then (B0 s) else True/\bE s x=(fW s).1/\(I0 s)=(fW s).2/\True:=by
 delta S0 R0 Q0 P0 O0 N0 M0 L0 K0 J0 I0 H0 E0 D0 C0 B0 A0
 have ln:=hs.str
 refine a6 (fun h=>?_) (fun h=>?_)
 ·have h:=Xo h
  subst h
  exact ⟨trivial,rfl,rfl,trivial⟩
 have hne:s≠[]:=fun e=>h (Xd e)
 have hpos:=List.length_pos_iff.2 hne
 have eb:∀b:UInt8,(b.toNat:Int)=bI b:=fun _=>rfl
 simp only [eb,Int.toNat_zero,Int.toNat_natCast]
 obtain ⟨n1,n2⟩:=F0 (s.getD 0 0)
 have i64:∀n:Int,-10000000000<=n→n<=10000000000→inR IntKind.i64 n:=fun n a b=>ak (by omega) (by omega)
 have l0:(0:Int)<=0/\(0:Int) < (s.length:Int):=⟨by omega,by omega⟩
 have hL:cI s=if 240<=bI (s.getD 0 0) then 4 else if 224<=bI (s.getD 0 0) then 3 else if 192<=bI (s.getD 0 0) then 2 else 1:=rfl
 have h0:gi s=if 240<=bI (s.getD 0 0) then bI (s.getD 0 0) - 240 else if 224<=bI (s.getD 0 0) then bI (s.getD 0 0) - 224 else if 192<=bI (s.getD 0 0) then bI (s.getD 0 0) - 192 else bI (s.getD 0 0):=rfl
 refine ⟨l0,i64 _ (by omega) (by omega),⟨l0,a6 (fun a=>?_) (fun a=>⟨l0,a6 (fun b=>?_) (fun b=>⟨l0,a6 (fun c=>?_) (fun c=>?_)⟩)⟩)⟩,?_⟩
 ·have a:=Xo a
  rw [if_pos a] at hL h0
  refine ⟨l0,i64 _ (by omega) (by omega),i64 _ (by omega) (by omega),by rw [hL];rfl,h0.symm,?_⟩
  exact Xr
 ·have a:¬240<=bI (s.getD 0 0):=fun e=>a (Xd e)
  have b:=Xo b
  rw [if_neg a,if_pos b] at hL h0
  refine ⟨l0,i64 _ (by omega) (by omega),i64 _ (by omega) (by omega),by rw [hL];rfl,h0.symm,?_⟩
  exact Xr
 ·have a:¬240<=bI (s.getD 0 0):=fun e=>a (Xd e)
  have b:¬224<=bI (s.getD 0 0):=fun e=>b (Xd e)
  have c:=Xo c
  rw [if_neg a,if_neg b,if_pos c] at hL h0
  refine ⟨l0,i64 _ (by omega) (by omega),i64 _ (by omega) (by omega),by rw [hL];rfl,h0.symm,?_⟩
  exact Xr
 ·have a:¬240<=bI (s.getD 0 0):=fun e=>a (Xd e)
  have b:¬224<=bI (s.getD 0 0):=fun e=>b (Xd e)
  have c:¬192<=bI (s.getD 0 0):=fun e=>c (Xd e)
  rw [if_neg a,if_neg b,if_neg c] at hL h0
  refine ⟨by rw [hL];rfl,h0.symm,?_⟩
  exact Xr
 have hb0:-300<=gi s/\gi s<=300:=by rw [h0];(repeat' split) <;> omega
 have hb1:1<=cI s/\cI s<=4:=by rw [hL];(repeat' split) <;> omega
 clear hL h0 n1 n2
 refine a6 (fun a=>?_) (fun a=>?_)
 ·have a:=Xo a
  have e:fW s=(0,0):=by unfold fW;rw [if_neg hne,if_pos (by omega)]
  rw [e]
  exact ⟨trivial,rfl,rfl,trivial⟩
 have a:¬(s.length:Int) < (cI s:Int):=fun e=>a (Xd e)
 have hF:fW s=if eT (bE s (cI s))=true/\dD (bE s (cI s))=s.take (cI s) then (bE s (cI s),(cI s:Int)) else (0,0):=by unfold fW;rw [if_neg hne,if_neg (by omega)]
 refine ⟨⟨1,⟨Nat.le_refl _,hb1.1,fun _=>hb0,fun e=>by omega,fun e=>by omega,fun e=>by omega⟩,?_⟩,?_⟩
 ·exact Xr
 rintro k ⟨k1,k2,k3,k4,k5,k6⟩
 refine a6 (fun b=>?_) (fun b=>?_)
 ·have b:k < cI s:=by have:=Xo b;omega
  obtain ⟨m1,m2⟩:=F0 (s.getD k 0)
  have hf:bE s (k+1)=bE s k *64+bI (s.getD k 0) - 128:=by
   obtain ⟨j,rfl⟩:∃j,k=j+1:=⟨k - 1,by omega⟩
   rfl
  have hk:k=1∨k=2∨k=3:=by omega
  have hb:-1300000<=bE s k/\bE s k<=1300000:=by
   rcases hk with e | e | e
   ·have:=k3 e;omega
   ·have:=k4 e;omega
   ·exact k5 e
  refine ⟨i64 _ (by omega) (by omega),⟨by omega,by omega⟩,i64 _ (by omega) (by omega),i64 _ (by omega) (by omega),i64 _ (by omega) (by omega),i64 _ (by omega) (by omega),k+1,⟨by omega,by omega,fun e=>by omega,fun e=>by have:=k3 (by omega);omega,fun e=>by have:=k4 (by omega);omega,fun e=>by have:=k5 (by omega);omega⟩,by omega,by omega,hf.symm,?_⟩
  exact Xr
 ·have b:k=cI s:=by
   have:¬((k:Int) < (cI s:Int)):=fun e=>b (Xd e)
   omega
  subst b
  simp only [List.drop_zero]
  refine a6 (fun c=>?_) (fun c=>?_)
  ·rw [if_neg (fun e=>by rw [e.1] at c;cases c)] at hF
   rw [hF]
   exact ⟨trivial,rfl,rfl,trivial⟩
  have c:eT (bE s (cI s))=true:=by simpa using c
  have c':=c
  unfold eT at c'
  simp only [Bool.and_eq_true,decide_eq_true_eq] at c'
  refine ⟨⟨c'.1.1,c'.1.2⟩,⟨by omega,by omega,by omega⟩,a6 (fun d=>?_) (fun d=>?_)⟩
  ·have d:¬dD (bE s (cI s))=s.take (cI s):=by simpa using d
   rw [if_neg (fun e=>d e.2)] at hF
   rw [hF]
   exact ⟨trivial,rfl,rfl,trivial⟩
  ·have d:dD (bE s (cI s))=s.take (cI s):=by simpa using d
   rw [if_pos ⟨c,d⟩] at hF
   rw [hF]
   exact ⟨trivial,rfl,rfl,trivial⟩
end Go.AL.Seat
end
section
open Go Go.AL Go.Pd
namespace Go.AL.Seat
namespace C3o
def A0:=(0:Int)
def B0 (x:Nat):=(↑x:Int)
def C0 (x:Nat)(s:Str):=(x<=List.length s/\ae aH s A0=x+ae aH s (B0 x))
def D0:=A0=A0/\A0=A0/\True
def E0 (s:Str):=(↑(List.length s):Int)
def H0 (x:Nat)(s:Str):=(A0<=(B0 x)/\(B0 x)<(E0 s))
def I0:=(0:UInt8)
def J0 (s:Str)(x:Nat):=(↑(UInt8.toNat (List.getD s (Int.toNat (B0 x)) I0)):Int)
def K0:=(1:Int)
def L0 (x:Nat):=inR IntKind.i64 ((B0 x)+K0)
def M0 (x:Nat)(s:Str):=(L0 x)/\∃(y:Nat),(C0 y s)/\List.length s - y<List.length s - x/\(B0 x)+K0=(B0 y)/\s=s/\A0=A0/\D0
def N0:=(45:Int)
def O0 (s:Str):=(↑(ae aH s A0):Int)
def P0 (x:Nat)(s:Str):=(B0 x)=(O0 s)/\s=s/\A0=A0/\false=false/\D0
def Q0 (s:Str)(x:Nat):=true=decide (List.length s<=ae aH s A0+(1:Nat)∨bI (List.getD s (ae aH s A0) I0)≠N0∨bI (List.getD s (ae aH s A0+(1:Nat)) I0)≠N0)/\(P0 x s)
def R0 (s:Str):=A0=(bd s).2.err/\A0=(bd s).2.pos/\True
def S0 (x:Nat × Nat)(s:Str):=(x.1<=List.length s/\List.length s<x.1+x.2/\bd s=ki s x.2 x.1)
def T0 (x:Nat × Nat):=(↑x.1:Int)
def U0 (s:Str):=false=false/\s=s/\false=false/\D0
def V0 (x:Nat × Nat)(s:Str):=(fW (List.drop (Int.toNat (T0 x)) (List.take (Int.toNat (E0 s)) s)))
def W0 (x:Nat)(s:Str):=((L0 x)/\if decide ((E0 s)<=(B0 x)+K0)=true then (Q0 s x) else (H0 x s)/\if (!decide ((J0 s x)=N0))=true then (Q0 s x) else (L0 x)/\(A0<=(B0 x)+K0/\(B0 x)+K0<(E0 s))/\(!decide ((↑(UInt8.toNat (List.getD s (Int.toNat ((B0 x)+K0)) I0)):Int)=N0))=decide (List.length s<=ae aH s A0+(1:Nat)∨bI (List.getD s (ae aH s A0) I0)≠N0∨bI (List.getD s (ae aH s A0+(1:Nat)) I0)≠N0)/\(P0 x s))/\if decide (List.length s<=ae aH s A0+(1:Nat)∨bI (List.getD s (ae aH s A0) I0)≠N0∨bI (List.getD s (ae aH s A0+(1:Nat)) I0)≠N0)=true then True/\(O0 s)=(bd s).1/\(R0 s) else (∃(x:Nat × Nat),(S0 x s)/\(O0 s)=(T0 x)/\(U0 s))/\∀(x:Nat × Nat),x.1<=List.length s/\List.length s<x.1+x.2/\bd s=ki s x.2 x.1→if decide ((T0 x)<(E0 s))=true then (A0<=(T0 x)/\(T0 x)<(E0 s))/\if (!decide ((↑(UInt8.toNat (List.getD s (Int.toNat (T0 x)) I0)):Int)=(10:Int)))=true then (A0<=(T0 x)/\(T0 x)<=(E0 s)/\(E0 s)<=(E0 s))/\if decide ((V0 x s).2=A0)=true then True/\A0=(bd s).1/\(30:Int)=(bd s).2.err/\(T0 x)=(bd s).2.pos/\True else inR IntKind.i64 ((T0 x)+(V0 x s).2)/\∃(y:Nat × Nat),(S0 y s)/\y.2<x.2/\(T0 x)+(V0 x s).2=(T0 y)/\(U0 s) else True/\(T0 x)=(bd s).1/\(R0 s) else True/\(T0 x)=(bd s).1/\(R0 s)
end C3o
open C3o in
theorem Av (s:Str) (ho:s.length<=4096) :
  (∃(x:Nat),(C0 x s)/\A0=(B0 x)/\s=s/\A0=A0/\D0)/\∀(x:Nat),x<=List.length s/\ae aH s A0=x+ae aH s (B0 x)→if decide ((B0 x)<(E0 s))=true then (H0 x s)/\if decide ((J0 s x)=(9:Int))=true then (M0 x s) else (H0 x s)/\if decide ((J0 s x)=(10:Int))=true then (M0 x s) else (H0 x s)/\if decide ((J0 s x)=(13:Int))=true then (M0 x s) else (H0 x s)/\if decide ((J0 s x)=(32:Int))=true then (M0 x s) else (W0 x s) else (W0 x s):=by
 delta W0 V0 U0 T0 S0 R0 Q0 P0 O0 N0 M0 L0 K0 J0 I0 H0 E0 D0 C0 B0 A0
 have ln:=ho
 have eb:∀b:UInt8,(b.toNat:Int)=bI b:=fun _=>rfl
 simp only [eb,Int.toNat_natCast,List.take_length,pn]
 refine ⟨⟨0,⟨Nat.zero_le _,by simp⟩,rfl,?_⟩,?_⟩
 ·exact Xr
 rintro x ⟨h1,h2⟩
 refine a6 (fun h=>?_) (fun h=>?_)
 ·have hk:x < s.length:=by have:=Xo h;omega
  clear h
  have l0:(0:Int)<=(x:Int)/\(x:Int) < (s.length:Int):=⟨by omega,by omega⟩
  refine ⟨l0,a6 (fun a=>?_) (fun a=>⟨l0,a6 (fun b=>?_) (fun b=>⟨l0,a6 (fun c=>?_) (fun c=>⟨l0,a6 (fun d=>?_) (fun d=>?_)⟩)⟩)⟩)⟩
  ·have hb:aH (bI (s.getD x 0))=true:=(dV _).2 (by have:=Xo a;omega)
   refine ⟨ak (by omega) (by omega),x+1,⟨by omega,lW hk hb h2⟩,by omega,by omega,?_⟩
   exact Xr
  ·have hb:aH (bI (s.getD x 0))=true:=(dV _).2 (by have:=Xo b;omega)
   refine ⟨ak (by omega) (by omega),x+1,⟨by omega,lW hk hb h2⟩,by omega,by omega,?_⟩
   exact Xr
  ·have hb:aH (bI (s.getD x 0))=true:=(dV _).2 (by have:=Xo c;omega)
   refine ⟨ak (by omega) (by omega),x+1,⟨by omega,lW hk hb h2⟩,by omega,by omega,?_⟩
   exact Xr
  ·have hb:aH (bI (s.getD x 0))=true:=(dV _).2 (by have:=Xo d;omega)
   refine ⟨ak (by omega) (by omega),x+1,⟨by omega,lW hk hb h2⟩,by omega,by omega,?_⟩
   exact Xr
  replace a:¬bI (s.getD x 0)=9:=fun e=>a (Xd e)
  replace b:¬bI (s.getD x 0)=10:=fun e=>b (Xd e)
  replace c:¬bI (s.getD x 0)=13:=fun e=>c (Xd e)
  replace d:¬bI (s.getD x 0)=32:=fun e=>d (Xd e)
  have hb:aH (bI (s.getD x 0))=false:=by
   cases e:aH (bI (s.getD x 0)) with
   | false=>rfl
   | true=>have:=(dV _).1 e;omega
  have hx:=Ag hk hb h2
  clear a b c d hb l0 h2
  rw [hx]
  have hP:bd s=if s.length<=x+1∨bI (s.getD x 0)≠45∨bI (s.getD (x+1) 0)≠45 then ((x:Int),⟨0,0⟩) else ki s (s.length+1) x:=by unfold bd;rw [hx]
  have t1:Int.toNat ((x:Int)+1)=x+1:=by omega
  rw [t1]
  refine ⟨⟨ak (by omega) (by omega),a6 (fun a=>?_) (fun a=>?_)⟩,a6 (fun g=>?_) (fun g=>?_)⟩
  ·have a:=Xo a
   refine ⟨(Xd (.inl (by omega))).symm,rfl,?_⟩
   exact Xr
  ·have a:¬(s.length:Int)<=(x:Int)+1:=fun e=>a (Xd e)
   refine ⟨⟨by omega,by omega⟩,a6 (fun b=>?_) (fun b=>?_)⟩
   ·have b:¬bI (s.getD x 0)=45:=by simpa using b
    refine ⟨(Xd (.inr (.inl b))).symm,rfl,?_⟩
    exact Xr
   ·have b:bI (s.getD x 0)=45:=by simpa using b
    refine ⟨ak (by omega) (by omega),⟨by omega,by omega⟩,?_,rfl,?_⟩
    ·rw [Bool.eq_iff_iff,decide_eq_true_iff,Bool.not_eq_true',decide_eq_false_iff_not]
     constructor
     ·exact fun e=>.inr (.inr e)
     ·rintro (e | e | e)
      ·omega
      ·exact absurd b e
      ·exact e
    exact Xr
  ·rw [hP,if_pos (Xo g)]
   exact ⟨trivial,rfl,rfl,rfl,trivial⟩
  ·have g':=fun e=>g (Xd e)
   refine ⟨⟨(x,s.length+1),⟨h1,by show s.length < x+(s.length+1);omega,by rw [hP,if_neg g']⟩,rfl,?_⟩,?_⟩
   ·exact Xr
   clear hP t1 g g' hx h1
   rintro ⟨n,f⟩ ⟨k1,k2,k3⟩
   simp only at k1 k2 k3 ⊢
   cases f with
   | zero=>omega
   | succ f=>
    have hR:ki s (f+1) n=if n < s.length/\bI (s.getD n 0)≠10 then (if cw (s.drop n)=0 then (0,⟨30,n⟩) else ki s f (n+cw (s.drop n))) else (n,⟨0,0⟩):=rfl
    rw [hR] at k3
    have hu:=km k1
    refine a6 (fun c=>?_) (fun c=>?_)
    ·have c:=Xo c
     refine ⟨⟨by omega,by omega⟩,a6 (fun d=>?_) (fun d=>?_)⟩
     ·have d:¬bI (s.getD n 0)=10:=by simpa using d
      rw [if_pos ⟨by omega,d⟩] at k3
      refine ⟨⟨by omega,by omega,by omega⟩,a6 (fun e=>?_) (fun e=>?_)⟩
      ·have e:=Xo e
       rw [if_pos (by omega)] at k3
       rw [k3]
       exact ⟨trivial,rfl,rfl,rfl,trivial⟩
      ·have e:¬((cw (s.drop n):Nat):Int)=0:=fun q=>e (Xd q)
       rw [if_neg (by omega)] at k3
       refine ⟨ak (by omega) (by omega),(n+cw (s.drop n),f),⟨hu,by show s.length < n+cw (s.drop n)+f;omega,k3⟩,by show f < f+1;omega,rfl,?_⟩
       exact Xr
     ·have d:bI (s.getD n 0)=10:=by simpa using d
      rw [if_neg (fun q=>q.2 d)] at k3
      rw [k3]
      exact ⟨trivial,rfl,rfl,rfl,trivial⟩
    ·have c:¬(n:Int) < (s.length:Int):=fun e=>c (Xd e)
     rw [if_neg (fun q=>c (by omega))] at k3
     rw [k3]
     exact ⟨trivial,rfl,rfl,rfl,trivial⟩
 ·have hk:s.length<=x:=by
   have:¬(x:Int) < (s.length:Int):=fun e=>h (Xd e)
   omega
  have hx:=Dq hk h2
  clear h h2
  rw [hx]
  have hP:bd s=if s.length<=x+1∨bI (s.getD x 0)≠45∨bI (s.getD (x+1) 0)≠45 then ((x:Int),⟨0,0⟩) else ki s (s.length+1) x:=by unfold bd;rw [hx]
  have t1:Int.toNat ((x:Int)+1)=x+1:=by omega
  rw [t1]
  refine ⟨⟨ak (by omega) (by omega),a6 (fun a=>?_) (fun a=>?_)⟩,a6 (fun g=>?_) (fun g=>?_)⟩
  ·have a:=Xo a
   refine ⟨(Xd (.inl (by omega))).symm,rfl,?_⟩
   exact Xr
  ·have a:¬(s.length:Int)<=(x:Int)+1:=fun e=>a (Xd e)
   refine ⟨⟨by omega,by omega⟩,a6 (fun b=>?_) (fun b=>?_)⟩
   ·have b:¬bI (s.getD x 0)=45:=by simpa using b
    refine ⟨(Xd (.inr (.inl b))).symm,rfl,?_⟩
    exact Xr
   ·have b:bI (s.getD x 0)=45:=by simpa using b
    refine ⟨ak (by omega) (by omega),⟨by omega,by omega⟩,?_,rfl,?_⟩
    ·rw [Bool.eq_iff_iff,decide_eq_true_iff,Bool.not_eq_true',decide_eq_false_iff_not]
     constructor
     ·exact fun e=>.inr (.inr e)
     ·rintro (e | e | e)
      ·omega
      ·exact absurd b e
      ·exact e
    exact Xr
  ·rw [hP,if_pos (Xo g)]
   exact ⟨trivial,rfl,rfl,rfl,trivial⟩
  ·have g':=fun e=>g (Xd e)
   refine ⟨⟨(x,s.length+1),⟨h1,by show s.length < x+(s.length+1);omega,by rw [hP,if_neg g']⟩,rfl,?_⟩,?_⟩
   ·exact Xr
   clear hP t1 g g' hx h1
   rintro ⟨n,f⟩ ⟨k1,k2,k3⟩
   simp only at k1 k2 k3 ⊢
   cases f with
   | zero=>omega
   | succ f=>
    have hR:ki s (f+1) n=if n < s.length/\bI (s.getD n 0)≠10 then (if cw (s.drop n)=0 then (0,⟨30,n⟩) else ki s f (n+cw (s.drop n))) else (n,⟨0,0⟩):=rfl
    rw [hR] at k3
    have hu:=km k1
    refine a6 (fun c=>?_) (fun c=>?_)
    ·have c:=Xo c
     refine ⟨⟨by omega,by omega⟩,a6 (fun d=>?_) (fun d=>?_)⟩
     ·have d:¬bI (s.getD n 0)=10:=by simpa using d
      rw [if_pos ⟨by omega,d⟩] at k3
      refine ⟨⟨by omega,by omega,by omega⟩,a6 (fun e=>?_) (fun e=>?_)⟩
      ·have e:=Xo e
       rw [if_pos (by omega)] at k3
       rw [k3]
       exact ⟨trivial,rfl,rfl,rfl,trivial⟩
      ·have e:¬((cw (s.drop n):Nat):Int)=0:=fun q=>e (Xd q)
       rw [if_neg (by omega)] at k3
       refine ⟨ak (by omega) (by omega),(n+cw (s.drop n),f),⟨hu,by show s.length < n+cw (s.drop n)+f;omega,k3⟩,by show f < f+1;omega,rfl,?_⟩
       exact Xr
     ·have d:bI (s.getD n 0)=10:=by simpa using d
      rw [if_neg (fun q=>q.2 d)] at k3
      rw [k3]
      exact ⟨trivial,rfl,rfl,rfl,trivial⟩
    ·have c:¬(n:Int) < (s.length:Int):=fun e=>c (Xd e)
     rw [if_neg (fun q=>c (by omega))] at k3
     rw [k3]
     exact ⟨trivial,rfl,rfl,rfl,trivial⟩
end Go.AL.Seat
end
section
open Go Go.AL Go.Pd
namespace Go.AL.Seat
namespace C3p
def A0 (x:Nat)(s:Str):=(x<=List.length s/\List.all s cx=List.all (List.drop x s) cx)
def B0:=(0:Int)
def C0 (x:Nat):=(↑x:Int)
def D0 (s:Str):=(↑(List.length s):Int)
def E0 (s:Str):=True/\false=mw s/\True
end C3p
open C3p in
theorem Aw (s:Str) (hs:Wf .str s) :
  (∃(x:Nat),(A0 x s)/\B0=(C0 x)/\s=s/\True)/\∀(x:Nat),x<=List.length s/\List.all s cx=List.all (List.drop x s) cx→if decide ((C0 x)<(D0 s))=true then (B0<=(C0 x)/\(C0 x)<(D0 s))/\if (!aM (↑(UInt8.toNat (List.getD s (Int.toNat (C0 x)) (0:UInt8))):Int))=true then (E0 s) else inR IntKind.i64 ((C0 x)+(1:Int))/\∃(y:Nat),(A0 y s)/\List.length s - y<List.length s - x/\(C0 x)+(1:Int)=(C0 y)/\s=s/\True else if decide ((1:Int)<=(D0 s))=true then if decide ((D0 s)<=(15:Int))=true then if decide ((D0 s)=(1:Int))=true then True/\true=mw s/\True else (B0<=B0/\B0<(D0 s))/\True/\(!decide ((↑(UInt8.toNat (List.getD s (Int.toNat B0) (0:UInt8))):Int)=(48:Int)))=mw s/\True else (E0 s) else (E0 s):=by
 delta E0 D0 C0 B0 A0
 have ln:=hs.str
 have eb:∀b:UInt8,(b.toNat:Int)=bI b:=fun _=>rfl
 have ed:∀b:UInt8,aM (bI b)=cx b:=fun _=>rfl
 simp only [eb,ed,Int.toNat_natCast,Int.toNat_zero]
 refine ⟨⟨0,⟨Nat.zero_le _,rfl⟩,?_⟩,?_⟩
 ·exact Xr
 rintro k ⟨h1,h2⟩
 refine a6 (fun h=>?_) (fun h=>?_)
 ·have hk:k < s.length:=by have:=Xo h;omega
  rw [aT s k 0 hk,List.all_cons] at h2
  refine ⟨⟨by omega,by omega⟩,a6 (fun a=>?_) (fun a=>?_)⟩
  ·have a:cx (s.getD k 0)=false:=by simpa using a
   refine ⟨trivial,?_,trivial⟩
   unfold mw
   rw [h2,a]
   rfl
  ·have a:cx (s.getD k 0)=true:=by simpa using a
   rw [a,Bool.true_and] at h2
   refine ⟨bN hk ln,k+1,⟨by omega,h2⟩,by omega,by omega,?_⟩
   exact Xr
 ·have hk:k=s.length:=by
   have:¬((k:Int) < (s.length:Int)):=fun e=>h (Xd e)
   omega
  rw [hk,List.drop_length] at h2
  have h2:s.all cx=true:=h2
  unfold mw
  rw [h2]
  refine a6 (fun a=>?_) (fun a=>?_)
  ·have a:=Xo a
   refine a6 (fun b=>?_) (fun b=>?_)
   ·have b:=Xo b
    rw [Xd (p:=1<=s.length) (by omega),Xd (p:=s.length<=15) (by omega)]
    refine a6 (fun c=>?_) (fun c=>?_)
    ·have c:=Xo c
     rw [Xd (p:=s.length=1) (by omega)]
     exact ⟨trivial,rfl,trivial⟩
    ·have c:¬(s.length:Int)=1:=fun e=>c (Xd e)
     rw [Xf (p:=s.length=1) (by omega)]
     refine ⟨⟨by omega,by omega⟩,trivial,?_,trivial⟩
     simp
   ·have b:¬(s.length:Int)<=15:=fun e=>b (Xd e)
    rw [Xf (p:=s.length<=15) (by omega)]
    exact ⟨trivial,by simp,trivial⟩
  ·have a:¬(1:Int)<=(s.length:Int):=fun e=>a (Xd e)
   rw [Xf (p:=1<=s.length) (by omega)]
   exact ⟨trivial,by simp,trivial⟩
end Go.AL.Seat
end
section
open Go Go.AL Go.Pd
namespace Go.AL.Seat
theorem Gy (s:Str)  :
  True/\decide (s∈[([40]:Str),([41]:Str),([123]:Str),([125]:Str),([91]:Str),([93]:Str),([60]:Str),([62]:Str),([60,61]:Str),([62,61]:Str),([61]:Str),([94]:Str),([42]:Str),([44]:Str),([58]:Str),([46]:Str),([47]:Str),([64]:Str),([124]:Str),([45,62]:Str)])=fS s/\True:=by
 refine ⟨trivial,?_,trivial⟩
 exact Bool.eq_iff_iff.2 (decide_eq_true_iff.trans (Dp s))
end Go.AL.Seat
end
section
open Go Go.AL Go.Pd
namespace Go.AL.Seat
namespace C3r
def A0 (x:Nat × Str × Nat)(s:Str):=(x.2.2<=List.length s/\List.length x.2.1<=x.2.2/\List.length s<x.2.2+x.1/\dh s=bC s x.1 x.2.1 x.2.2)
def B0:=(1:Int)
def C0 (x:Nat × Str × Nat):=(↑x.2.2:Int)
def D0 (x:Nat × Str × Nat):=(aJ x.2.1)
def E0:=(0:Int)
def H0:=E0=E0/\dO UInt8=dO UInt8/\E0=E0/\E0=E0/\E0=E0/\(60:Int)=(60:Int)/\E0=E0/\True
def I0 (s:Str):=(↑(List.length s):Int)
def J0 (s:Str)(x:Nat × Str × Nat):=(↑(UInt8.toNat (List.getD s (Int.toNat (C0 x)) (0:UInt8))):Int)
def K0 (x:Nat × Str × Nat):=inR IntKind.i64 ((C0 x)+B0)
def L0 (s:Str):=(dh s)
def M0 (s:Str):=True/\E0=(L0 s).1.kind/\[]=(L0 s).1.text/\E0=(L0 s).1.pos/\E0=(L0 s).2.1/\(60:Int)=(L0 s).2.2.err/\E0=(L0 s).2.2.pos/\True
def N0 (s:Str)(x:Nat × Str × Nat):=(↑(UInt8.toNat (List.getD s (Int.toNat ((C0 x)+B0)) (0:UInt8))):Int)
def O0 (x:Nat × Str × Nat):=List.length (D0 x)=List.length (D0 x)
def P0:=(140737488355328:Nat)
def Q0 (x:Nat × Str × Nat):=inR IntKind.i64 ((C0 x)+(2:Int))
def R0 (x:Nat × Str × Nat)(s:Str):=(K0 x)/\(E0<=(C0 x)+B0/\(C0 x)+B0<(I0 s))/\((O0 x)/\(List.length (D0 x)+List.length [(N0 s x)])*(1:Nat)<=P0)/\(Q0 x)/\∃(y:Nat × Str × Nat),(A0 y s)/\y.1<x.1/\aJ x.2.1++[(N0 s x)]=aJ y.2.1/\(C0 x)+(2:Int)=(C0 y)/\s=s/\List.length (aJ x.2.1++[(N0 s x)])=List.length (D0 y)/\H0
def S0 (x:Nat × Str × Nat)(s:Str):=(fW (List.drop (Int.toNat (C0 x)) (List.take (Int.toNat (I0 s)) s)))
def T0 (x:Nat × Str × Nat)(s:Str):=(List.drop (Int.toNat (C0 x)) (List.take (Int.toNat ((C0 x)+(S0 x s).2)) s))
end C3r
open C3r in
theorem Ax (s:Str) (ho:s.length<=4096/\0 < s.length) :
  (∃(x:Nat × Str × Nat),(A0 x s)/\aJ x.2.1=[]/\B0=(C0 x)/\s=s/\List.length (D0 x)=(0:Nat)/\H0)/\∀(x:Nat × Str × Nat),x.2.2<=List.length s/\List.length x.2.1<=x.2.2/\List.length s<x.2.2+x.1/\dh s=bC s x.1 x.2.1 x.2.2→if decide ((C0 x)<(I0 s))=true then (E0<=(C0 x)/\(C0 x)<(I0 s))/\if decide ((J0 s x)=(34:Int))=true then (K0 x)/\True/\(4:Int)=(L0 s).1.kind/\List.map (fun (n:Int)=>UInt8.ofNat (Int.toNat n)) (D0 x)=(L0 s).1.text/\E0=(L0 s).1.pos/\(C0 x)+B0=(L0 s).2.1/\E0=(L0 s).2.2.err/\E0=(L0 s).2.2.pos/\True else (E0<=(C0 x)/\(C0 x)<(I0 s))/\if decide ((J0 s x)<(32:Int))=true then (M0 s) else (E0<=(C0 x)/\(C0 x)<(I0 s))/\if decide ((J0 s x)=(92:Int))=true then (K0 x)/\if decide ((C0 x)+B0=(I0 s))=true then (M0 s) else (K0 x)/\(E0<=(C0 x)+B0/\(C0 x)+B0<(I0 s))/\if decide ((N0 s x)=(110:Int))=true then ((O0 x)/\(List.length (D0 x)+List.length [(10:Int)])*(1:Nat)<=P0)/\(Q0 x)/\∃(y:Nat × Str × Nat),(A0 y s)/\y.1<x.1/\aJ x.2.1++[(10:Int)]=aJ y.2.1/\(C0 x)+(2:Int)=(C0 y)/\s=s/\List.length (aJ x.2.1++[(10:Int)])=List.length (D0 y)/\H0 else if decide ((N0 s x)=(116:Int))=true then ((O0 x)/\(List.length (D0 x)+List.length [(9:Int)])*(1:Nat)<=P0)/\(Q0 x)/\∃(y:Nat × Str × Nat),(A0 y s)/\y.1<x.1/\aJ x.2.1++[(9:Int)]=aJ y.2.1/\(C0 x)+(2:Int)=(C0 y)/\s=s/\List.length (aJ x.2.1++[(9:Int)])=List.length (D0 y)/\H0 else if decide ((N0 s x)=(34:Int))=true then (R0 x s) else if decide ((N0 s x)=(92:Int))=true then (R0 x s) else (M0 s) else (E0<=(C0 x)/\(C0 x)<=(I0 s)/\(I0 s)<=(I0 s))/\if decide ((S0 x s).2=E0)=true then True/\E0=(L0 s).1.kind/\[]=(L0 s).1.text/\E0=(L0 s).1.pos/\E0=(L0 s).2.1/\(30:Int)=(L0 s).2.2.err/\(C0 x)=(L0 s).2.2.pos/\True else inR IntKind.i64 ((C0 x)+(S0 x s).2)/\(E0<=(C0 x)/\(C0 x)<=(C0 x)+(S0 x s).2/\(C0 x)+(S0 x s).2<=(I0 s))/\((O0 x)/\(List.length (D0 x)+List.length (T0 x s))*(1:Nat)<=P0)/\inR IntKind.i64 ((C0 x)+(S0 x s).2)/\∃(y:Nat × Str × Nat),(A0 y s)/\y.1<x.1/\aJ x.2.1++aJ (T0 x s)=aJ y.2.1/\(C0 x)+(S0 x s).2=(C0 y)/\s=s/\List.length (aJ x.2.1++aJ (T0 x s))=List.length (D0 y)/\H0 else (M0 s):=by
 delta T0 S0 R0 Q0 P0 O0 N0 M0 L0 K0 J0 I0 H0 E0 D0 C0 B0 A0
 obtain ⟨ln,lp⟩:=ho
 have eb:∀b:UInt8,(b.toNat:Int)=bI b:=fun _=>rfl
 have el:∀l:Str,(aJ l).length=l.length:=fun l=>List.length_map _
 simp only [eb,el,Int.toNat_natCast,List.take_length,pn]
 refine ⟨⟨(s.length+2,[],1),⟨lp,Nat.zero_le _,by show s.length < 1+(s.length+2);omega,rfl⟩,rfl,rfl,?_⟩,?_⟩
 ·exact Xr
 rintro ⟨f,acc,i⟩ ⟨k1,k2,k3,k4⟩
 simp only at k1 k2 k3 k4 ⊢
 cases f with
 | zero=>omega
 | succ f=>
  have t1:Int.toNat ((i:Int)+1)=i+1:=by omega
  have t2:Int.toNat ((i:Int)+(cw (s.drop i):Int))=i+cw (s.drop i):=by omega
  have t3:(s.take (i+cw (s.drop i))).drop i=(s.drop i).take (cw (s.drop i)):=by rw [List.drop_take,Nat.add_sub_cancel_left]
  simp only [t1,t2,t3]
  have hR:bC s (f+1) acc i=if i < s.length then
    if bI (s.getD i 0)=34 then okK 4 acc (i+1)
    else if bI (s.getD i 0) < 32 then mc
    else if bI (s.getD i 0)=92 then
     if i+1=s.length then mc
     else match ij (bI (s.getD (i+1) 0)) with
      | none=>mc
      | some x=>bC s f (acc++[UInt8.ofNat x.toNat]) (i+2)
    else if cw (s.drop i)=0 then (jm,0,⟨30,i⟩)
    else bC s f (acc++(s.drop i).take (cw (s.drop i))) (i+cw (s.drop i))
   else mc:=rfl
  rw [hR] at k4
  clear hR t1 t2 t3
  have hu:=km k1
  refine a6 (fun c=>?_) (fun c=>?_)
  ·have c:=Xo c
   have l0:(0:Int)<=(i:Int)/\(i:Int) < (s.length:Int):=⟨by omega,by omega⟩
   rw [if_pos (by omega)] at k4
   refine ⟨l0,a6 (fun a=>?_) (fun a=>⟨l0,a6 (fun b=>?_) (fun b=>⟨l0,a6 (fun d=>?_) (fun d=>?_)⟩)⟩)⟩
   ·rw [if_pos (Xo a)] at k4
    rw [k4]
    exact ⟨ak (by omega) (by omega),trivial,rfl,mL acc,rfl,rfl,rfl,rfl,trivial⟩
   ·rw [if_neg (fun e=>a (Xd e)),if_pos (Xo b)] at k4
    rw [k4];exact ⟨trivial,rfl,rfl,rfl,rfl,rfl,rfl,trivial⟩
   ·rw [if_neg (fun e=>a (Xd e)),if_neg (fun e=>b (Xd e)),if_pos (Xo d)] at k4
    refine ⟨ak (by omega) (by omega),a6 (fun e=>?_) (fun e=>?_)⟩
    ·have e:=Xo e
     rw [if_pos (by omega)] at k4
     rw [k4];exact ⟨trivial,rfl,rfl,rfl,rfl,rfl,rfl,trivial⟩
    ·have e:¬(i:Int)+1=(s.length:Int):=fun q=>e (Xd q)
     rw [if_neg (by omega)] at k4
     refine ⟨ak (by omega) (by omega),⟨by omega,by omega⟩,a6 (fun g=>?_) (fun g=>a6 (fun h=>?_) (fun h=>a6 (fun m=>?_) (fun m=>a6 (fun n=>?_) (fun n=>?_))))⟩
     ·have g:=Xo g
      rw [g] at k4
      have k5:dh s=bC s f (acc++[10]) (i+2):=k4
      skip
      refine ⟨⟨trivial,by show (acc.length+1) *1<=_;omega⟩,ak (by omega) (by omega),(f,acc++[10],i+2),⟨by show i+2<=s.length;omega,by show (acc++[10]).length<=i+2;rw [List.length_append];show acc.length+1<=i+2;omega,by show s.length < i+2+f;omega,k5⟩,by show f < f+1;omega,(eA acc [10]).symm,rfl,?_⟩
      repeat (first | exact trivial | refine ⟨by first | rfl | trivial | (simp [aJ]),?_⟩)
     ·have h:=Xo h
      rw [h] at k4
      have k5:dh s=bC s f (acc++[9]) (i+2):=k4
      skip
      refine ⟨⟨trivial,by show (acc.length+1) *1<=_;omega⟩,ak (by omega) (by omega),(f,acc++[9],i+2),⟨by show i+2<=s.length;omega,by show (acc++[9]).length<=i+2;rw [List.length_append];show acc.length+1<=i+2;omega,by show s.length < i+2+f;omega,k5⟩,by show f < f+1;omega,(eA acc [9]).symm,rfl,?_⟩
      repeat (first | exact trivial | refine ⟨by first | rfl | trivial | (simp [aJ]),?_⟩)
     ·have m:=Xo m
      rw [m] at k4
      have k5:dh s=bC s f (acc++[34]) (i+2):=k4
      rw [m]
      refine ⟨ak (by omega) (by omega),⟨by omega,by omega⟩,⟨trivial,by show (acc.length+1) *1<=_;omega⟩,ak (by omega) (by omega),(f,acc++[34],i+2),⟨by show i+2<=s.length;omega,by show (acc++[34]).length<=i+2;rw [List.length_append];show acc.length+1<=i+2;omega,by show s.length < i+2+f;omega,k5⟩,by show f < f+1;omega,(eA acc [34]).symm,rfl,?_⟩
      repeat (first | exact trivial | refine ⟨by first | rfl | trivial | (simp [aJ]),?_⟩)
     ·have n:=Xo n
      rw [n] at k4
      have k5:dh s=bC s f (acc++[92]) (i+2):=k4
      rw [n]
      refine ⟨ak (by omega) (by omega),⟨by omega,by omega⟩,⟨trivial,by show (acc.length+1) *1<=_;omega⟩,ak (by omega) (by omega),(f,acc++[92],i+2),⟨by show i+2<=s.length;omega,by show (acc++[92]).length<=i+2;rw [List.length_append];show acc.length+1<=i+2;omega,by show s.length < i+2+f;omega,k5⟩,by show f < f+1;omega,(eA acc [92]).symm,rfl,?_⟩
      repeat (first | exact trivial | refine ⟨by first | rfl | trivial | (simp [aJ]),?_⟩)
     ·have hn:ij (bI (s.getD (i+1) 0))=none:=by
       unfold ij
       rw [if_neg (fun q=>g (Xd q)),if_neg (fun q=>h (Xd q)),if_neg (fun q=>m (Xd q)),if_neg (fun q=>n (Xd q))]
      rw [hn] at k4
      rw [k4];exact ⟨trivial,rfl,rfl,rfl,rfl,rfl,rfl,trivial⟩
   ·rw [if_neg (fun e=>a (Xd e)),if_neg (fun e=>b (Xd e)),if_neg (fun e=>d (Xd e))] at k4
    refine ⟨⟨by omega,by omega,by omega⟩,a6 (fun e=>?_) (fun e=>?_)⟩
    ·have e:=Xo e
     rw [if_pos (by omega)] at k4
     rw [k4];exact ⟨trivial,rfl,rfl,rfl,rfl,rfl,rfl,trivial⟩
    ·have e:¬((cw (s.drop i):Nat):Int)=0:=fun q=>e (Xd q)
     rw [if_neg (by omega)] at k4
     have hl:((s.drop i).take (cw (s.drop i))).length<=cw (s.drop i):=by rw [List.length_take];omega
     refine ⟨ak (by omega) (by omega),⟨by omega,by omega,by omega⟩,⟨trivial,by omega⟩,ak (by omega) (by omega),(f,acc++(s.drop i).take (cw (s.drop i)),i+cw (s.drop i)),⟨hu,by show (acc++(s.drop i).take (cw (s.drop i))).length<=i+cw (s.drop i);rw [List.length_append];omega,by show s.length < i+cw (s.drop i)+f;omega,k4⟩,by show f < f+1;omega,(eA _ _).symm,rfl,?_⟩
     repeat (first | exact trivial | refine ⟨by first | rfl | trivial | (simp [aJ]),?_⟩)
  ·have c:¬(i:Int) < (s.length:Int):=fun e=>c (Xd e)
   rw [if_neg (by omega)] at k4
   rw [k4];exact ⟨trivial,rfl,rfl,rfl,rfl,rfl,rfl,trivial⟩
end Go.AL.Seat
end
section
open Go Go.AL Go.Pd
namespace Go.AL.Seat
namespace C3s
def A0:=(0:Int)
def B0:=A0<=A0
def C0 (s:Str):=(↑(List.length s):Int)
def D0:=(Int.toNat A0)
def E0 (s:Str):=(↑(UInt8.toNat (List.getD s D0 (0:UInt8))):Int)
def H0 (s:Str):=(↑(cl s):Int)
def I0 (s:Str):=(List.drop D0 (List.take (Int.toNat (H0 s)) s))
def J0:=True
def K0 (s:Str):=(bV s)
def L0 (s:Str):=A0=(K0 s).1.pos
def M0 (s:Str):=A0=(K0 s).2.2.err/\A0=(K0 s).2.2.pos/\J0
def N0 (s:Str):=List.drop D0 (List.take (Int.toNat (H0 s)) s)=(K0 s).1.text/\(L0 s)/\(H0 s)=(K0 s).2.1/\(M0 s)
def O0:=(1:Int)
def P0:=(2:Int)
def Q0 (s:Str):=J0/\A0=(K0 s).1.kind/\[]=(K0 s).1.text/\(L0 s)/\A0=(K0 s).2.1/\(60:Int)=(K0 s).2.2.err/\A0=(K0 s).2.2.pos/\J0
def R0 (s:Str):=(B0/\A0<=(H0 s)/\(H0 s)<=(C0 s))/\if j9 (I0 s)=true then J0/\(5:Int)=(K0 s).1.kind/\(N0 s) else if aU (I0 s)=true then J0/\O0=(K0 s).1.kind/\(N0 s) else if cZ (I0 s)=true then J0/\P0=(K0 s).1.kind/\(N0 s) else (Q0 s)
def S0 (x:Nat):=(↑x:Int)
def T0 (x:Nat)(s:Str):=(x<=List.length s/\ae aF s A0=x+ae aF s (S0 x))
def U0:=A0=A0
def V0 (s:Str):=s=s/\U0/\(E0 s)=(E0 s)/\false=false/\true=true/\U0/\dO UInt8=dO UInt8/\U0/\U0/\U0/\(60:Int)=(60:Int)/\U0/\J0
def W0 (x:Nat)(s:Str):=(A0<=(S0 x)/\(S0 x)<(C0 s))
def X0 (s:Str)(x:Nat):=(↑(UInt8.toNat (List.getD s (Int.toNat (S0 x)) (0:UInt8))):Int)
def Y0 (x:Nat)(s:Str):=inR IntKind.i64 ((S0 x)+O0)/\∃(y:Nat),(T0 y s)/\List.length s - y<List.length s - x/\(S0 x)+O0=(S0 y)/\(V0 s)
def Z0 (x:Nat)(s:Str):=(B0/\A0<=(S0 x)/\(S0 x)<=(C0 s))
def A1 (x:Nat)(s:Str):=(List.drop D0 (List.take (Int.toNat (S0 x)) s))
def B1 (x:Nat)(s:Str):=List.drop D0 (List.take (Int.toNat (S0 x)) s)=(K0 s).1.text/\(L0 s)/\(S0 x)=(K0 s).2.1/\(M0 s)
def C1 (x:Nat)(s:Str):=(Z0 x s)/\List.length (A1 x s)<=(4096:Nat)/\(Z0 x s)/\if mw (A1 x s)=true then (Z0 x s)/\J0/\(3:Int)=(K0 s).1.kind/\(B1 x s) else if decide ((bY (A1 x s)).2=A0)=true then (Z0 x s)/\J0/\(7:Int)=(K0 s).1.kind/\(B1 x s) else (Q0 s)
def D1 (s:Str):=(B0/\A0<=O0/\O0<=(C0 s))/\if fS (List.drop D0 (List.take (Int.toNat O0) s))=true then (B0/\A0<=O0/\O0<=(C0 s))/\J0/\(6:Int)=(K0 s).1.kind/\List.drop D0 (List.take (Int.toNat O0) s)=(K0 s).1.text/\(L0 s)/\O0=(K0 s).2.1/\(M0 s) else (Q0 s)
end C3s
open C3s in
theorem DK (s:Str) (ho:s.length<=4096/\0 < s.length) :
  (B0/\A0<(C0 s))/\if bJ (E0 s)=true then (R0 s) else if bP (E0 s)=true then (R0 s) else if aM (E0 s)=true then (∃(x:Nat),(T0 x s)/\A0=(S0 x)/\(V0 s))/\∀(x:Nat),x<=List.length s/\ae aF s A0=x+ae aF s (S0 x)→if decide ((S0 x)<(C0 s))=true then (W0 x s)/\if bJ (X0 s x)=true then (Y0 x s) else (W0 x s)/\if bP (X0 s x)=true then (Y0 x s) else (W0 x s)/\if aM (X0 s x)=true then (Y0 x s) else (W0 x s)/\if decide ((X0 s x)=(46:Int))=true then (Y0 x s) else (W0 x s)/\if decide ((X0 s x)=(45:Int))=true then (Y0 x s) else (C1 x s) else (C1 x s) else if decide ((E0 s)=(34:Int))=true then (List.length s<=(4096:Nat)/\(0:Nat)<List.length s)/\J0/\(dh s).1=(K0 s).1/\(dh s).2.1=(K0 s).2.1/\(dh s).2.2=(K0 s).2.2/\J0 else if decide (P0<=(C0 s))=true then (B0/\A0<=P0/\P0<=(C0 s))/\if fS (List.drop D0 (List.take (Int.toNat P0) s))=true then (B0/\A0<=P0/\P0<=(C0 s))/\J0/\(6:Int)=(K0 s).1.kind/\List.drop D0 (List.take (Int.toNat P0) s)=(K0 s).1.text/\(L0 s)/\P0=(K0 s).2.1/\(M0 s) else (D1 s) else (D1 s):=by
 delta D1 C1 B1 A1 Z0 Y0 X0 W0 V0 U0 T0 S0 R0 Q0 P0 O0 N0 M0 L0 K0 J0 I0 H0 E0 D0 C0 B0 A0
 obtain ⟨ln,lp⟩:=ho
 have eb:∀b:UInt8,(b.toNat:Int)=bI b:=fun _=>rfl
 have tt1:Int.toNat 1=1:=rfl
 have tt2:Int.toNat 2=2:=rfl
 simp only [eb,tt1,tt2,Int.toNat_natCast,Int.toNat_zero,List.drop_zero]
 have hl:=rI s
 have hF:bV s=if bJ (bI (s.getD 0 0))=true∨bP (bI (s.getD 0 0))=true then lU s
  else if aM (bI (s.getD 0 0))=true then lV (s.take (ae aF s 0)) (ae aF s 0)
  else if bI (s.getD 0 0)=34 then dh s
  else nF s:=rfl
 refine ⟨⟨Int.le_refl 0,by omega⟩,a6 (fun h1=>?_) (fun h1=>a6 (fun h2=>?_) (fun h2=>a6 (fun h3=>?_) (fun h3=>a6 (fun h4=>?_) (fun h4=>?_))))⟩
 ·rw [if_pos (.inl h1)] at hF
  unfold lU at hF
  refine ⟨⟨Int.le_refl 0,by omega,by omega⟩,a6 (fun a=>?_) (fun a=>a6 (fun b=>?_) (fun b=>a6 (fun d=>?_) (fun d=>?_)))⟩
  ·rw [if_pos a] at hF;rw [hF];exact ⟨trivial,rfl,rfl,rfl,rfl,rfl,rfl,trivial⟩
  ·rw [if_neg a,if_pos b] at hF;rw [hF];exact ⟨trivial,rfl,rfl,rfl,rfl,rfl,rfl,trivial⟩
  ·rw [if_neg a,if_neg b,if_pos d] at hF;rw [hF];exact ⟨trivial,rfl,rfl,rfl,rfl,rfl,rfl,trivial⟩
  ·rw [if_neg a,if_neg b,if_neg d] at hF;rw [hF];exact ⟨trivial,rfl,rfl,rfl,rfl,rfl,rfl,trivial⟩
 ·rw [if_pos (.inr h2)] at hF
  unfold lU at hF
  refine ⟨⟨Int.le_refl 0,by omega,by omega⟩,a6 (fun a=>?_) (fun a=>a6 (fun b=>?_) (fun b=>a6 (fun d=>?_) (fun d=>?_)))⟩
  ·rw [if_pos a] at hF;rw [hF];exact ⟨trivial,rfl,rfl,rfl,rfl,rfl,rfl,trivial⟩
  ·rw [if_neg a,if_pos b] at hF;rw [hF];exact ⟨trivial,rfl,rfl,rfl,rfl,rfl,rfl,trivial⟩
  ·rw [if_neg a,if_neg b,if_pos d] at hF;rw [hF];exact ⟨trivial,rfl,rfl,rfl,rfl,rfl,rfl,trivial⟩
  ·rw [if_neg a,if_neg b,if_neg d] at hF;rw [hF];exact ⟨trivial,rfl,rfl,rfl,rfl,rfl,rfl,trivial⟩
 ·rw [if_neg (fun e=>e.elim h1 h2),if_pos h3] at hF
  refine ⟨⟨0,⟨Nat.zero_le _,by simp⟩,rfl,?_⟩,?_⟩
  ·exact Xr
  rintro x ⟨k1,k2⟩
  refine a6 (fun h=>?_) (fun h=>?_)
  ·have hk:x < s.length:=by have:=Xo h;omega
   clear h
   have l0:(0:Int)<=(x:Int)/\(x:Int) < (s.length:Int):=⟨by omega,by omega⟩
   refine ⟨l0,a6 (fun a=>?_) (fun a=>⟨l0,a6 (fun b=>?_) (fun b=>⟨l0,a6 (fun c=>?_) (fun c=>⟨l0,a6 (fun d=>?_) (fun d=>⟨l0,a6 (fun e=>?_) (fun e=>?_)⟩)⟩)⟩)⟩)⟩
   ·have hb:aF (bI (s.getD x 0))=true:=by unfold aF;rw [a];simp only [Bool.true_or,Bool.or_true]
    refine ⟨ak (by omega) (by omega),x+1,⟨by omega,lz hk hb k2⟩,by omega,rfl,?_⟩
    exact Xr
   ·have hb:aF (bI (s.getD x 0))=true:=by unfold aF;rw [b];simp only [Bool.true_or,Bool.or_true]
    refine ⟨ak (by omega) (by omega),x+1,⟨by omega,lz hk hb k2⟩,by omega,rfl,?_⟩
    exact Xr
   ·have hb:aF (bI (s.getD x 0))=true:=by unfold aF;rw [c];simp only [Bool.true_or,Bool.or_true]
    refine ⟨ak (by omega) (by omega),x+1,⟨by omega,lz hk hb k2⟩,by omega,rfl,?_⟩
    exact Xr
   ·have hb:aF (bI (s.getD x 0))=true:=by unfold aF;rw [d];simp only [Bool.true_or,Bool.or_true]
    refine ⟨ak (by omega) (by omega),x+1,⟨by omega,lz hk hb k2⟩,by omega,rfl,?_⟩
    exact Xr
   ·have hb:aF (bI (s.getD x 0))=true:=by unfold aF;rw [e];simp only [Bool.true_or,Bool.or_true]
    refine ⟨ak (by omega) (by omega),x+1,⟨by omega,lz hk hb k2⟩,by omega,rfl,?_⟩
    exact Xr
   have hb:aF (bI (s.getD x 0))=false:=by
    unfold aF
    rw [Bool.eq_false_iff.2 a,Bool.eq_false_iff.2 b,Bool.eq_false_iff.2 c,Bool.eq_false_iff.2 d,Bool.eq_false_iff.2 e]
    rfl
   have hx:=Ds hk hb k2
   clear a b c d e hb l0 k2
   rw [hx] at hF
   unfold lV at hF
   refine ⟨⟨Int.le_refl 0,by omega,by omega⟩,by rw [List.length_take];omega,⟨Int.le_refl 0,by omega,by omega⟩,a6 (fun a=>⟨⟨Int.le_refl 0,by omega,by omega⟩,?_⟩) (fun a=>a6 (fun b=>⟨⟨Int.le_refl 0,by omega,by omega⟩,?_⟩) (fun b=>?_))⟩
   ·rw [if_pos a] at hF;rw [hF];exact ⟨trivial,rfl,rfl,rfl,rfl,rfl,rfl,trivial⟩
   ·rw [if_neg a,if_pos (Xo b)] at hF;rw [hF];exact ⟨trivial,rfl,rfl,rfl,rfl,rfl,rfl,trivial⟩
   ·rw [if_neg a,if_neg (fun e=>b (Xd e))] at hF;rw [hF];exact ⟨trivial,rfl,rfl,rfl,rfl,rfl,rfl,trivial⟩
  ·have hk:s.length<=x:=by
    have:¬(x:Int) < (s.length:Int):=fun e=>h (Xd e)
    omega
   have hx:=Gg hk k2
   clear h k2
   rw [hx] at hF
   unfold lV at hF
   refine ⟨⟨Int.le_refl 0,by omega,by omega⟩,by rw [List.length_take];omega,⟨Int.le_refl 0,by omega,by omega⟩,a6 (fun a=>⟨⟨Int.le_refl 0,by omega,by omega⟩,?_⟩) (fun a=>a6 (fun b=>⟨⟨Int.le_refl 0,by omega,by omega⟩,?_⟩) (fun b=>?_))⟩
   ·rw [if_pos a] at hF;rw [hF];exact ⟨trivial,rfl,rfl,rfl,rfl,rfl,rfl,trivial⟩
   ·rw [if_neg a,if_pos (Xo b)] at hF;rw [hF];exact ⟨trivial,rfl,rfl,rfl,rfl,rfl,rfl,trivial⟩
   ·rw [if_neg a,if_neg (fun e=>b (Xd e))] at hF;rw [hF];exact ⟨trivial,rfl,rfl,rfl,rfl,rfl,rfl,trivial⟩
 ·rw [if_neg (fun e=>e.elim h1 h2),if_neg h3,if_pos (Xo h4)] at hF
  rw [hF]
  exact ⟨⟨ln,lp⟩,trivial,rfl,rfl,rfl,trivial⟩
 ·rw [if_neg (fun e=>e.elim h1 h2),if_neg h3,if_neg (fun e=>h4 (Xd e))] at hF
  unfold nF at hF
  refine a6 (fun a=>?_) (fun a=>?_)
  ·have a:=Xo a
   have l2:(0:Int)<=0/\(0:Int)<=2/\(2:Int)<=(s.length:Int):=⟨Int.le_refl 0,by decide,a⟩
   have l1:(0:Int)<=0/\(0:Int)<=1/\(1:Int)<=(s.length:Int):=⟨Int.le_refl 0,by decide,by omega⟩
   refine ⟨l2,a6 (fun b=>⟨l2,?_⟩) (fun b=>⟨l1,a6 (fun c=>⟨l1,?_⟩) (fun c=>?_)⟩)⟩
   ·rw [if_pos ⟨by omega,b⟩] at hF;rw [hF];exact ⟨trivial,rfl,rfl,rfl,rfl,rfl,rfl,trivial⟩
   ·rw [if_neg (fun e=>b e.2),if_pos c] at hF;rw [hF];exact ⟨trivial,rfl,rfl,rfl,rfl,rfl,rfl,trivial⟩
   ·rw [if_neg (fun e=>b e.2),if_neg c] at hF;rw [hF];exact ⟨trivial,rfl,rfl,rfl,rfl,rfl,rfl,trivial⟩
  ·have a:¬(2:Int)<=(s.length:Int):=fun e=>a (Xd e)
   have l1:(0:Int)<=0/\(0:Int)<=1/\(1:Int)<=(s.length:Int):=⟨Int.le_refl 0,by decide,by omega⟩
   refine ⟨l1,a6 (fun c=>⟨l1,?_⟩) (fun c=>?_)⟩
   ·rw [if_neg (fun e=>a (by omega)),if_pos c] at hF;rw [hF];exact ⟨trivial,rfl,rfl,rfl,rfl,rfl,rfl,trivial⟩
   ·rw [if_neg (fun e=>a (by omega)),if_neg c] at hF;rw [hF];exact ⟨trivial,rfl,rfl,rfl,rfl,rfl,rfl,trivial⟩
end Go.AL.Seat
end
