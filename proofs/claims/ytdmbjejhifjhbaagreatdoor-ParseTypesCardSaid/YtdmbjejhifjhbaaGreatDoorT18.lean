/- What the functions' conditions say, proved. No condition. -/
import Derived.Test.YtdmbjejhifjhbaaGreatDoorT17
set_option linter.unusedVariables false
set_option linter.unusedSimpArgs false
set_option linter.unnecessarySimpa false
set_option linter.deprecated false
set_option linter.unusedSectionVars false
set_option maxRecDepth 100000
section
open Go Go.AL Go.Pd
namespace Go.AL.Seat
namespace C1g
def A0 (b:Str)(e:Str)(n:Nat)(k:Int)(g:Str)(q:Str)(z:Int)(pp:Int)(s:Par):=(ad b e (ah (a7 n)) {kind:=k,pkg:=g,name:=q,n:=z,names:=[],vars:=[],shapes:=[],parts:=[],pos:=pp:Trm} s)
def B0 (b:Str)(e:Str)(n:Nat)(x:Nat × Trm × Par)(k:Int)(g:Str)(q:Str)(z:Int)(pp:Int)(s:Par):=bS b e (ah (a7 n)) x.1 x.2.1 x.2.2=ad b e (ah (a7 n)) {kind:=k,pkg:=g,name:=q,n:=z,names:=[],vars:=[],shapes:=[],parts:=[],pos:=pp:Trm} s
def C0 (x:Nat × Trm × Par)(n:Nat)(b:Str)(e:Str)(k:Int)(g:Str)(q:Str)(z:Int)(pp:Int)(s:Par):=(a8 x.2.2/\rem x.2.2<x.1/\rem x.2.2<=n/\List.length x.2.1.names+x.1<=(5000:Nat)/\List.length x.2.1.parts+x.1<=(5000:Nat)/\x.2.1.vars=[]/\x.2.1.shapes=[]/\(B0 b e n x k g q z pp s))
def D0 (n:Nat)(x:Nat × Trm × Par):=(ah (a7 n) {kind:=x.2.1.kind,pkg:=x.2.1.pkg,name:=x.2.1.name,n:=x.2.1.n,names:=x.2.1.names,vars:=[],shapes:=[],parts:=x.2.1.parts,pos:=x.2.1.pos:Trm} x.2.2)
def E0 (x:Nat × Trm × Par)(n:Nat):=(bG {kind:=x.2.1.kind,pkg:=x.2.1.pkg,name:=x.2.1.name,n:=x.2.1.n,names:=x.2.1.names,vars:=[],shapes:=[],parts:=x.2.1.parts,pos:=x.2.1.pos:Trm} (aO x.2.1.names x.2.2).1)
def H0 (n:Nat)(x:Nat × Trm × Par):=[(a7 n (aj ([61]:Str) (aO x.2.1.names x.2.2).2)).1]
end C1g
open C1g in
theorem CE (n:Nat) (k pp z:Int) (g q:Str) (b e:Str) (s:Par) (hi:a8 s) (hn:rem s<=n) :
  a8 s/\if isF e s=true then True/\bF e s=(A0 b e n k g q z pp s).2/\k=(A0 b e n k g q z pp s).1.kind/\g=(A0 b e n k g q z pp s).1.pkg/\q=(A0 b e n k g q z pp s).1.name/\z=(A0 b e n k g q z pp s).1.n/\(A0 b e n k g q z pp s).1.names=[]/\(A0 b e n k g q z pp s).1.parts=[]/\pp=(A0 b e n k g q z pp s).1.pos/\List.length (A0 b e n k g q z pp s).1.names=(0:Nat)/\List.length (A0 b e n k g q z pp s).1.parts=(0:Nat)/\True else (∃(x:Nat × Trm × Par),(C0 x n b e k g q z pp s)/\b=b/\e=e/\false=false/\bF e s=x.2.2/\k=x.2.1.kind/\g=x.2.1.pkg/\q=x.2.1.name/\z=x.2.1.n/\x.2.1.names=[]/\x.2.1.parts=[]/\pp=x.2.1.pos/\List.length x.2.1.names=(0:Nat)/\List.length x.2.1.parts=(0:Nat)/\True)/\∀(x:Nat × Trm × Par),a8 x.2.2/\rem x.2.2<x.1/\rem x.2.2<=n/\List.length x.2.1.names+x.1<=(5000:Nat)/\List.length x.2.1.parts+x.1<=(5000:Nat)/\x.2.1.vars=[]/\x.2.1.shapes=[]/\(B0 b e n x k g q z pp s)→if (!aV x.2.2)=true then (a8 x.2.2/\x.2.2.err=(0:Int)/\rem x.2.2<=n/\List.length x.2.1.names=List.length x.2.1.names/\List.length x.2.1.parts=List.length x.2.1.parts/\List.length x.2.1.names+List.length x.2.1.parts<=(100000:Nat))/\a8 (D0 n x).2/\if isF e (D0 n x).2=true then True/\bF e (D0 n x).2=(A0 b e n k g q z pp s).2/\(D0 n x).1.kind=(A0 b e n k g q z pp s).1.kind/\(D0 n x).1.pkg=(A0 b e n k g q z pp s).1.pkg/\(D0 n x).1.name=(A0 b e n k g q z pp s).1.name/\(D0 n x).1.n=(A0 b e n k g q z pp s).1.n/\(D0 n x).1.names=(A0 b e n k g q z pp s).1.names/\(E0 x n).parts++(H0 n x)=(A0 b e n k g q z pp s).1.parts/\(D0 n x).1.pos=(A0 b e n k g q z pp s).1.pos/\List.length (D0 n x).1.names=List.length (A0 b e n k g q z pp s).1.names/\List.length ((E0 x n).parts++(H0 n x))=List.length (A0 b e n k g q z pp s).1.parts/\True else a8 (bF e (D0 n x).2)/\∃(y:Nat × Trm × Par),(C0 y n b e k g q z pp s)/\y.1<x.1/\b=b/\e=e/\false=false/\aj b (bF e (D0 n x).2)=y.2.2/\(D0 n x).1.kind=y.2.1.kind/\(D0 n x).1.pkg=y.2.1.pkg/\(D0 n x).1.name=y.2.1.name/\(D0 n x).1.n=y.2.1.n/\(D0 n x).1.names=y.2.1.names/\(E0 x n).parts++(H0 n x)=y.2.1.parts/\(D0 n x).1.pos=y.2.1.pos/\List.length (D0 n x).1.names=List.length y.2.1.names/\List.length ((E0 x n).parts++(H0 n x))=List.length y.2.1.parts/\True else True/\x.2.2=(A0 b e n k g q z pp s).2/\x.2.1.kind=(A0 b e n k g q z pp s).1.kind/\x.2.1.pkg=(A0 b e n k g q z pp s).1.pkg/\x.2.1.name=(A0 b e n k g q z pp s).1.name/\x.2.1.n=(A0 b e n k g q z pp s).1.n/\x.2.1.names=(A0 b e n k g q z pp s).1.names/\x.2.1.parts=(A0 b e n k g q z pp s).1.parts/\x.2.1.pos=(A0 b e n k g q z pp s).1.pos/\List.length x.2.1.names=List.length (A0 b e n k g q z pp s).1.names/\List.length x.2.1.parts=List.length (A0 b e n k g q z pp s).1.parts/\True:=by
 delta H0 E0 D0 C0 B0 A0
 have hl:=hi.2.2.1
 have hF:ad b e (ah (a7 n)) ⟨k,g,q,z,[],[],[],[],pp⟩ s=if isF e s=true then (⟨k,g,q,z,[],[],[],[],pp⟩,aC s) else bS b e (ah (a7 n)) (s.toks.length+2) ⟨k,g,q,z,[],[],[],[],pp⟩ s:=rfl
 have hrd:fc (ah (a7 n)) n:=pa (dU n)
 generalize ad b e (ah (a7 n)) ⟨k,g,q,z,[],[],[],[],pp⟩ s=fin at hF ⊢
 refine ⟨hi,a6 (fun h=>?_) (fun h=>?_)⟩
 ·rw [if_pos h] at hF
  subst hF
  refine ⟨trivial,aI h,?_⟩
  exact Xr
 ·rw [if_neg h] at hF
  have h:isF e s=false:=by simpa using h
  rw [aP h]
  refine ⟨⟨(s.toks.length+2,⟨k,g,q,z,[],[],[],[],pp⟩,s),⟨hi,by show rem s < _;have h1:=hi.1;have h2:=hi.2.1;unfold rem;split <;> omega,hn,by show 0+_<=_;omega,by show 0+_<=_;omega,rfl,rfl,hF.symm⟩,?_⟩,?_⟩
  ·exact Xr
  rintro ⟨j,x,s1⟩ ⟨i1,i2,i3,ln,lp,kv,ks,i6⟩
  simp only at i1 i2 i3 ln lp kv ks i6 ⊢
  have ex:(⟨x.kind,x.pkg,x.name,x.n,x.names,[],[],x.parts,x.pos⟩:Trm)=x:=by cases x;simp_all
  try rw [ex]
  refine a6 (fun hb=>?_) (fun hb=>?_)
  ·have h0:s1.err=0:=eE.1 (by simpa using hb)
   obtain ⟨j,rfl⟩:∃m,j=m+1:=⟨j - 1,by omega⟩
   have hp:=ez h0
   obtain ⟨gg,ea⟩:=hrd x s1 i1 h0 (by omega)
   have hbf:¬aV s1=true:=by simp [aV,h0]
   simp only [bS,if_neg hbf] at i6
   refine ⟨⟨i1,h0,i3,by trivial,by trivial,by omega⟩,gg.good,a6 (fun c=>?_) (fun c=>?_)⟩
   ·rw [if_pos c] at i6
    subst i6
    refine ⟨trivial,aI c,?_⟩
    exact Xr
   ·have c:isF e (ah (a7 n) x s1).2=false:=by simpa using c
    rw [if_neg (by simp [c])] at i6
    rw [aP c]
    obtain ⟨n1,n2,n3,n4⟩:=fx hrd (btw:=b) (en:=e) (x:=x) i1 h0 (by omega) i2
    refine ⟨gg.good,(j,(ah (a7 n) x s1).1,aj b (ah (a7 n) x s1).2),⟨n1,n4,n3,by show (x.names++[_]).length+j<=5000;simp only [List.length_append,List.length_singleton];omega,by show (x.parts++[_]).length+j<=5000;simp only [List.length_append,List.length_singleton];omega,kv,ks,i6⟩,by show j < j+1;omega,?_⟩
    exact Xr
  ·have h0:¬s1.err=0:=cG.1 (by simpa using hb)
   have hbf:aV s1=true:=cG.2 h0
   have:(x,s1)=fin:=by
    rw [←i6]
    cases j with
    | zero=>rfl
    | succ j=>simp only [bS,if_pos hbf]
   subst this
   refine ⟨trivial,rfl,?_⟩
   exact Xr
end Go.AL.Seat
end
section
open Go Go.AL Go.Pd
namespace Go.AL.Seat
namespace C1h
def A0 (b:Str)(e:Str)(n:Nat)(k:Int)(g:Str)(q:Str)(z:Int)(us:List Trm)(pp:Int)(s:Par):=(ad b e (au (a7 n)) {kind:=k,pkg:=g,name:=q,n:=z,names:=[],vars:=[],shapes:=[],parts:=us,pos:=pp:Trm} s)
def B0 (b:Str)(e:Str)(n:Nat)(x:Nat × Trm × Par)(k:Int)(g:Str)(q:Str)(z:Int)(us:List Trm)(pp:Int)(s:Par):=bS b e (au (a7 n)) x.1 x.2.1 x.2.2=ad b e (au (a7 n)) {kind:=k,pkg:=g,name:=q,n:=z,names:=[],vars:=[],shapes:=[],parts:=us,pos:=pp:Trm} s
def C0 (x:Nat × Trm × Par)(n:Nat)(b:Str)(e:Str)(k:Int)(g:Str)(q:Str)(z:Int)(us:List Trm)(pp:Int)(s:Par):=(a8 x.2.2/\rem x.2.2<x.1/\rem x.2.2<n/\List.length x.2.1.parts+x.1<=(5000:Nat)/\x.2.1.names=[]/\x.2.1.vars=[]/\x.2.1.shapes=[]/\(B0 b e n x k g q z us pp s))
end C1h
open C1h in
theorem FF (n:Nat) (k pp z:Int) (g q:Str) (us:List Trm) (b e:Str) (s:Par) (hi:a8 s) (hn:rem s < n) (hu:us.length<=1) :
  a8 s/\if isF e s=true then True/\bF e s=(A0 b e n k g q z us pp s).2/\k=(A0 b e n k g q z us pp s).1.kind/\g=(A0 b e n k g q z us pp s).1.pkg/\q=(A0 b e n k g q z us pp s).1.name/\z=(A0 b e n k g q z us pp s).1.n/\us=(A0 b e n k g q z us pp s).1.parts/\pp=(A0 b e n k g q z us pp s).1.pos/\List.length us=List.length (A0 b e n k g q z us pp s).1.parts/\True else (∃(x:Nat × Trm × Par),(C0 x n b e k g q z us pp s)/\b=b/\e=e/\false=false/\bF e s=x.2.2/\k=x.2.1.kind/\g=x.2.1.pkg/\q=x.2.1.name/\z=x.2.1.n/\us=x.2.1.parts/\pp=x.2.1.pos/\List.length us=List.length x.2.1.parts/\True)/\∀(x:Nat × Trm × Par),a8 x.2.2/\rem x.2.2<x.1/\rem x.2.2<n/\List.length x.2.1.parts+x.1<=(5000:Nat)/\x.2.1.names=[]/\x.2.1.vars=[]/\x.2.1.shapes=[]/\(B0 b e n x k g q z us pp s)→if (!aV x.2.2)=true then (a8 x.2.2/\rem x.2.2<n/\List.length x.2.1.parts=List.length x.2.1.parts/\List.length x.2.1.parts<=(100000:Nat))/\a8 (a7 n x.2.2).2/\if isF e (a7 n x.2.2).2=true then True/\bF e (a7 n x.2.2).2=(A0 b e n k g q z us pp s).2/\x.2.1.kind=(A0 b e n k g q z us pp s).1.kind/\x.2.1.pkg=(A0 b e n k g q z us pp s).1.pkg/\x.2.1.name=(A0 b e n k g q z us pp s).1.name/\x.2.1.n=(A0 b e n k g q z us pp s).1.n/\x.2.1.parts++[(a7 n x.2.2).1]=(A0 b e n k g q z us pp s).1.parts/\x.2.1.pos=(A0 b e n k g q z us pp s).1.pos/\List.length (x.2.1.parts++[(a7 n x.2.2).1])=List.length (A0 b e n k g q z us pp s).1.parts/\True else a8 (bF e (a7 n x.2.2).2)/\∃(y:Nat × Trm × Par),(C0 y n b e k g q z us pp s)/\y.1<x.1/\b=b/\e=e/\false=false/\aj b (bF e (a7 n x.2.2).2)=y.2.2/\x.2.1.kind=y.2.1.kind/\x.2.1.pkg=y.2.1.pkg/\x.2.1.name=y.2.1.name/\x.2.1.n=y.2.1.n/\x.2.1.parts++[(a7 n x.2.2).1]=y.2.1.parts/\x.2.1.pos=y.2.1.pos/\List.length (x.2.1.parts++[(a7 n x.2.2).1])=List.length y.2.1.parts/\True else True/\x.2.2=(A0 b e n k g q z us pp s).2/\x.2.1.kind=(A0 b e n k g q z us pp s).1.kind/\x.2.1.pkg=(A0 b e n k g q z us pp s).1.pkg/\x.2.1.name=(A0 b e n k g q z us pp s).1.name/\x.2.1.n=(A0 b e n k g q z us pp s).1.n/\x.2.1.parts=(A0 b e n k g q z us pp s).1.parts/\x.2.1.pos=(A0 b e n k g q z us pp s).1.pos/\List.length x.2.1.parts=List.length (A0 b e n k g q z us pp s).1.parts/\True:=by
 delta C0 B0 A0
 have hl:=hi.2.2.1
 have hF:ad b e (au (a7 n)) ⟨k,g,q,z,[],[],[],us,pp⟩ s=if isF e s=true then (⟨k,g,q,z,[],[],[],us,pp⟩,aC s) else bS b e (au (a7 n)) (s.toks.length+2) ⟨k,g,q,z,[],[],[],us,pp⟩ s:=rfl
 have hrd:fc (au (a7 n)) (n - 1):=fH (by rw [Nat.sub_add_cancel (by omega)];exact dU n)
 generalize ad b e (au (a7 n)) ⟨k,g,q,z,[],[],[],us,pp⟩ s=fin at hF ⊢
 refine ⟨hi,a6 (fun h=>?_) (fun h=>?_)⟩
 ·rw [if_pos h] at hF
  subst hF
  refine ⟨trivial,aI h,?_⟩
  exact Xr
 ·rw [if_neg h] at hF
  have h:isF e s=false:=by simpa using h
  rw [aP h]
  refine ⟨⟨(s.toks.length+2,⟨k,g,q,z,[],[],[],us,pp⟩,s),⟨hi,by show rem s < _;have h1:=hi.1;have h2:=hi.2.1;unfold rem;split <;> omega,hn,by show us.length+_<=_;omega,rfl,rfl,rfl,hF.symm⟩,?_⟩,?_⟩
  ·exact Xr
  rintro ⟨j,x,s1⟩ ⟨i1,i2,i3,lp,kn,kv,ks,i6⟩
  simp only at i1 i2 i3 lp kn kv ks i6 ⊢
  have ex:(⟨x.kind,x.pkg,x.name,x.n,[],[],[],x.parts,x.pos⟩:Trm)=x:=by cases x;simp_all
  try rw [ex]
  rw [show (a7 n s1).2=(au (a7 n) x s1).2 from rfl]
  refine a6 (fun hb=>?_) (fun hb=>?_)
  ·have h0:s1.err=0:=eE.1 (by simpa using hb)
   obtain ⟨j,rfl⟩:∃m,j=m+1:=⟨j - 1,by omega⟩
   have hp:=ez h0
   obtain ⟨gg,ea⟩:=hrd x s1 i1 h0 (by omega)
   have hbf:¬aV s1=true:=by simp [aV,h0]
   simp only [bS,if_neg hbf] at i6
   refine ⟨⟨i1,i3,by trivial,by omega⟩,gg.good,a6 (fun c=>?_) (fun c=>?_)⟩
   ·rw [if_pos c] at i6
    subst i6
    refine ⟨trivial,aI c,?_⟩
    exact Xr
   ·have c:isF e (au (a7 n) x s1).2=false:=by simpa using c
    rw [if_neg (by simp [c])] at i6
    rw [aP c]
    obtain ⟨n1,n2,n3,n4⟩:=fx hrd (btw:=b) (en:=e) (x:=x) i1 h0 (by omega) i2
    refine ⟨gg.good,(j,(au (a7 n) x s1).1,aj b (au (a7 n) x s1).2),⟨n1,n4,by show rem (aj b _) < n;omega,by show (x.parts++[_]).length+j<=5000;simp only [List.length_append,List.length_singleton];omega,kn,kv,ks,i6⟩,by show j < j+1;omega,?_⟩
    exact Xr
  ·have h0:¬s1.err=0:=cG.1 (by simpa using hb)
   have hbf:aV s1=true:=cG.2 h0
   have:(x,s1)=fin:=by
    rw [←i6]
    cases j with
    | zero=>rfl
    | succ j=>simp only [bS,if_pos hbf]
   subst this
   refine ⟨trivial,rfl,?_⟩
   exact Xr
end Go.AL.Seat
end
section
open Go Go.AL Go.Pd
namespace Go.AL.Seat
namespace C1i
def A0 (x:Nat × Trm × Par)(n:Nat)(s:Par):=(a8 x.2.2/\rem x.2.2<x.1/\rem x.2.2<n+(1:Nat)/\ja (a7 n) (ao s).pos x.1 x.2.1 x.2.2=fR (a7 n) s)
def B0 (s:Par):=(ao s).pos=(ao s).pos
def C0:=(0:Int)
def D0:=C0=C0/\dO UInt8=dO UInt8/\dO UInt8=dO UInt8/\C0=C0/\C0=C0/\True
def E0 (x:Nat × Trm × Par):=(bF ([40]:Str) x.2.2)
def H0 (n:Nat)(x:Nat × Trm × Par)(s:Par):=(ad ([44]:Str) ([41]:Str) (au (a7 n)) {kind:=(7:Int),pkg:=[],name:=[],n:=C0,names:=[],vars:=[],shapes:=[],parts:=[x.2.1],pos:=(ao s).pos:Trm} (E0 x))
end C1i
open C1i in
theorem HE (n:Nat) (s:Par)  (ho:a8 s/\rem s < n+1) :
  a8 s/\(a8 s/\rem s<n+(1:Nat))/\(∃(x:Nat × Trm × Par),(A0 x n s)/\(B0 s)/\(eh (a7 n) s).2=x.2.2/\(eh (a7 n) s).1=x.2.1/\D0)/\∀(x:Nat × Trm × Par),a8 x.2.2/\rem x.2.2<x.1/\rem x.2.2<n+(1:Nat)/\ja (a7 n) (ao s).pos x.1 x.2.1 x.2.2=fR (a7 n) s→if (!aV x.2.2)=true then a8 x.2.2/\if isF ([40]:Str) x.2.2=true then (a8 (E0 x)/\rem (E0 x)<n/\List.length [x.2.1]=List.length [x.2.1]/\List.length [x.2.1]<=(1:Nat))/\∃(y:Nat × Trm × Par),(A0 y n s)/\y.1<x.1/\(B0 s)/\(H0 n x s).2=y.2.2/\(H0 n x s).1.kind=y.2.1.kind/\(H0 n x s).1.pkg=y.2.1.pkg/\(H0 n x s).1.name=y.2.1.name/\(H0 n x s).1.n=y.2.1.n/\y.2.1.names=[]/\y.2.1.vars=[]/\y.2.1.shapes=[]/\(H0 n x s).1.parts=y.2.1.parts/\(H0 n x s).1.pos=y.2.1.pos/\D0 else a8 (E0 x)/\if isF ([46]:Str) (E0 x)=true then (a8 (bF ([46]:Str) (E0 x))/\¬(1:Int)=C0)/\∃(y:Nat × Trm × Par),(A0 y n s)/\y.1<x.1/\(B0 s)/\(aS (1:Int) (bF ([46]:Str) (E0 x))).2=y.2.2/\(9:Int)=y.2.1.kind/\[]=y.2.1.pkg/\(aS (1:Int) (bF ([46]:Str) (E0 x))).1.text=y.2.1.name/\C0=y.2.1.n/\y.2.1.names=[]/\y.2.1.vars=[]/\y.2.1.shapes=[]/\[x.2.1]=y.2.1.parts/\(ao s).pos=y.2.1.pos/\D0 else True/\x.2.1=(fR (a7 n) s).1/\bF ([46]:Str) (E0 x)=(fR (a7 n) s).2/\True else True/\x.2.1=(fR (a7 n) s).1/\x.2.2=(fR (a7 n) s).2/\True:=by
 delta H0 E0 D0 C0 B0 A0
 have hR:=dU n
 have hr4:=qN ho.1
 have ha:=qQ hR ho.1 ho.2
 have hpF:fR (a7 n) s=ja (a7 n) (ao s).pos (s.toks.length+2) (eh (a7 n) s).1 (eh (a7 n) s).2:=rfl
 generalize fR (a7 n) s=fin at hpF ⊢
 generalize (ao s).pos=p at hpF ⊢
 have hq:rem (eh (a7 n) s).2 < s.toks.length+2:=by
  have h1:=ha.good.1;have h2:=ha.good.2.1;have h3:=ha.goes.toks
  rw [h3] at h2
  unfold rem;rw [h3];split <;> omega
 have hq2:=ha.goes.le
 have hg:=ha.good
 have ho2:=ho.2
 refine ⟨ho.1,ho,⟨(s.toks.length+2,(eh (a7 n) s).1,(eh (a7 n) s).2),⟨hg,hq,by show rem (eh (a7 n) s).2 < _;omega,hpF.symm⟩,?_⟩,?_⟩
 ·exact Xr
 rintro ⟨j,t,s1⟩ ⟨i1,i2,i3,i4⟩
 simp only at i1 i2 i3 i4 ⊢
 refine a6 (fun hb=>?_) (fun hb=>?_)
 ·have hbf:aV s1=false:=by simpa using hb
  obtain ⟨j,rfl⟩:∃m,j=m+1:=⟨j - 1,by omega⟩
  simp only [ja,hbf,Bool.false_eq_true,if_false] at i4
  refine ⟨i1,a6 (fun c=>?_) (fun c=>?_)⟩
  ·rw [if_pos c] at i4
   rw [aI c]
   have m:=bi i1 c
   have r:=bq i1 c
   have hp:=ez (eM c).2
   have hRp:fc (au (a7 n)) (n - 1):=fH (by
    by_cases h:n=0
    ·subst h;omega
    ·rw [Nat.sub_add_cancel (by omega)];exact hR)
   have hn1:rem (aC s1) < n:=by omega
   have g:=bz hRp [44] [41] (⟨7,[],[],0,[],[],[],[t],p⟩:Trm) m.good (by omega)
   have kn:=cJ (fun x:Trm=>x.names=[]) (one:=au (a7 n)) (fun x s h=>h) [44] [41] (x:=⟨7,[],[],0,[],[],[],[t],p⟩) (aC s1) rfl
   have kv:=cJ (fun x:Trm=>x.vars=[]) (one:=au (a7 n)) (fun x s h=>h) [44] [41] (x:=⟨7,[],[],0,[],[],[],[t],p⟩) (aC s1) rfl
   have ks:=cJ (fun x:Trm=>x.shapes=[]) (one:=au (a7 n)) (fun x s h=>h) [44] [41] (x:=⟨7,[],[],0,[],[],[],[t],p⟩) (aC s1) rfl
   generalize ad [44] [41] (au (a7 n)) (⟨7,[],[],0,[],[],[],[t],p⟩:Trm) (aC s1)=L at i4 g kn kv ks ⊢
   have gl:=g.le
   refine ⟨⟨m.good,hn1,by trivial,by simp⟩,(j,L.1,L.2),⟨g.good,by show rem L.2 < j;omega,by show rem L.2 < n+1;omega,i4⟩,by show j < j+1;omega,?_⟩
   repeat (first | exact trivial | refine ⟨by first | rfl | trivial | exact kn | exact kv | exact ks,?_⟩)
  ·rw [if_neg c] at i4
   have c:isF [40] s1=false:=by simpa using c
   rw [aP c]
   refine ⟨i1,a6 (fun d=>?_) (fun d=>?_)⟩
   ·rw [if_pos d] at i4
    rw [aI d]
    have m:=bi i1 d
    have r:=bq i1 d
    have k:=dz (k:=1) m.good (by decide)
    have kl:=k.goes.le
    refine ⟨⟨m.good,by decide⟩,(j,_,_),⟨k.good,by show rem (aS 1 (aC s1)).2 < j;omega,by show rem (aS 1 (aC s1)).2 < n+1;omega,i4⟩,by show j < j+1;omega,?_⟩
    exact Xr
   ·rw [if_neg d] at i4
    have d:isF [46] s1=false:=by simpa using d
    rw [aP d]
    subst i4
    exact Xr
 ·have hbf:aV s1=true:=by simpa using hb
  have:(t,s1)=fin:=by
   rw [←i4]
   cases j with
   | zero=>rfl
   | succ j=>simp only [ja,if_pos hbf]
  subst this
  exact Xr
end Go.AL.Seat
end
section
open Go Go.AL Go.Pd
namespace Go.AL.Seat
namespace C1j
def A0:=True
def B0:=(0:Int)
def C0 (n:Nat)(s:Par):=(eh (a7 n) s)
def D0 (n:Nat)(s:Par):=[]=(C0 n s).1.pkg
def E0 (n:Nat)(s:Par):=[]=(C0 n s).1.name
def H0 (n:Nat)(s:Par):=B0=(C0 n s).1.n
def I0 (n:Nat)(s:Par):=(C0 n s).1.names=[]
def J0 (n:Nat)(s:Par):=(C0 n s).1.vars=[]
def K0 (n:Nat)(s:Par):=(C0 n s).1.shapes=[]
def L0 (n:Nat)(s:Par):=(C0 n s).1.parts=[]
def M0 (s:Par)(n:Nat):=(ao s).pos=(C0 n s).1.pos
def N0:=(1:Int)
def O0 (s:Par):=inR IntKind.i64 (s.pos+N0)
def P0 (n:Nat)(s:Par):=(I0 n s)/\(J0 n s)/\(K0 n s)/\(L0 n s)/\(M0 s n)/\s.toks=(C0 n s).2.toks/\s.pos+N0=(C0 n s).2.pos/\s.err=(C0 n s).2.err/\s.fat=(C0 n s).2.fat/\A0
def Q0 (s:Par):=(bF ([47]:Str) {toks:=s.toks,pos:=s.pos+N0,err:=s.err,fat:=s.fat:Par})
def R0:=([116,114,117,101]:Str)
def S0:=([102,97,108,115,101]:Str)
def T0:=([40]:Str)
def U0 (s:Par):=(bF T0 (bF S0 (bF R0 s)))
def V0 (n:Nat)(s:Par):=(bF ([97,115]:Str) (a7 n (U0 s)).2)
def W0 (s:Par):=(bF ([123]:Str) (U0 s))
def X0 (n:Nat)(s:Par):=(ad ([44]:Str) ([125]:Str) (ah (a7 n)) {kind:=(8:Int),pkg:=[],name:=[],n:=B0,names:=[],vars:=[],shapes:=[],parts:=[],pos:=(ao s).pos:Trm} (W0 s))
def Y0 (s:Par):=(bF ([64]:Str) (W0 s))
def Z0 (s:Par):=(bF ([110,101,119]:Str) (Y0 s))
def A1 (s:Par):=(aS (2:Int) (Z0 s))
def B1 (s:Par):=(bF ([114,97,119]:Str) (Z0 s))
def C1 (s:Par):=(aS (2:Int) (B1 s))
end C1j
open C1j in
theorem HF (n:Nat) (s:Par)  (ho:a8 s/\rem s < n+1) :
  a8 s/\if aV s=true then A0/\B0=(C0 n s).1.kind/\(D0 n s)/\(E0 n s)/\(H0 n s)/\(I0 n s)/\(J0 n s)/\(K0 n s)/\(L0 n s)/\(M0 s n)/\s=(C0 n s).2/\A0 else if decide ((ao s).kind=(3:Int))=true then (O0 s)/\kA (ao s).text/\A0/\N0=(C0 n s).1.kind/\(D0 n s)/\(E0 n s)/\jB (ao s).text=(C0 n s).1.n/\(P0 n s) else if decide ((ao s).kind=(4:Int))=true then (O0 s)/\A0/\(2:Int)=(C0 n s).1.kind/\(D0 n s)/\(ao s).text=(C0 n s).1.name/\(H0 n s)/\(P0 n s) else if decide ((ao s).kind=N0)=true then (O0 s)/\a8 {toks:=s.toks,pos:=s.pos+N0,err:=s.err,fat:=s.fat:Par}/\if isF ([47]:Str) {toks:=s.toks,pos:=s.pos+N0,err:=s.err,fat:=s.fat:Par}=true then (a8 (Q0 s)/\¬N0=B0)/\A0/\(5:Int)=(C0 n s).1.kind/\(ao s).text=(C0 n s).1.pkg/\(aS N0 (Q0 s)).1.text=(C0 n s).1.name/\(H0 n s)/\(I0 n s)/\(J0 n s)/\(K0 n s)/\(L0 n s)/\(M0 s n)/\(aS N0 (Q0 s)).2=(C0 n s).2/\A0 else A0/\(5:Int)=(C0 n s).1.kind/\(D0 n s)/\(ao s).text=(C0 n s).1.name/\(H0 n s)/\(I0 n s)/\(J0 n s)/\(K0 n s)/\(L0 n s)/\(M0 s n)/\bF ([47]:Str) {toks:=s.toks,pos:=s.pos+N0,err:=s.err,fat:=s.fat:Par}=(C0 n s).2/\A0 else a8 s/\if isF R0 s=true then A0/\(3:Int)=(C0 n s).1.kind/\(D0 n s)/\(E0 n s)/\(H0 n s)/\(I0 n s)/\(J0 n s)/\(K0 n s)/\(L0 n s)/\(M0 s n)/\bF R0 s=(C0 n s).2/\A0 else a8 (bF R0 s)/\if isF S0 (bF R0 s)=true then A0/\(4:Int)=(C0 n s).1.kind/\(D0 n s)/\(E0 n s)/\(H0 n s)/\(I0 n s)/\(J0 n s)/\(K0 n s)/\(L0 n s)/\(M0 s n)/\bF S0 (bF R0 s)=(C0 n s).2/\A0 else a8 (bF S0 (bF R0 s))/\if isF T0 (bF S0 (bF R0 s))=true then (a8 (U0 s)/\rem (U0 s)<n)/\a8 (a7 n (U0 s)).2/\if (!isF ([97,115]:Str) (a7 n (U0 s)).2)=true then a8 (V0 n s)/\A0/\(a7 n (U0 s)).1=(C0 n s).1/\aj ([41]:Str) (V0 n s)=(C0 n s).2/\A0 else a8 (V0 n s)/\a8 (aW (V0 n s)).2/\A0/\(15:Int)=(C0 n s).1.kind/\(D0 n s)/\(E0 n s)/\(H0 n s)/\(I0 n s)/\(J0 n s)/\[(aW (V0 n s)).1]=(C0 n s).1.shapes/\[(a7 n (U0 s)).1]=(C0 n s).1.parts/\(M0 s n)/\aj ([41]:Str) (aW (V0 n s)).2=(C0 n s).2/\A0 else a8 (U0 s)/\if isF ([123]:Str) (U0 s)=true then (a8 (W0 s)/\rem (W0 s)<=n)/\A0/\(X0 n s).1.kind=(C0 n s).1.kind/\(X0 n s).1.pkg=(C0 n s).1.pkg/\(X0 n s).1.name=(C0 n s).1.name/\(X0 n s).1.n=(C0 n s).1.n/\(X0 n s).1.names=(C0 n s).1.names/\(J0 n s)/\(K0 n s)/\(X0 n s).1.parts=(C0 n s).1.parts/\(X0 n s).1.pos=(C0 n s).1.pos/\(X0 n s).2=(C0 n s).2/\A0 else a8 (W0 s)/\if isF ([64]:Str) (W0 s)=true then (a8 (Y0 s)/\¬N0=B0)/\(a8 (aS N0 (Y0 s)).2/\rem (aj T0 (aS N0 (Y0 s)).2)<n)/\A0/\(10:Int)=(C0 n s).1.kind/\(D0 n s)/\(aS N0 (Y0 s)).1.text=(C0 n s).1.name/\(H0 n s)/\(I0 n s)/\(J0 n s)/\(K0 n s)/\(dj (a7 n) (aS N0 (Y0 s)).2).1=(C0 n s).1.parts/\(M0 s n)/\(dj (a7 n) (aS N0 (Y0 s)).2).2=(C0 n s).2/\A0 else a8 (Y0 s)/\if isF ([110,101,119]:Str) (Y0 s)=true then (a8 (Z0 s)/\¬(2:Int)=B0)/\(a8 (A1 s).2/\rem (aj T0 (A1 s).2)<n)/\A0/\(16:Int)=(C0 n s).1.kind/\(D0 n s)/\(A1 s).1.text=(C0 n s).1.name/\(H0 n s)/\(I0 n s)/\(J0 n s)/\(K0 n s)/\(dj (a7 n) (A1 s).2).1=(C0 n s).1.parts/\(M0 s n)/\(dj (a7 n) (A1 s).2).2=(C0 n s).2/\A0 else a8 (Z0 s)/\if isF ([114,97,119]:Str) (Z0 s)=true then (a8 (B1 s)/\¬(2:Int)=B0)/\(a8 (C1 s).2/\rem (aj T0 (C1 s).2)<n)/\A0/\(17:Int)=(C0 n s).1.kind/\(D0 n s)/\(C1 s).1.text=(C0 n s).1.name/\(H0 n s)/\(I0 n s)/\(J0 n s)/\(K0 n s)/\(dj (a7 n) (C1 s).2).1=(C0 n s).1.parts/\(M0 s n)/\(dj (a7 n) (C1 s).2).2=(C0 n s).2/\A0 else A0/\B0=(C0 n s).1.kind/\(D0 n s)/\(E0 n s)/\(H0 n s)/\(I0 n s)/\(J0 n s)/\(K0 n s)/\(L0 n s)/\(M0 s n)/\cv (90:Int) (ao s).pos (B1 s)=(C0 n s).2/\A0:=by
 delta C1 B1 A1 Z0 Y0 X0 W0 V0 U0 T0 S0 R0 Q0 P0 O0 N0 M0 L0 K0 J0 I0 H0 E0 D0 C0 B0 A0
 obtain ⟨hi,hn⟩:=ho
 obtain ⟨G,hG⟩:∃G,G=eh (a7 n) s:=⟨_,rfl⟩
 rw [←hG]
 unfold eh at hG
 have i1:=hi.1
 have i2:=hi.2.2.1
 have hR:=dU n
 refine ⟨hi,a6 (fun b=>?_) (fun b=>?_)⟩
 ·rw [if_pos b] at hG
  subst hG
  exact Xr
 rw [if_neg b] at hG
 have b:aV s=false:=by simpa using b
 refine a6 (fun k=>?_) (fun k=>?_)
 ·replace k:=Xo k
  rw [if_pos k] at hG
  subst hG
  have hl:=f7 (l:=s.toks) (a:=s.pos) (by unfold ao at k;omega)
  have hm:ao s∈s.toks:=by
   unfold ao bB
   rw [if_pos hl]
   exact dy s.toks s.pos.toNat (dfl (.st .token)) (by omega)
  refine ⟨ak (by omega) (by omega),hi.2.2.2 _ hm k,?_⟩
  exact Xr
 replace k:¬(ao s).kind=3:=fun e=>k (Xd e)
 rw [if_neg k] at hG
 refine a6 (fun k=>?_) (fun k=>?_)
 ·replace k:=Xo k
  rw [if_pos k] at hG
  subst hG
  have hl:=f7 (l:=s.toks) (a:=s.pos) (by unfold ao at k;omega)
  refine ⟨ak (by omega) (by omega),?_⟩
  exact Xr
 replace k:¬(ao s).kind=4:=fun e=>k (Xd e)
 rw [if_neg k] at hG
 refine a6 (fun k=>?_) (fun k=>?_)
 ·replace k:=Xo k
  rw [if_pos k] at hG
  have hl:=f7 (l:=s.toks) (a:=s.pos) (by unfold ao at k;omega)
  have m:=(kd hi (by decide) k b).1
  refine ⟨ak (by omega) (by omega),m.good,?_⟩
  show (if isF [47] (aC s)=true then _ else _)
  refine a6 (fun c=>?_) (fun c=>?_)
  ·rw [if_pos c] at hG
   subst hG
   have m2:=bi m.good c
   have e:bF [47] (⟨s.toks,s.pos+1,s.err,s.fat⟩:Par)=aC (aC s):=aI c
   rw [e]
   refine ⟨⟨m2.good,by decide⟩,?_⟩
   exact Xr
  ·rw [if_neg c] at hG
   subst hG
   have c:isF [47] (aC s)=false:=by simpa using c
   have e:bF [47] (⟨s.toks,s.pos+1,s.err,s.fat⟩:Par)=aC s:=aP c
   rw [e]
   exact Xr
 replace k:¬(ao s).kind=1:=fun e=>k (Xd e)
 rw [if_neg k] at hG
 refine ⟨hi,a6 (fun c=>?_) (fun c=>?_)⟩
 rotate_left
 ·rw [if_neg c] at hG
  have c:isF [116,114,117,101] s=false:=by simpa using c
  rw [aP c]
  refine ⟨hi,a6 (fun c=>?_) (fun c=>?_)⟩
  rotate_left
  ·rw [if_neg c] at hG
   have c:isF [102,97,108,115,101] s=false:=by simpa using c
   rw [aP c]
   refine ⟨hi,a6 (fun c=>?_) (fun c=>?_)⟩
   rotate_left
   ·rw [if_neg c] at hG
    have c:isF [40] s=false:=by simpa using c
    rw [aP c]
    refine ⟨hi,a6 (fun c=>?_) (fun c=>?_)⟩
    rotate_left
    ·rw [if_neg c] at hG
     have c:isF [123] s=false:=by simpa using c
     rw [aP c]
     refine ⟨hi,a6 (fun c=>?_) (fun c=>?_)⟩
     rotate_left
     ·rw [if_neg c] at hG
      have c:isF [64] s=false:=by simpa using c
      rw [aP c]
      refine ⟨hi,a6 (fun c=>?_) (fun c=>?_)⟩
      rotate_left
      ·rw [if_neg c] at hG
       have c:isF [110,101,119] s=false:=by simpa using c
       rw [aP c]
       refine ⟨hi,a6 (fun c=>?_) (fun c=>?_)⟩
       rotate_left
       ·rw [if_neg c] at hG
        have c:isF [114,97,119] s=false:=by simpa using c
        rw [aP c]
        subst hG
        exact Xr
       rw [if_pos c] at hG
       have m:=bi hi c
       have r:=bq hi c
       rw [aI c]
       subst hG
       have a:=dz (k:=2) m.good (by decide)
       have al:=a.goes.le
       have b:=(aA (t:=[40]) a.good).goes.le
       refine ⟨⟨m.good,by decide⟩,⟨a.good,by omega⟩,?_⟩
       exact Xr
      rw [if_pos c] at hG
      have m:=bi hi c
      have r:=bq hi c
      rw [aI c]
      subst hG
      have a:=dz (k:=2) m.good (by decide)
      have al:=a.goes.le
      have b:=(aA (t:=[40]) a.good).goes.le
      refine ⟨⟨m.good,by decide⟩,⟨a.good,by omega⟩,?_⟩
      exact Xr
     rw [if_pos c] at hG
     have m:=bi hi c
     have r:=bq hi c
     rw [aI c]
     subst hG
     have a:=dz (k:=1) m.good (by decide)
     have al:=a.goes.le
     have b:=(aA (t:=[40]) a.good).goes.le
     refine ⟨⟨m.good,by decide⟩,⟨a.good,by omega⟩,?_⟩
     exact Xr
    rw [if_pos c] at hG
    have m:=bi hi c
    have r:=bq hi c
    rw [aI c]
    have hx:(⟨8,[],[],0,[],[],[],[],(ao s).pos⟩:Trm).vars=[]/\(⟨8,[],[],0,[],[],[],[],(ao s).pos⟩:Trm).shapes=[]:=⟨rfl,rfl⟩
    have kv:=cJ (fun x:Trm=>x.vars=[]) (one:=ah (a7 n)) (fun x s h=>h) [44] [125] (x:=⟨8,[],[],0,[],[],[],[],(ao s).pos⟩) (aC s) rfl
    have ks:=cJ (fun x:Trm=>x.shapes=[]) (one:=ah (a7 n)) (fun x s h=>h) [44] [125] (x:=⟨8,[],[],0,[],[],[],[],(ao s).pos⟩) (aC s) rfl
    rw [←hG] at kv ks ⊢
    refine ⟨⟨m.good,by omega⟩,?_⟩
    repeat (first | exact trivial | refine ⟨by first | rfl | trivial | exact kv | exact ks,?_⟩)
   rw [if_pos c] at hG
   have m:=bi hi c
   have r:=bq hi c
   rw [aI c]
   have a:=hR.moves m.good (by omega)
   refine ⟨⟨m.good,by omega⟩,a.good,a6 (fun d=>?_) (fun d=>?_)⟩
   ·have d:isF [97,115] (a7 n (aC s)).2=false:=by simpa using d
    rw [aP d]
    rw [if_neg (by simp [d])] at hG
    subst hG
    refine ⟨a.good,?_⟩
    exact Xr
   ·have d:isF [97,115] (a7 n (aC s)).2=true:=by simpa using d
    rw [aI d]
    rw [if_pos d] at hG
    subst hG
    have a2:=bi a.good d
    refine ⟨a2.good,(jb a2.good).good,?_⟩
    exact Xr
  rw [if_pos c] at hG
  have m:=bi hi c
  have r:=bq hi c
  rw [aI c]
  subst hG
  exact Xr
 rw [if_pos c] at hG
 have m:=bi hi c
 have r:=bq hi c
 rw [aI c]
 subst hG
 exact Xr
end Go.AL.Seat
end
section
open Go Go.AL Go.Pd
namespace Go.AL.Seat
namespace C1k
def A0 (s:Par):=(bF ([102,117,110]:Str) s)
def B0 (s:Par):=(aj ([40]:Str) (A0 s))
def C0 (n:Nat)(s:Par):=(ad ([44]:Str) ([41]:Str) ay {kind:=(6:Int),pkg:=[],name:=[],n:=(0:Int),names:=[],vars:=[],shapes:=[],parts:=[],pos:=(ao s).pos:Trm} (B0 s))
def D0 (n:Nat)(s:Par):=(aj ([45,62]:Str) (C0 n s).2)
def E0:=(100000:Nat)
def H0:=True
def I0 (n:Nat)(s:Par):=(a7 (n+(1:Nat)) s)
def J0 (s:Par):=(bF ([108,101,116]:Str) (A0 s))
def K0 (s:Par):=(aS (1:Int) (J0 s))
def L0 (s:Par):=(aj ([61]:Str) (K0 s).2)
def M0 (n:Nat)(s:Par):=(aj ([105,110]:Str) (a7 n (L0 s)).2)
def N0 (n:Nat)(s:Par):=([]++[(a7 n (L0 s)).1])
def O0 (s:Par):=(bF ([105,102]:Str) (J0 s))
def P0 (n:Nat)(s:Par):=(aj ([116,104,101,110]:Str) (a7 n (O0 s)).2)
def Q0 (n:Nat)(s:Par):=([]++[(a7 n (O0 s)).1])
def R0 (n:Nat)(s:Par):=(aj ([101,108,115,101]:Str) (a7 n (P0 n s)).2)
def S0 (n:Nat)(s:Par):=([]++[(a7 n (O0 s)).1]++[(a7 n (P0 n s)).1])
def T0 (n:Nat)(s:Par):=([]++[(a7 n (O0 s)).1]++[(a7 n (P0 n s)).1]++[(a7 n (R0 n s)).1])
def U0 (n:Nat)(s:Par):=(aW (aj ([97,115]:Str) (a7 n (R0 n s)).2))
def V0:=([99,97,115,101]:Str)
def W0 (s:Par):=(bF V0 (O0 s))
def X0 (n:Nat)(s:Par):=(aj ([123]:Str) (aj ([111,102]:Str) (a7 n (W0 s)).2))
def Y0 (n:Nat)(s:Par):=([]++[(a7 n (W0 s)).1])
def Z0 (n:Nat)(s:Par):=(ad ([124]:Str) ([125]:Str) (am (a7 n)) {kind:=(13:Int),pkg:=[],name:=[],n:=(0:Int),names:=[],vars:=[],shapes:=[],parts:=[]++[(a7 n (W0 s)).1],pos:=(ao s).pos:Trm} (X0 n s))
def A1 (s:Par):=(bF ([91]:Str) (W0 s))
def B1 (n:Nat)(s:Par):=(ad ([44]:Str) ([93]:Str) (au (a7 n)) {kind:=(11:Int),pkg:=[],name:=[],n:=(0:Int),names:=[],vars:=[],shapes:=[],parts:=[],pos:=(ao s).pos:Trm} (A1 s))
end C1k
open C1k in
theorem HG (n:Nat) (s:Par)  (ho:a8 s/\rem s < n+1) :
  a8 s/\a8 s/\if isF ([102,117,110]:Str) s=true then a8 (A0 s)/\(a8 (B0 s)/\rem (B0 s)<=n)/\a8 (C0 n s).2/\(a8 (D0 n s)/\rem (D0 n s)<n/\List.length (C0 n s).1.names=List.length (C0 n s).1.names/\List.length (C0 n s).1.shapes=List.length (C0 n s).1.shapes/\List.length (C0 n s).1.names+List.length (C0 n s).1.shapes<=E0)/\H0/\(C0 n s).1.kind=(I0 n s).1.kind/\(C0 n s).1.pkg=(I0 n s).1.pkg/\(C0 n s).1.name=(I0 n s).1.name/\(C0 n s).1.n=(I0 n s).1.n/\(C0 n s).1.names=(I0 n s).1.names/\(I0 n s).1.vars=[]/\(C0 n s).1.shapes=(I0 n s).1.shapes/\[]++[(a7 n (D0 n s)).1]=(I0 n s).1.parts/\(C0 n s).1.pos=(I0 n s).1.pos/\(a7 n (D0 n s)).2=(I0 n s).2/\H0 else a8 (A0 s)/\if isF ([108,101,116]:Str) (A0 s)=true then (a8 (J0 s)/\¬(1:Int)=(0:Int))/\a8 (K0 s).2/\(a8 (L0 s)/\rem (L0 s)<n)/\a8 (a7 n (L0 s)).2/\(a8 (M0 n s)/\rem (M0 n s)<n/\List.length (N0 n s)=List.length (N0 n s)/\List.length (N0 n s)<=E0)/\H0/\(14:Int)=(I0 n s).1.kind/\[]=(I0 n s).1.pkg/\(K0 s).1.text=(I0 n s).1.name/\(0:Int)=(I0 n s).1.n/\(I0 n s).1.names=[]/\(I0 n s).1.vars=[]/\(I0 n s).1.shapes=[]/\[]++[(a7 n (L0 s)).1]++[(a7 n (M0 n s)).1]=(I0 n s).1.parts/\(ao s).pos=(I0 n s).1.pos/\(a7 n (M0 n s)).2=(I0 n s).2/\H0 else a8 (J0 s)/\if isF ([105,102]:Str) (J0 s)=true then (a8 (O0 s)/\rem (O0 s)<n)/\a8 (a7 n (O0 s)).2/\(a8 (P0 n s)/\rem (P0 n s)<n/\List.length (Q0 n s)=List.length (Q0 n s)/\List.length (Q0 n s)<=E0)/\a8 (a7 n (P0 n s)).2/\(a8 (R0 n s)/\rem (R0 n s)<n/\List.length (S0 n s)=List.length (S0 n s)/\List.length (S0 n s)<=E0)/\(a8 (a7 n (R0 n s)).2/\List.length (T0 n s)=List.length (T0 n s)/\List.length (T0 n s)<=E0)/\H0/\(12:Int)=(I0 n s).1.kind/\[]=(I0 n s).1.pkg/\[]=(I0 n s).1.name/\(0:Int)=(I0 n s).1.n/\(I0 n s).1.names=[]/\(I0 n s).1.vars=[]/\[]++[(U0 n s).1]=(I0 n s).1.shapes/\[]++[(a7 n (O0 s)).1]++[(a7 n (P0 n s)).1]++[(a7 n (R0 n s)).1]=(I0 n s).1.parts/\(ao s).pos=(I0 n s).1.pos/\(U0 n s).2=(I0 n s).2/\H0 else a8 (O0 s)/\if isF V0 (O0 s)=true then (a8 (W0 s)/\rem (W0 s)<n)/\a8 (a7 n (W0 s)).2/\a8 (aj ([111,102]:Str) (a7 n (W0 s)).2)/\(a8 (X0 n s)/\rem (X0 n s)<=n/\List.length (Y0 n s)=List.length (Y0 n s)/\List.length (Y0 n s)<=(1:Nat))/\(a8 (Z0 n s).2/\List.length (Z0 n s).1.names=List.length (Z0 n s).1.names/\List.length (Z0 n s).1.vars=List.length (Z0 n s).1.vars/\List.length (Z0 n s).1.shapes=List.length (Z0 n s).1.shapes/\List.length (Z0 n s).1.parts=List.length (Z0 n s).1.parts/\List.length (Z0 n s).1.names+List.length (Z0 n s).1.vars+List.length (Z0 n s).1.shapes+List.length (Z0 n s).1.parts<=E0)/\H0/\(Z0 n s).1.kind=(I0 n s).1.kind/\(Z0 n s).1.pkg=(I0 n s).1.pkg/\(Z0 n s).1.name=(I0 n s).1.name/\(Z0 n s).1.n=(I0 n s).1.n/\(Z0 n s).1.names=(I0 n s).1.names/\(Z0 n s).1.vars=(I0 n s).1.vars/\(Z0 n s).1.shapes++[(aW (aj ([97,115]:Str) (Z0 n s).2)).1]=(I0 n s).1.shapes/\(Z0 n s).1.parts=(I0 n s).1.parts/\(Z0 n s).1.pos=(I0 n s).1.pos/\(aW (aj ([97,115]:Str) (Z0 n s).2)).2=(I0 n s).2/\H0 else a8 (W0 s)/\if isF ([91]:Str) (W0 s)=true then (a8 (A1 s)/\rem (A1 s)<n)/\(a8 (B1 n s).2/\List.length (B1 n s).1.parts=List.length (B1 n s).1.parts/\List.length (B1 n s).1.parts<=E0)/\H0/\(B1 n s).1.kind=(I0 n s).1.kind/\(B1 n s).1.pkg=(I0 n s).1.pkg/\(B1 n s).1.name=(I0 n s).1.name/\(B1 n s).1.n=(I0 n s).1.n/\(I0 n s).1.names=[]/\(I0 n s).1.vars=[]/\[]++[(aW (aj ([111,102]:Str) (B1 n s).2)).1]=(I0 n s).1.shapes/\(B1 n s).1.parts=(I0 n s).1.parts/\(B1 n s).1.pos=(I0 n s).1.pos/\(aW (aj ([111,102]:Str) (B1 n s).2)).2=(I0 n s).2/\H0 else (a8 (A1 s)/\rem (A1 s)<n+(1:Nat))/\H0/\(fR (a7 n) (A1 s)).1=(I0 n s).1/\(fR (a7 n) (A1 s)).2=(I0 n s).2/\H0:=by
 delta B1 A1 Z0 Y0 X0 W0 V0 U0 T0 S0 R0 Q0 P0 O0 N0 M0 L0 K0 J0 I0 H0 E0 D0 C0 B0 A0
 obtain ⟨hi,hn⟩:=ho
 obtain ⟨G,hG⟩:∃G,G=p8 (a7 n) s:=⟨_,rfl⟩
 rw [show a7 (n+1) s=G from hG.symm]
 unfold p8 at hG
 have hl:=hi.2.2.1
 have hR:=dU n
 refine ⟨hi,?_⟩
 refine ⟨hi,a6 (fun c=>?_) (fun c=>?_)⟩
 rotate_left
 ·rw [if_neg c] at hG
  have c:isF [102,117,110] s=false:=by simpa using c
  rw [aP c]
  refine ⟨hi,a6 (fun c=>?_) (fun c=>?_)⟩
  rotate_left
  ·rw [if_neg c] at hG
   have c:isF [108,101,116] s=false:=by simpa using c
   rw [aP c]
   refine ⟨hi,a6 (fun c=>?_) (fun c=>?_)⟩
   rotate_left
   ·rw [if_neg c] at hG
    have c:isF [105,102] s=false:=by simpa using c
    rw [aP c]
    refine ⟨hi,a6 (fun c=>?_) (fun c=>?_)⟩
    rotate_left
    ·rw [if_neg c] at hG
     have c:isF [99,97,115,101] s=false:=by simpa using c
     rw [aP c]
     refine ⟨hi,a6 (fun c=>?_) (fun c=>?_)⟩
     rotate_left
     ·rw [if_neg c] at hG
      have c:isF [91] s=false:=by simpa using c
      rw [aP c]
      refine ⟨⟨hi,hn⟩,?_⟩
      subst hG
      exact Xr
     rw [if_pos c] at hG
     have m:=bi hi c
     have r:=bq hi c
     rw [aI c]
     have hRp:fc (au (a7 n)) (n - 1):=fH (by
      have hp:=ez (eM c).2
      by_cases h:n=0
      ·subst h;have:=bq hi c;have h5:rem (aC s)=0:=by omega
       omega
      ·rw [Nat.sub_add_cancel (by omega)];exact hR)
     have hn1:rem (aC s) < n:=by omega
     have ht:=m.goes.toks
     have g:=bz hRp [44] [93] (⟨11,[],[],0,[],[],[],[],(ao s).pos⟩:Trm) m.good (by omega)
     have kn:=cJ (fun x:Trm=>x.names=[]) (one:=au (a7 n)) (fun x s h=>h) [44] [93] (x:=(⟨11,[],[],0,[],[],[],[],(ao s).pos⟩:Trm)) (aC s) rfl
     have kv:=cJ (fun x:Trm=>x.vars=[]) (one:=au (a7 n)) (fun x s h=>h) [44] [93] (x:=(⟨11,[],[],0,[],[],[],[],(ao s).pos⟩:Trm)) (aC s) rfl
     have ks:=cJ (fun x:Trm=>x.shapes=[]) (one:=au (a7 n)) (fun x s h=>h) [44] [93] (x:=(⟨11,[],[],0,[],[],[],[],(ao s).pos⟩:Trm)) (aC s) rfl
     have lp:=dP (fun x:Trm=>x.parts.length) (one:=au (a7 n)) (fun x s=>by simp [au,cW,ay,fw,cC,bG,am,dq]) [44] [93] (⟨11,[],[],0,[],[],[],[],(ao s).pos⟩:Trm) (aC s)
     replace hG:G=fw [111,102] (ad [44] [93] (au (a7 n)) (⟨11,[],[],0,[],[],[],[],(ao s).pos⟩:Trm) (aC s)).1 (ad [44] [93] (au (a7 n)) (⟨11,[],[],0,[],[],[],[],(ao s).pos⟩:Trm) (aC s)).2:=hG
     generalize ad [44] [93] (au (a7 n)) (⟨11,[],[],0,[],[],[],[],(ao s).pos⟩:Trm) (aC s)=L at hG g kn kv ks lp ⊢
     subst hG
     simp only [ht,List.length_nil] at lp
     refine ⟨⟨m.good,hn1⟩,⟨g.good,by trivial,by omega⟩,?_⟩
     repeat (first | exact trivial | refine ⟨by first | rfl | trivial | exact kn | exact kv | exact ks | exact kp | (show []++[_]=L.1.parts++[_];rw [kp]) | (show []++[_]=L.1.shapes++[_];rw [ks]),?_⟩)
    rw [if_pos c] at hG
    have m:=bi hi c
    have r:=bq hi c
    rw [aI c]
    have a:=hR.moves m.good (by omega)
    have al:=a.goes.le
    have b:=aA (t:=[111,102]) a.good
    have bl:=b.goes.le
    have d:=aA (t:=[123]) b.good
    have dl:=d.goes.le
    have ht:=(((m.then a).then b).then d).goes.toks
    have g:=bz (oh hR) [124] [125] (⟨13,[],[],0,[],[],[],[]++[(a7 n (aC s)).1],(ao s).pos⟩:Trm) d.good (by omega)
    have ln:=dP (fun x:Trm=>x.names.length) (one:=am (a7 n)) (fun x s=>by simp [au,cW,ay,fw,cC,bG,am,dq]) [124] [125] (⟨13,[],[],0,[],[],[],[]++[(a7 n (aC s)).1],(ao s).pos⟩:Trm) (aj [123] (aj [111,102] (a7 n (aC s)).2))
    have lv:=dP (fun x:Trm=>x.vars.length) (one:=am (a7 n)) (fun x s=>by simp [au,cW,ay,fw,cC,bG,am,dq]) [124] [125] (⟨13,[],[],0,[],[],[],[]++[(a7 n (aC s)).1],(ao s).pos⟩:Trm) (aj [123] (aj [111,102] (a7 n (aC s)).2))
    have ls:=dP (fun x:Trm=>x.shapes.length) (one:=am (a7 n)) (fun x s=>by simp [au,cW,ay,fw,cC,bG,am,dq]) [124] [125] (⟨13,[],[],0,[],[],[],[]++[(a7 n (aC s)).1],(ao s).pos⟩:Trm) (aj [123] (aj [111,102] (a7 n (aC s)).2))
    have lp:=dP (fun x:Trm=>x.parts.length) (one:=am (a7 n)) (fun x s=>by simp [au,cW,ay,fw,cC,bG,am,dq]) [124] [125] (⟨13,[],[],0,[],[],[],[]++[(a7 n (aC s)).1],(ao s).pos⟩:Trm) (aj [123] (aj [111,102] (a7 n (aC s)).2))
    replace hG:G=fw [97,115] (ad [124] [125] (am (a7 n)) (⟨13,[],[],0,[],[],[],[]++[(a7 n (aC s)).1],(ao s).pos⟩:Trm) (aj [123] (aj [111,102] (a7 n (aC s)).2))).1 (ad [124] [125] (am (a7 n)) (⟨13,[],[],0,[],[],[],[]++[(a7 n (aC s)).1],(ao s).pos⟩:Trm) (aj [123] (aj [111,102] (a7 n (aC s)).2))).2:=hG
    generalize ad [124] [125] (am (a7 n)) (⟨13,[],[],0,[],[],[],[]++[(a7 n (aC s)).1],(ao s).pos⟩:Trm) (aj [123] (aj [111,102] (a7 n (aC s)).2))=L at hG g ln lv ls lp ⊢
    subst hG
    simp only [ht,List.length_nil,List.length_append,List.length_singleton] at ln lv ls lp
    refine ⟨⟨m.good,by omega⟩,a.good,b.good,⟨d.good,by omega,by trivial,by simp⟩,⟨g.good,by trivial,by trivial,by trivial,by trivial,by omega⟩,?_⟩
    exact Xr
   rw [if_pos c] at hG
   have m:=bi hi c
   have r:=bq hi c
   rw [aI c]
   replace hG:G=fw [97,115] (au (a7 n) (au (a7 n) (au (a7 n) ⟨12,[],[],0,[],[],[],[],(ao s).pos⟩ (aC s)).1 (aj [116,104,101,110] (a7 n (aC s)).2)).1 (aj [101,108,115,101] (a7 n (aj [116,104,101,110] (a7 n (aC s)).2)).2)).1 (a7 n (aj [101,108,115,101] (a7 n (aj [116,104,101,110] (a7 n (aC s)).2)).2)).2:=hG
   subst hG
   have a:=hR.moves m.good (by omega)
   have al:=a.goes.le
   have b:=aA (t:=[116,104,101,110]) a.good
   have bl:=b.goes.le
   have d:=hR.moves b.good (by omega)
   have dl:=d.goes.le
   have e:=aA (t:=[101,108,115,101]) d.good
   have el:=e.goes.le
   have f:=hR.moves e.good (by omega)
   refine ⟨⟨m.good,by omega⟩,a.good,⟨b.good,by omega,by trivial,by simp⟩,d.good,⟨e.good,by omega,by trivial,by simp⟩,⟨f.good,by trivial,by simp⟩,?_⟩
   exact Xr
  rw [if_pos c] at hG
  have m:=bi hi c
  have r:=bq hi c
  rw [aI c]
  replace hG:G=au (a7 n) (au (a7 n) ⟨14,[],(aS 1 (aC s)).1.text,0,[],[],[],[],(ao s).pos⟩ (aj [61] (aS 1 (aC s)).2)).1 (aj [105,110] (a7 n (aj [61] (aS 1 (aC s)).2)).2):=hG
  subst hG
  have a:=dz (k:=1) m.good (by decide)
  have al:=a.goes.le
  have b:=aA (t:=[61]) a.good
  have bl:=b.goes.le
  have d:=hR.moves b.good (by omega)
  have dl:=d.goes.le
  have e:=aA (t:=[105,110]) d.good
  have el:=e.goes.le
  refine ⟨⟨m.good,by decide⟩,a.good,⟨b.good,by omega⟩,d.good,⟨e.good,by omega,by trivial,by simp⟩,?_⟩
  exact Xr
 rw [if_pos c] at hG
 have m:=bi hi c
 have r:=bq hi c
 rw [aI c]
 have a:=aA (t:=[40]) m.good
 have al:=a.goes.le
 have ht:=(m.then a).goes.toks
 have g:=bz (og n) [44] [41] (⟨6,[],[],0,[],[],[],[],(ao s).pos⟩:Trm) a.good (by omega)
 have ln:=dP (fun x:Trm=>x.names.length) (one:=ay) (fun x s=>by simp [au,cW,ay,fw,cC,bG,am,dq]) [44] [41] (⟨6,[],[],0,[],[],[],[],(ao s).pos⟩:Trm) (aj [40] (aC s))
 have ls:=dP (fun x:Trm=>x.shapes.length) (one:=ay) (fun x s=>by simp [au,cW,ay,fw,cC,bG,am,dq]) [44] [41] (⟨6,[],[],0,[],[],[],[],(ao s).pos⟩:Trm) (aj [40] (aC s))
 have kv:=cJ (fun x:Trm=>x.vars=[]) (one:=ay) (fun x s h=>h) [44] [41] (x:=(⟨6,[],[],0,[],[],[],[],(ao s).pos⟩:Trm)) (aj [40] (aC s)) rfl
 have kp:=cJ (fun x:Trm=>x.parts=[]) (one:=ay) (fun x s h=>h) [44] [41] (x:=(⟨6,[],[],0,[],[],[],[],(ao s).pos⟩:Trm)) (aj [40] (aC s)) rfl
 replace hG:G=au (a7 n) (ad [44] [41] ay (⟨6,[],[],0,[],[],[],[],(ao s).pos⟩:Trm) (aj [40] (aC s))).1 (aj [45,62] (ad [44] [41] ay (⟨6,[],[],0,[],[],[],[],(ao s).pos⟩:Trm) (aj [40] (aC s))).2):=hG
 generalize ad [44] [41] ay (⟨6,[],[],0,[],[],[],[],(ao s).pos⟩:Trm) (aj [40] (aC s))=L at hG g ln ls kv kp ⊢
 subst hG
 simp only [ht,List.length_nil] at ln ls
 have gl:=g.le
 have b:=aA (t:=[45,62]) g.good
 have bl:=b.goes.le
 refine ⟨m.good,⟨a.good,by omega⟩,g.good,⟨b.good,by omega,by trivial,by trivial,by omega⟩,?_⟩
 repeat (first | exact trivial | refine ⟨by first | rfl | trivial | exact kn | exact kv | exact ks | exact kp | (show []++[_]=L.1.parts++[_];rw [kp]) | (show []++[_]=L.1.shapes++[_];rw [ks]),?_⟩)
end Go.AL.Seat
end
section
open Go Go.AL Go.Pd
namespace Go.AL.Seat
namespace C1l
def A0:=(0:Int)
def B0 (l:List Tokn)(a:Int):=True/\cv (2:Int) A0 {toks:=l,pos:=a,err:=A0,fat:=A0:Par}=aQ l a/\True
end C1l
open C1l in
theorem FH (l:List Tokn) (a:Int) (hl:Wf (.lst (.st .token)) l) :
  if decide (a<A0)=true then (B0 l a) else if decide ((↑(List.length l):Int)<a)=true then (B0 l a) else if decide ((4097:Int)<(↑(List.length l):Int))=true then True/\cv (3:Int) A0 {toks:=l,pos:=a,err:=A0,fat:=A0:Par}=aQ l a/\True else True/\l=(aQ l a).toks/\a=(aQ l a).pos/\A0=(aQ l a).err/\A0=(aQ l a).fat/\True:=by
 delta B0 A0
 have hn:=hl.len
 refine a6 (fun h=>?_) (fun h=>?_)
 ·replace h:=Xo h
  have e:aQ l a=⟨l,a,2,0⟩:=by unfold aQ;rw [if_pos (.inl h)]
  rw [e]
  exact ⟨trivial,rfl,trivial⟩
 replace h:¬a < 0:=fun e=>h (Xd e)
 refine a6 (fun k=>?_) (fun k=>?_)
 ·replace k:=Xo k
  have e:aQ l a=⟨l,a,2,0⟩:=by unfold aQ;rw [if_pos (.inr k)]
  rw [e]
  exact ⟨trivial,rfl,trivial⟩
 replace k:¬(l.length:Int) < a:=fun e=>k (Xd e)
 have hb:¬(a < 0∨(l.length:Int) < a):=fun e=>e.elim h k
 refine a6 (fun d=>?_) (fun d=>?_)
 ·replace d:=Xo d
  have e:aQ l a=⟨l,a,3,0⟩:=by unfold aQ;rw [if_neg hb,if_pos (by omega)]
  rw [e]
  exact ⟨trivial,rfl,trivial⟩
 ·replace d:¬(4097:Int) < (l.length:Int):=fun e=>d (Xd e)
  have e:aQ l a=⟨l,a,0,0⟩:=by unfold aQ;rw [if_neg hb,if_neg (by omega)]
  rw [e]
  exact Xr
end Go.AL.Seat
end
section
open Go Go.AL Go.Pd
namespace Go.AL.Seat
namespace C1m
def A0 (l:List Tokn):=(↑(List.length l):Int)
end C1m
open C1m in
theorem CF (l:List Tokn) (a:Int) (hl:Wf (.lst (.st .token)) l) (ho:0<=a/\a < (l.length:Int)) :
  inR IntKind.i64 ((A0 l) - (1:Int))/\if (!decide (a=(A0 l) - (1:Int)))=true then ((0:Int)<=a/\a<(A0 l))/\True/\(90:Int)=(dG l a).err/\(List.getD l (Int.toNat a) (dfl (Ty.st SN.token))).pos=(dG l a).pos/\True else True/\(0:Int)=(dG l a).err/\(0:Int)=(dG l a).pos/\True:=by
 delta A0
 have hn:=hl.len
 refine ⟨ak (by omega) (by omega),a6 (fun h=>?_) (fun h=>?_)⟩
 ·have h:¬a=(l.length:Int) - 1:=by simpa using h
  unfold dG
  rw [if_neg h]
  refine ⟨ho,?_⟩
  exact Xr
 ·have h:a=(l.length:Int) - 1:=by simpa using h
  unfold dG
  rw [if_pos h]
  exact Xr
end Go.AL.Seat
end
section
open Go Go.AL Go.Pd
namespace Go.AL.Seat
namespace C1n
def A0 (l:List Tokn)(a:Int):=(aW (aQ l a))
end C1n
open C1n in
theorem HH (l:List Tokn) (a:Int) (hN:dr l) :
  if aV (aQ l a)=true then True/\(0:Int)=(bu l a).1.kind/\[]=(bu l a).1.pkg/\[]=(bu l a).1.name/\(bu l a).1.names=[]/\(bu l a).1.parts=[]/\(0:Int)=(bu l a).2.1/\(aQ l a).err=(bu l a).2.2.err/\(aQ l a).fat=(bu l a).2.2.pos/\True else a8 (aQ l a)/\if aV (A0 l a).2=true then True/\(0:Int)=(bu l a).1.kind/\[]=(bu l a).1.pkg/\[]=(bu l a).1.name/\(bu l a).1.names=[]/\(bu l a).1.parts=[]/\(0:Int)=(bu l a).2.1/\(A0 l a).2.err=(bu l a).2.2.err/\(A0 l a).2.fat=(bu l a).2.2.pos/\True else True/\(A0 l a).1=(bu l a).1/\(A0 l a).2.pos=(bu l a).2.1/\(0:Int)=(bu l a).2.2.err/\(0:Int)=(bu l a).2.2.pos/\True:=by
 delta A0
 obtain ⟨G,hG⟩:∃G,G=bu l a:=⟨_,rfl⟩
 rw [←hG]
 unfold bu at hG
 refine a6 (fun h=>?_) (fun h=>?_)
 ·rw [if_pos h] at hG
  subst hG
  exact Xr
 ·rw [if_neg h] at hG
  have h:aV (aQ l a)=false:=by simpa using h
  have g:=ke hN h
  unfold pq at hG
  refine ⟨g,a6 (fun k=>?_) (fun k=>?_)⟩
  ·rw [if_pos k] at hG
   subst hG
   exact Xr
  ·rw [if_neg k] at hG
   subst hG
   exact Xr
end Go.AL.Seat
end
section
open Go Go.AL Go.Pd
namespace Go.AL.Seat
namespace C1o
def A0:=(1:Int)
def B0:=(0:Int)
def C0 (x:Nat × Int × Int)(t:Trm)(m:Int):=countL (List.drop x.1 t.parts) m x.2.1 x.2.2=countL t.parts m A0 B0
def D0 (x:Nat × Int × Int)(t:Trm)(m:Int):=(x.1<=List.length t.parts/\A0<=x.2.1/\x.2.1<=m+A0/\B0<=x.2.2/\x.2.2+A0<=x.2.1/\(C0 x t m))
def E0 (x:Nat × Int × Int):=(↑x.1:Int)
def H0 (t:Trm):=(↑(List.length t.parts):Int)
def I0 (t:Trm)(m:Int):=t=t/\m=m/\B0=B0/\B0=B0/\t.parts=t.parts/\(H0 t)=(H0 t)/\t=t/\True
def J0 (x:Nat × Int × Int)(t:Trm)(m:Int):=inR IntKind.i64 (x.2.2+A0)/\True/\x.2.1=(countT t m).1/\x.2.2+A0=(countT t m).2/\True
def K0 (t:Trm)(x:Nat × Int × Int)(m:Int):=(countT (List.getD t.parts (Int.toNat (E0 x)) (dfl (Ty.st SN.term))) (m - x.2.1))
end C1o
open C1o in
theorem CG (n:Nat) (t:Trm) (m:Int) (hs:Wf (.st .term) t) (hz:szT t<=n+1) (h0:0<=m) (h1:m<=1000000) :
  (∃(x:Nat × Int × Int),(D0 x t m)/\A0=x.2.1/\B0=x.2.2/\B0=(E0 x)/\(I0 t m))/\∀(x:Nat × Int × Int),x.1<=List.length t.parts/\A0<=x.2.1/\x.2.1<=m+A0/\B0<=x.2.2/\x.2.2+A0<=x.2.1/\(C0 x t m)→if decide ((E0 x)<(H0 t))=true then (B0<=(E0 x)/\(E0 x)<(H0 t))/\if decide (m<x.2.1)=true then (J0 x t m) else inR IntKind.i64 (m - x.2.1)/\(szT (List.getD t.parts (Int.toNat (E0 x)) (dfl (Ty.st SN.term)))<=n/\B0<=m - x.2.1/\m - x.2.1<=(1000000:Int))/\inR IntKind.i64 (x.2.1+(K0 t x m).1)/\inR IntKind.i64 ((E0 x)+A0)/\∃(y:Nat × Int × Int),(D0 y t m)/\List.length t.parts - y.1<List.length t.parts - x.1/\x.2.1+(K0 t x m).1=y.2.1/\max x.2.2 (K0 t x m).2=y.2.2/\(E0 x)+A0=(E0 y)/\(I0 t m) else (J0 x t m):=by
 delta K0 J0 I0 H0 E0 D0 C0 B0 A0
 have ln:=hs.term_parts.len
 rw [Cj]
 refine ⟨⟨(0,1,0),⟨Nat.zero_le _,by decide,by show (1:Int)<=m+1;omega,by decide,by decide,rfl⟩,rfl,rfl,rfl,?_⟩,?_⟩
 ·exact Xr
 rintro ⟨k,a,d⟩ ⟨h1,h2,h3,h4,h5,h6⟩
 simp only [Int.toNat_natCast] at h1 h2 h3 h4 h5 h6 ⊢
 refine a6 (fun h=>?_) (fun h=>?_)
 ·replace h:=Xo h
  have hk:k < t.parts.length:=by omega
  rw [aT t.parts k (dfl (.st .term)) hk,countL] at h6
  refine ⟨by omega,a6 (fun c=>?_) (fun c=>?_)⟩
  ·replace c:=Xo c
   rw [if_pos c] at h6
   rw [←h6]
   refine ⟨ak (by omega) (by omega),?_⟩
   exact Xr
  ·replace c:¬m < a:=fun e=>c (Xd e)
   rw [if_neg c] at h6
   have hm:=uL (dy t.parts k (dfl (.st .term)) hk)
   have he:=zf t
   have hb:=countT_bound (t.parts.getD k (dfl (.st .term))) (m - a) (by omega)
   refine ⟨ak (by omega) (by omega),⟨by omega,by omega,by omega⟩,ak (by omega) (by omega),bN hk ln,(k+1,_,_),⟨by show k+1<=_;omega,?_,?_,?_,?_,h6⟩,by show _ - (k+1) < _;omega,rfl,rfl,by show _=((k+1:Nat):Int);omega,?_⟩
   ·show (1:Int)<=a+_;omega
   ·show a+_<=m+1;omega
   ·show (0:Int)<=max d _;omega
   ·show max d _+1<=a+_;omega
   exact Xr
 ·replace h:¬((k:Int) < (t.parts.length:Int)):=fun e=>h (Xd e)
  have e:k=t.parts.length:=by omega
  subst e
  rw [List.drop_length,countL] at h6
  rw [←h6]
  refine ⟨ak (by omega) (by omega),?_⟩
  exact Xr
end Go.AL.Seat
end
section
open Go Go.AL Go.Pd
namespace Go.AL.Seat
theorem zy  (x:Str)  :
  True/\(!aU x)=!aU x/\True:=by
 exact ⟨trivial,by trivial,trivial⟩
end Go.AL.Seat
end
section
open Go Go.AL Go.Pd
namespace Go.AL.Seat
namespace C1q
def A0 (x:Nat)(l:List Str):=(x<=List.length l/\cK aU (List.drop x l) x=cK aU l (0:Nat))
def B0 (x:Nat):=(↑x:Int)
def C0 (l:List Str):=(↑(List.length l):Int)
end C1q
open C1q in
theorem zA  (l:List Str)  (hl:Wf (.lst .str) l) :
  (∃(x:Nat),(A0 x l)/\(0:Int)=(B0 x)/\l=l/\(C0 l)=(C0 l)/\True)/\∀(x:Nat),x<=List.length l/\cK aU (List.drop x l) x=cK aU l (0:Nat)→if decide ((B0 x)<(C0 l))=true then ((0:Int)<=(B0 x)/\(B0 x)<(C0 l))/\if (!aU (List.getD l (Int.toNat (B0 x)) (dfl Ty.str)))=true then True/\(B0 x)=cK aU l (0:Nat)/\True else inR IntKind.i64 ((B0 x)+(1:Int))/\∃(y:Nat),(A0 y l)/\List.length l - y<List.length l - x/\(B0 x)+(1:Int)=(B0 y)/\l=l/\(C0 l)=(C0 l)/\True else True/\(-1:Int)=cK aU l (0:Nat)/\True:=by
 delta C0 B0 A0
 have ln:=hl.len
 simp only [Int.toNat_natCast]
 refine ⟨⟨0,⟨Nat.zero_le _,by simp⟩,rfl,by trivial,by trivial,trivial⟩,?_⟩
 rintro k ⟨h1,h2⟩
 refine a6 (fun h=>?_) (fun h=>?_)
 ·replace h:=Xo h
  have hk:k < l.length:=by omega
  rw [aT l k (dfl .str) hk,cK] at h2
  refine ⟨by omega,a6 (fun c=>?_) (fun c=>?_)⟩
  ·have c:aU (l.getD k (dfl .str))=false:=by simpa using c
   rw [c,if_neg Bool.false_ne_true] at h2
   rw [←h2]
   exact ⟨trivial,rfl,trivial⟩
  ·have c:aU (l.getD k (dfl .str))=true:=by simpa using c
   rw [if_pos c] at h2
   refine ⟨bN hk ln,k+1,⟨by omega,h2⟩,by omega,by omega,by trivial,by trivial,trivial⟩
 ·replace h:¬((k:Int) < (l.length:Int)):=fun e=>h (Xd e)
  have e:k=l.length:=by omega
  subst e
  rw [List.drop_length,cK] at h2
  rw [←h2]
  exact ⟨trivial,rfl,trivial⟩
end Go.AL.Seat
end
section
open Go Go.AL Go.Pd
namespace Go.AL.Seat
theorem zB  (l:List Str)  :
  True/\decide ((0:Int)<=cK aU l (0:Nat))=!List.all l aU/\True:=by
 exact ⟨trivial,lg aU l 0,trivial⟩
theorem FI  (l:List Str)  :
  True/\(!!List.all l aU)=List.all l aU/\True:=by
 exact ⟨trivial,Bool.not_not _,trivial⟩
end Go.AL.Seat
end
section
open Go Go.AL Go.Pd
namespace Go.AL.Seat
namespace C1t
def A0 (l:List Str):=(List.mergeSort l fun (x y:Str)=>decide (x<=y))
end C1t
open C1t in
theorem FJ (l:List Str) (ho:l.length *16<=140737488355328) :
  List.length l*(16:Nat)<=(140737488355328:Nat)/\if List.all l aU=true then List.length (A0 l)=List.length (A0 l)/\True/\decide ((↑(List.length (Lib.compact (A0 l))):Int)=(↑(List.length l):Int))=(List.all l aU && decide (List.Nodup l))/\True else True/\false=(List.all l aU && decide (List.Nodup l))/\True:=by
 delta A0
 have hc:=l9 l
 unfold fQ at hc
 refine ⟨ho,a6 (fun h=>?_) (fun h=>?_)⟩
 ·refine ⟨by trivial,trivial,?_,trivial⟩
  rw [h,Bool.true_and,decide_eq_decide,←hc]
  omega
 ·have h:l.all aU=false:=by simpa using h
  exact ⟨trivial,by rw [h];rfl,trivial⟩
end Go.AL.Seat
end
section
open Go Go.AL Go.Pd
namespace Go.AL.Seat
theorem zC (n:Nat) (x:Shape)  (ho:sz x<=n) :
  sz x<=n/\True/\(!allS ck x)=!allS ck x/\True:=by
 exact ⟨ho,trivial,by trivial,trivial⟩
end Go.AL.Seat
end
section
open Go Go.AL Go.Pd
namespace Go.AL.Seat
namespace C1v
def A0:=(allS ck)
def B0 (x:Nat)(l:List Shape):=(x<=List.length l/\cK A0 (List.drop x l) x=cK A0 l (0:Nat))
def C0 (x:Nat):=(↑x:Int)
def D0 (l:List Shape):=l=l/\(↑(List.length l):Int)=(↑(List.length l):Int)/\True
end C1v
open C1v in
theorem zD (n:Nat) (l:List Shape)  (hl:Wf (.lst (.st .shape)) l) (ho:∀x∈l,sz x<=n) :
  (∃(x:Nat),(B0 x l)/\(0:Int)=(C0 x)/\(D0 l))/\∀(x:Nat),x<=List.length l/\cK A0 (List.drop x l) x=cK A0 l (0:Nat)→if decide ((C0 x)<(↑(List.length l):Int))=true then ((0:Int)<=(C0 x)/\(C0 x)<(↑(List.length l):Int))/\sz (List.getD l (Int.toNat (C0 x)) (dfl (Ty.st SN.shape)))<=n/\if (!allS ck (List.getD l (Int.toNat (C0 x)) (dfl (Ty.st SN.shape))))=true then True/\(C0 x)=cK A0 l (0:Nat)/\True else inR IntKind.i64 ((C0 x)+(1:Int))/\∃(y:Nat),(B0 y l)/\List.length l - y<List.length l - x/\(C0 x)+(1:Int)=(C0 y)/\(D0 l) else True/\(-1:Int)=cK A0 l (0:Nat)/\True:=by
 delta D0 C0 B0 A0
 have ln:=hl.len
 simp only [Int.toNat_natCast]
 refine ⟨⟨0,⟨Nat.zero_le _,by simp⟩,rfl,by trivial,by trivial,trivial⟩,?_⟩
 rintro k ⟨h1,h2⟩
 refine a6 (fun h=>?_) (fun h=>?_)
 ·replace h:=Xo h
  have hk:k < l.length:=by omega
  rw [aT l k (dfl (.st .shape)) hk,cK] at h2
  refine ⟨by omega,ho _ (dy l k _ hk),a6 (fun c=>?_) (fun c=>?_)⟩
  ·have c:(allS ck) (l.getD k (dfl (.st .shape)))=false:=by simpa using c
   rw [c,if_neg Bool.false_ne_true] at h2
   rw [←h2]
   exact ⟨trivial,rfl,trivial⟩
  ·have c:(allS ck) (l.getD k (dfl (.st .shape)))=true:=by simpa using c
   rw [if_pos c] at h2
   refine ⟨bN hk ln,k+1,⟨by omega,h2⟩,by omega,by omega,by trivial,by trivial,trivial⟩
 ·replace h:¬((k:Int) < (l.length:Int)):=fun e=>h (Xd e)
  have e:k=l.length:=by omega
  subst e
  rw [List.drop_length,cK] at h2
  rw [←h2]
  exact ⟨trivial,rfl,trivial⟩
end Go.AL.Seat
end
section
open Go Go.AL Go.Pd
namespace Go.AL.Seat
theorem zE (n:Nat) (l:List Shape)  (ho:∀x∈l,sz x<=n) :
  (∀(x:Shape),x∈l→sz x<=n)/\True/\decide ((0:Int)<=cK (allS ck) l (0:Nat))=!List.all l (allS ck)/\True:=by
 exact ⟨ho,trivial,lg (allS ck) l 0,trivial⟩
theorem FK (n:Nat) (l:List Shape)  (ho:∀x∈l,sz x<=n) :
  (∀(x:Shape),x∈l→sz x<=n)/\True/\(!!List.all l (allS ck))=List.all l (allS ck)/\True:=by
 exact ⟨ho,trivial,Bool.not_not _,trivial⟩
theorem HI (n:Nat) (s:Shape) (ho:sz s<=n+1) :
  if (!decide (s.kind=(10:Int)))=true then (∀(x:Shape),x∈s.parts→sz x<=n)/\True/\List.all s.parts (allS ck)=allS ck s/\True else True/\false=allS ck s/\True:=by
 have e0:allS ck s=(ck s && s.parts.all (allS ck)):=by rw [nv,wD]
 have h0:=p7 s
 have hm:∀x∈s.parts,sz x<=n:=fun x hx=>by have:=ld hx;omega
 rw [e0]
 refine a6 (fun h=>?_) (fun h=>?_)
 ·have h:ck s=true:=h
  rw [h,Bool.true_and]
  exact ⟨hm,trivial,rfl,trivial⟩
 ·have h:ck s=false:=by simpa [ck] using h
  rw [h]
  exact ⟨trivial,rfl,trivial⟩
end Go.AL.Seat
end
section
open Go Go.AL Go.Pd
namespace Go.AL.Seat
namespace C1z
def A0 (s:Shape):=(decide (bK s=(0:Int)) && allS ck s)
end C1z
open C1z in
theorem CH (s:Shape)  :
  if decide (bK s=(0:Int))=true then sz s<=(400:Nat)/\True/\allS ck s=(A0 s)/\True else True/\false=(A0 s)/\True:=by
 delta A0
 refine a6 (fun h=>?_) (fun h=>?_)
 ·have h:bK s=0:=by simpa using h
  refine ⟨?_,trivial,by simp [h],trivial⟩
  unfold bK at h
  by_cases c:400 < sz s
  ·rw [if_pos c] at h;exact absurd h (by decide)
  ·omega
 ·have h:¬bK s=0:=by simpa using h
  exact ⟨trivial,by simp [h],trivial⟩
end Go.AL.Seat
end
section
open Go Go.AL Go.Pd
namespace Go.AL.Seat
theorem IY (t:Trm)  :
  True/\(↑(List.length t.names):Int)=(↑(List.length t.names):Int)/\(↑(List.length t.vars):Int)=(↑(List.length t.vars):Int)/\(↑(List.length t.shapes):Int)=(↑(List.length t.shapes):Int)/\(↑(List.length t.parts):Int)=(↑(List.length t.parts):Int)/\True:=by
 exact Xr
end Go.AL.Seat
end
section
open Go Go.AL Go.Pd
namespace Go.AL.Seat
namespace C21
def A0 (x:Nat)(s:Str):=(x<=List.length s/\List.all s jG=List.all (List.drop x s) jG)
def B0 (x:Nat):=(↑x:Int)
def C0 (s:Str):=(↑(List.length (aJ s)):Int)
def D0 (s:Str):=s=s/\aJ s=aJ s/\(C0 s)=(C0 s)/\True
def E0:=(dfl (Ty.int IntKind.u8))
def H0 (x:Nat)(s:Str):=inR IntKind.i64 ((B0 x)+(1:Int))/\∃(y:Nat),(A0 y s)/\List.length s - y<List.length s - x/\(B0 x)+(1:Int)=(B0 y)/\(D0 s)
end C21
open C21 in
theorem FL (s:Str) (hs:Wf .str s) :
  (∃(x:Nat),(A0 x s)/\(0:Int)=(B0 x)/\(D0 s))/\∀(x:Nat),x<=List.length s/\List.all s jG=List.all (List.drop x s) jG→if decide ((B0 x)<(C0 s))=true then ((0:Int)<=(B0 x)/\(B0 x)<(C0 s))/\if decide (List.getD (aJ s) (Int.toNat (B0 x)) E0<(32:Int))=true then if (!decide (List.getD (aJ s) (Int.toNat (B0 x)) E0=(10:Int)))=true then if (!decide (List.getD (aJ s) (Int.toNat (B0 x)) E0=(9:Int)))=true then True/\false=rg s/\True else (H0 x s) else (H0 x s) else (H0 x s) else True/\Option.isNone (cU s)=rg s/\True:=by
 delta H0 E0 D0 C0 B0 A0
 have ln:=hs.str
 have hbl:(aJ s).length=s.length:=List.length_map _
 simp only [hbl,Int.toNat_natCast]
 refine ⟨⟨0,⟨Nat.zero_le _,rfl⟩,?_⟩,?_⟩
 ·exact Xr
 rintro k ⟨h1,h2⟩
 refine a6 (fun h=>?_) (fun h=>?_)
 ·have hk:k < s.length:=by have:=Xo h;omega
  rw [aT s k 0 hk,List.all_cons] at h2
  have hq:=Ct (s.getD k 0)
  simp only [wS s k hk]
  have yes:¬(bI (s.getD k 0) < 32/\bI (s.getD k 0)≠10/\bI (s.getD k 0)≠9)→s.all jG=(s.drop (k+1)).all jG:=fun e=>by
   have:jG (s.getD k 0)=true:=by
    cases hh:jG (s.getD k 0) with
    | true=>rfl
    | false=>exact absurd (hq.1 hh) e
   rw [h2,this,Bool.true_and]
  refine ⟨⟨by omega,by omega⟩,?_⟩
  repeat' (refine a6 (fun _=>?_) (fun _=>?_))
  all_goals (simp only [decide_eq_true_eq,Bool.not_eq_true',decide_eq_false_iff_not] at *)
  all_goals first
   | (refine ⟨trivial,?_,trivial⟩;unfold rg;rw [h2,hq.2 (by omega),Bool.false_and,Bool.false_and])
   | (refine ⟨bN hk ln,k+1,⟨by omega,yes (by omega)⟩,by omega,by omega,?_⟩;exact Xr)
 ·have hk:k=s.length:=by
   have:¬((k:Int) < (s.length:Int)):=fun e=>h (Xd e)
   omega
  refine ⟨trivial,?_,trivial⟩
  unfold rg
  rw [h2,hk,List.drop_length]
  rfl
end Go.AL.Seat
end
section
open Go Go.AL Go.Pd
namespace Go.AL.Seat
theorem wY  (x:Shape)  :
  True/\(!(decide (bK x=(0:Int)) && allS ck x))=!dC x/\True:=by
 exact ⟨trivial,by trivial,trivial⟩
end Go.AL.Seat
end
section
open Go Go.AL Go.Pd
namespace Go.AL.Seat
namespace C23
def A0 (x:Nat)(l:List Shape):=(x<=List.length l/\cK dC (List.drop x l) x=cK dC l (0:Nat))
def B0 (x:Nat):=(↑x:Int)
def C0 (l:List Shape):=l=l/\(↑(List.length l):Int)=(↑(List.length l):Int)/\True
end C23
open C23 in
theorem wZ  (l:List Shape)  (hl:Wf (.lst (.st .shape)) l) :
  (∃(x:Nat),(A0 x l)/\(0:Int)=(B0 x)/\(C0 l))/\∀(x:Nat),x<=List.length l/\cK dC (List.drop x l) x=cK dC l (0:Nat)→if decide ((B0 x)<(↑(List.length l):Int))=true then ((0:Int)<=(B0 x)/\(B0 x)<(↑(List.length l):Int))/\if (!dC (List.getD l (Int.toNat (B0 x)) (dfl (Ty.st SN.shape))))=true then True/\(B0 x)=cK dC l (0:Nat)/\True else inR IntKind.i64 ((B0 x)+(1:Int))/\∃(y:Nat),(A0 y l)/\List.length l - y<List.length l - x/\(B0 x)+(1:Int)=(B0 y)/\(C0 l) else True/\(-1:Int)=cK dC l (0:Nat)/\True:=by
 delta C0 B0 A0
 have ln:=hl.len
 simp only [Int.toNat_natCast]
 refine ⟨⟨0,⟨Nat.zero_le _,by simp⟩,rfl,by trivial,by trivial,trivial⟩,?_⟩
 rintro k ⟨h1,h2⟩
 refine a6 (fun h=>?_) (fun h=>?_)
 ·replace h:=Xo h
  have hk:k < l.length:=by omega
  rw [aT l k (dfl (.st .shape)) hk,cK] at h2
  refine ⟨by omega,a6 (fun c=>?_) (fun c=>?_)⟩
  ·have c:dC (l.getD k (dfl (.st .shape)))=false:=by simpa using c
   rw [c,if_neg Bool.false_ne_true] at h2
   rw [←h2]
   exact ⟨trivial,rfl,trivial⟩
  ·have c:dC (l.getD k (dfl (.st .shape)))=true:=by simpa using c
   rw [if_pos c] at h2
   refine ⟨bN hk ln,k+1,⟨by omega,h2⟩,by omega,by omega,by trivial,by trivial,trivial⟩
 ·replace h:¬((k:Int) < (l.length:Int)):=fun e=>h (Xd e)
  have e:k=l.length:=by omega
  subst e
  rw [List.drop_length,cK] at h2
  rw [←h2]
  exact ⟨trivial,rfl,trivial⟩
end Go.AL.Seat
end
section
open Go Go.AL Go.Pd
namespace Go.AL.Seat
theorem x9  (l:List Shape)  :
  True/\decide ((0:Int)<=cK dC l (0:Nat))=!List.all l dC/\True:=by
 exact ⟨trivial,lg dC l 0,trivial⟩
theorem CI  (l:List Shape)  :
  True/\(!!List.all l dC)=List.all l dC/\True:=by
 exact ⟨trivial,Bool.not_not _,trivial⟩
end Go.AL.Seat
end
