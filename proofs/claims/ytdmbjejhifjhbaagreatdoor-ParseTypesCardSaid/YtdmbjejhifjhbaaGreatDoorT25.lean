/- What the functions' conditions say, proved. No condition. -/
import Derived.Test.YtdmbjejhifjhbaaGreatDoorT24
set_option linter.unusedVariables false
set_option linter.unusedSimpArgs false
set_option linter.unnecessarySimpa false
set_option linter.deprecated false
set_option linter.unusedSectionVars false
set_option maxRecDepth 100000
section
open Go Go.AL Go.Pd
namespace Go.AL.Seat
namespace C3t
def A0 (s:Str):=(↑(List.length s):Int)
def B0 (s:Str):=(fY s)
def C0 (x:Nat × Nat × List Tokn)(s:Str):=(x.2.1<=List.length s/\List.length x.2.2<=x.2.1/\List.length s<x.2.1+x.1/\fY s=fX s x.1 x.2.1 x.2.2)
def D0:=(0:Int)
def E0 (x:Nat × Nat × List Tokn):=(↑x.2.1:Int)
def H0:=false=false
def I0:=D0=D0/\D0=D0/\True
def J0 (x:Nat × Nat × List Tokn)(s:Str):=(List.drop (Int.toNat (E0 x)) (List.take (Int.toNat (A0 s)) s))
def K0 (x:Nat × Nat × List Tokn)(s:Str):=(bV (J0 x s))
def L0 (x:Nat × Nat × List Tokn)(s:Str):=[{kind:=(K0 x s).1.kind,text:=(K0 x s).1.text,pos:=(E0 x):Tokn}]
def M0 (s:Str):=[{kind:=D0,text:=[],pos:=(A0 s):Tokn}]
end C3t
open C3t in
theorem Gz (s:Str) (hs:Wf .str s) :
  if decide ((4096:Int)<(A0 s))=true then True/\(B0 s).1=[]/\(3:Int)=(B0 s).2.err/\(4096:Int)=(B0 s).2.pos/\True else (∃(x:Nat × Nat × List Tokn),(C0 x s)/\D0=(E0 x)/\x.2.2=[]/\s=s/\H0/\List.length x.2.2=(0:Nat)/\I0)/\∀(x:Nat × Nat × List Tokn),x.2.1<=List.length s/\List.length x.2.2<=x.2.1/\List.length s<x.2.1+x.1/\fY s=fX s x.1 x.2.1 x.2.2→if decide ((E0 x)<(A0 s))=true then (D0<=(E0 x)/\(E0 x)<=(A0 s)/\(A0 s)<=(A0 s))/\List.length (J0 x s)<=(4096:Nat)/\if (!decide ((bd (J0 x s)).2.err=D0))=true then inR IntKind.i64 ((E0 x)+(bd (J0 x s)).2.pos)/\True/\(B0 s).1=[]/\(bd (J0 x s)).2.err=(B0 s).2.err/\(E0 x)+(bd (J0 x s)).2.pos=(B0 s).2.pos/\True else if decide (D0<(bd (J0 x s)).1)=true then inR IntKind.i64 ((E0 x)+(bd (J0 x s)).1)/\∃(y:Nat × Nat × List Tokn),(C0 y s)/\y.1<x.1/\(E0 x)+(bd (J0 x s)).1=(E0 y)/\x.2.2=y.2.2/\s=s/\H0/\List.length x.2.2=List.length y.2.2/\I0 else (D0<=(E0 x)/\(E0 x)<=(A0 s)/\(A0 s)<=(A0 s))/\(List.length (J0 x s)<=(4096:Nat)/\(0:Nat)<List.length (J0 x s))/\if (!decide ((K0 x s).2.2.err=D0))=true then inR IntKind.i64 ((E0 x)+(K0 x s).2.2.pos)/\True/\(B0 s).1=[]/\(K0 x s).2.2.err=(B0 s).2.err/\(E0 x)+(K0 x s).2.2.pos=(B0 s).2.pos/\True else (List.length x.2.2=List.length x.2.2/\(List.length x.2.2+List.length (L0 x s))*(32:Nat)<=(140737488355328:Nat))/\inR IntKind.i64 ((E0 x)+(K0 x s).2.1)/\∃(y:Nat × Nat × List Tokn),(C0 y s)/\y.1<x.1/\(E0 x)+(K0 x s).2.1=(E0 y)/\x.2.2++(L0 x s)=y.2.2/\s=s/\H0/\List.length (x.2.2++(L0 x s))=List.length y.2.2/\I0 else (List.length x.2.2=List.length x.2.2/\(List.length x.2.2+List.length (M0 s))*(32:Nat)<=(140737488355328:Nat))/\True/\x.2.2++(M0 s)=(B0 s).1/\D0=(B0 s).2.err/\D0=(B0 s).2.pos/\True:=by
 delta M0 L0 K0 J0 I0 H0 E0 D0 C0 B0 A0
 refine a6 (fun h=>?_) (fun h=>?_)
 ·have h:=Xo h
  have e:fY s=([],⟨3,4096⟩):=by unfold fY;rw [if_pos (by omega)]
  rw [e]
  exact ⟨trivial,rfl,rfl,rfl,trivial⟩
 have ln:s.length<=4096:=by
  have:¬(4096:Int) < (s.length:Int):=fun e=>h (Xd e)
  omega
 have e:fY s=fX s (s.length+2) 0 []:=by unfold fY;rw [if_neg (by omega)]
 refine ⟨⟨(s.length+2,0,[]),⟨Nat.zero_le _,Nat.le_refl _,by show s.length < 0+(s.length+2);omega,e⟩,rfl,rfl,?_⟩,?_⟩
 ·exact Xr
 clear e h
 rintro ⟨f,a,out⟩ ⟨k1,k2,k3,k4⟩
 simp only [Int.toNat_natCast,List.take_length] at k1 k2 k3 k4 ⊢
 cases f with
 | zero=>omega
 | succ f=>
  have hR:fX s (f+1) a out=if a < s.length then
    if ¬(bd (s.drop a)).2.err=0 then ([],⟨(bd (s.drop a)).2.err,a+(bd (s.drop a)).2.pos⟩)
    else if 0 < (bd (s.drop a)).1 then fX s f (a+(bd (s.drop a)).1.toNat) out
    else if ¬(bV (s.drop a)).2.2.err=0 then ([],⟨(bV (s.drop a)).2.2.err,a+(bV (s.drop a)).2.2.pos⟩)
    else fX s f (a+(bV (s.drop a)).2.1.toNat) (out++[HU (bV (s.drop a)).1 a])
   else (out++[⟨0,[],(s.length:Int)⟩],⟨0,0⟩):=rfl
  rw [hR] at k4
  clear hR
  refine a6 (fun c=>?_) (fun c=>?_)
  ·have c:=Xo c
   rw [if_pos (by omega)] at k4
   have dl:(s.drop a).length=s.length - a:=List.length_drop
   obtain ⟨p1,p2,p3,p4⟩:=vm (s.drop a)
   obtain ⟨q1,q2,q3⟩:=Ah (s:=s.drop a) (by omega)
   rw [dl] at p2 p4 q1 q3 ⊢
   refine ⟨⟨by omega,by omega,by omega⟩,by omega,a6 (fun d=>?_) (fun d=>a6 (fun g=>?_) (fun g=>⟨⟨by omega,by omega,by omega⟩,⟨by omega,by omega⟩,a6 (fun m=>?_) (fun m=>?_)⟩))⟩
   ·have d:¬(bd (s.drop a)).2.err=0:=by simpa using d
    rw [if_pos d] at k4
    rw [k4]
    exact ⟨ak (by omega) (by omega),trivial,rfl,rfl,rfl,trivial⟩
   ·have d:(bd (s.drop a)).2.err=0:=by simpa using d
    have g:=Xo g
    rw [if_neg (fun e=>e d),if_pos g] at k4
    refine ⟨ak (by omega) (by omega),(f,a+(bd (s.drop a)).1.toNat,out),⟨by show a+(bd (s.drop a)).1.toNat<=s.length;omega,by show out.length<=a+(bd (s.drop a)).1.toNat;omega,by show s.length < a+(bd (s.drop a)).1.toNat+f;omega,k4⟩,by show f < f+1;omega,by show (a:Int)+(bd (s.drop a)).1=((a+(bd (s.drop a)).1.toNat:Nat):Int);omega,rfl,?_⟩
    exact Xr
   ·have d:(bd (s.drop a)).2.err=0:=by simpa using d
    have m:¬(bV (s.drop a)).2.2.err=0:=by simpa using m
    rw [if_neg (fun e=>e d),if_neg (fun e=>g (Xd e)),if_pos m] at k4
    rw [k4]
    exact ⟨ak (by omega) (by omega),trivial,rfl,rfl,rfl,trivial⟩
   ·have d:(bd (s.drop a)).2.err=0:=by simpa using d
    have m:(bV (s.drop a)).2.2.err=0:=by simpa using m
    have q1:=q1 m
    rw [if_neg (fun e=>e d),if_neg (fun e=>g (Xd e)),if_neg (fun e=>e m)] at k4
    refine ⟨⟨trivial,by show (out.length+1) *32<=_;omega⟩,ak (by omega) (by omega),(f,a+(bV (s.drop a)).2.1.toNat,out++[HU (bV (s.drop a)).1 a]),⟨by show a+(bV (s.drop a)).2.1.toNat<=s.length;omega,by show (out++[HU (bV (s.drop a)).1 a]).length<=a+(bV (s.drop a)).2.1.toNat;rw [List.length_append];show out.length+1<=_;omega,by show s.length < a+(bV (s.drop a)).2.1.toNat+f;omega,k4⟩,by show f < f+1;omega,by show (a:Int)+(bV (s.drop a)).2.1=((a+(bV (s.drop a)).2.1.toNat:Nat):Int);omega,rfl,?_⟩
    exact Xr
  ·have c:¬(a:Int) < (s.length:Int):=fun e=>c (Xd e)
   rw [if_neg (by omega)] at k4
   rw [k4]
   exact ⟨⟨trivial,by show (out.length+1) *32<=_;omega⟩,trivial,rfl,rfl,rfl,trivial⟩
end Go.AL.Seat
end
section
open Go Go.AL Go.Pd
namespace Go.AL.Seat
namespace C3u
def A0 (l:List Tokn):=(↑(List.length l):Int)
def B0:=(0:Int)
end C3u
open C3u in
theorem GA (l:List Tokn) (a:Int) (hl:Wf (.lst (.st .token)) l) (ho:0<=a) :
  if decide (a<(A0 l))=true then (B0<=a/\a<(A0 l))/\True/\List.getD l (Int.toNat a) (dfl (Ty.st SN.token))=bB l a/\True else if decide ((A0 l)=B0)=true then True/\B0=(bB l a).kind/\[]=(bB l a).text/\B0=(bB l a).pos/\True else inR IntKind.i64 ((A0 l) - (1:Int))/\(B0<=(A0 l) - (1:Int)/\(A0 l) - (1:Int)<(A0 l))/\True/\B0=(bB l a).kind/\[]=(bB l a).text/\(List.getD l (Int.toNat ((A0 l) - (1:Int))) (dfl (Ty.st SN.token))).pos=(bB l a).pos/\True:=by
 delta B0 A0
 have ln:=hl.len
 unfold bB
 refine a6 (fun h=>?_) (fun h=>?_)
 ·have h:=Xo h
  rw [if_pos h]
  refine ⟨⟨by omega,by omega⟩,?_⟩
  exact Xr
 ·have h:¬a < (l.length:Int):=fun e=>h (Xd e)
  rw [if_neg h]
  refine a6 (fun k=>?_) (fun k=>?_)
  ·have k:=Xo k
   rw [if_pos (by omega)]
   exact Xr
  ·have k:¬(l.length:Int)=0:=fun e=>k (Xd e)
   rw [if_neg (by omega)]
   refine ⟨ak (by omega) (by omega),⟨by omega,by omega⟩,?_⟩
   exact Xr
end Go.AL.Seat
end
section
open Go Go.AL Go.Pd
namespace Go.AL.Seat
theorem GB (l:List Tokn) (a:Int) (t:Str) (ho:0<=a) :
  (0:Int)<=a/\if decide ((bB l a).text=t)=true then if decide ((bB l a).kind=(6:Int))=true then True/\true=cb l a t/\True else True/\decide ((bB l a).kind=(5:Int))=cb l a t/\True else True/\false=cb l a t/\True:=by
 refine ⟨ho,?_⟩
 unfold cb
 by_cases a1:(bB l a).text=t <;> by_cases b:(bB l a).kind=6 <;> by_cases c:(bB l a).kind=5 <;> simp [a1,b,c]
theorem GC (l:List Tokn) (a:Int) (ho:0<=a) :
  (0:Int)<=a/\True/\(90:Int)=(90:Int)/\(bB l a).pos=(jh l a).pos/\True:=by
 refine ⟨ho,?_⟩
 exact Xr
theorem GD (l:List Tokn) (a:Int) (t:Str) (hl:Wf (.lst (.st .token)) l) (ho:0<=a) :
  (0:Int)<=a/\if (!cb l a t)=true then (0:Int)<=a/\True/\a=(aE l a t).1/\jh l a=(aE l a t).2/\True else inR IntKind.i64 (a+(1:Int))/\True/\a+(1:Int)=(aE l a t).1/\(0:Int)=(aE l a t).2.err/\(0:Int)=(aE l a t).2.pos/\True:=by
 have ln:=hl.len
 refine ⟨ho,a6 (fun h=>?_) (fun h=>?_)⟩
 ·have h:¬cb l a t=true:=by simpa using h
  unfold aE
  rw [if_neg h]
  refine ⟨ho,?_⟩
  exact Xr
 ·have h:cb l a t=true:=by simpa using h
  have:=ir h
  unfold aE
  rw [if_pos h]
  refine ⟨ak (by omega) (by omega),?_⟩
  exact Xr
theorem GE (l:List Tokn) (a k:Int) (hl:Wf (.lst (.st .token)) l) (ho:0<=a/\¬k=0) :
  (0:Int)<=a/\if (!decide ((bB l a).kind=k))=true then (0:Int)<=a/\True/\[]=(bQ l a k).1/\a=(bQ l a k).2.1/\jh l a=(bQ l a k).2.2/\True else inR IntKind.i64 (a+(1:Int))/\True/\(bB l a).text=(bQ l a k).1/\a+(1:Int)=(bQ l a k).2.1/\(0:Int)=(bQ l a k).2.2.err/\(0:Int)=(bQ l a k).2.2.pos/\True:=by
 have ln:=hl.len
 obtain ⟨ho,hk⟩:=ho
 refine ⟨ho,a6 (fun h=>?_) (fun h=>?_)⟩
 ·have h:¬(bB l a).kind=k:=by simpa using h
  unfold bQ
  rw [if_neg h]
  refine ⟨ho,?_⟩
  exact Xr
 ·have h:(bB l a).kind=k:=by simpa using h
  have:=f7 (l:=l) (a:=a) (by omega)
  unfold bQ
  rw [if_pos h]
  refine ⟨ak (by omega) (by omega),?_⟩
  exact Xr
end Go.AL.Seat
end
section
open Go Go.AL Go.Pd
namespace Go.AL.Seat
namespace C3z
def A0:=(0:Int)
def B0 (x:Nat):=(↑x:Int)
def C0:=dO UInt8=dO UInt8
def D0 (l:List Tokn)(a:Int):=(bQ l a (1:Int))
def E0 (l:List Tokn)(a:Int):=(D0 l a).2.1=(D0 l a).2.1
def H0:=A0=A0/\A0=A0/\True
def I0 (l:List Tokn)(a:Int)(ns:List Str)(x:Nat):=True/\(D0 l a).1=(aG l a ns).1/\(D0 l a).2.1=(aG l a ns).2.1/\frF l a ns x=(aG l a ns).2.2/\True
end C3z
open C3z in
theorem DL (l:List Tokn) (a:Int) (ns:List Str) (hn:Wf (.lst .str) ns) (ho:0<=a) :
  (A0<=a/\¬(1:Int)=A0)/\(∃(x:Nat),x<=List.length ns/\A0=(B0 x)/\l=l/\a=a/\ns=ns/\C0/\A0=A0/\(D0 l a).1=(D0 l a).1/\(E0 l a)/\(D0 l a).2.2=frF l a ns x/\H0)/\∀(x:Nat),x<=List.length ns→if decide ((B0 x)<(↑(List.length ns):Int))=true then if decide ((frF l a ns x).err=A0)=true then (A0<=(B0 x)/\(B0 x)<(↑(List.length ns):Int))/\if decide (List.getD ns (Int.toNat (B0 x)) (dfl Ty.str)=(D0 l a).1)=true then A0<=a/\inR IntKind.i64 ((B0 x)+(1:Int))/\∃(y:Nat),y<=List.length ns/\List.length ns - y<List.length ns - x/\(B0 x)+(1:Int)=(B0 y)/\l=l/\a=a/\ns=ns/\C0/\A0=A0/\(D0 l a).1=(D0 l a).1/\(E0 l a)/\(111:Int)=(frF l a ns y).err/\(bB l a).pos=(frF l a ns y).pos/\H0 else inR IntKind.i64 ((B0 x)+(1:Int))/\∃(y:Nat),y<=List.length ns/\List.length ns - y<List.length ns - x/\(B0 x)+(1:Int)=(B0 y)/\l=l/\a=a/\ns=ns/\C0/\A0=A0/\(D0 l a).1=(D0 l a).1/\(E0 l a)/\frF l a ns x=frF l a ns y/\H0 else (I0 l a ns x) else (I0 l a ns x):=by
 delta I0 H0 E0 D0 C0 B0 A0
 have ln:=hn.len
 refine ⟨⟨ho,by decide⟩,⟨0,Nat.zero_le _,rfl,?_⟩,?_⟩
 ·rw [Gk]
  exact Xr
 rintro k hk
 refine a6 (fun h=>?_) (fun h=>?_)
 ·have h:k < ns.length:=by have:=Xo h;omega
  refine a6 (fun e=>?_) (fun e=>?_)
  ·have e:=Xo e
   refine ⟨⟨by omega,by omega⟩,a6 (fun m=>?_) (fun m=>?_)⟩
   ·have m:=Xo m
    have hh:=I4 e h m
    refine ⟨ho,bN h ln,k+1,h,by omega,by omega,?_⟩
    rw [hh]
    exact Xr
   ·have m:¬ns.getD k []=(bQ l a 1).1:=fun q=>m (Xd q)
    have hh:=Gm e h m
    refine ⟨bN h ln,k+1,h,by omega,by omega,?_⟩
    rw [←hh]
    exact Xr
  ·rw [I6 (fun q=>e (Xd q))]
   exact Xr
 ·have h:k=ns.length:=by
   have:¬((k:Int) < (ns.length:Int)):=fun q=>h (Xd q)
   omega
  rw [h,I5]
  exact Xr
end Go.AL.Seat
end
section
open Go Go.AL Go.Pd
namespace Go.AL.Seat
namespace C40
def A0:=([66,111,111,108]:Str)
def B0:=([84,101,120,116]:Str)
def C0 (x:Nat)(p:Str)(m:Str):=((1:Nat)<=x/\x<=(5:Nat)/\((1:Nat)<x→¬(p=[]/\m=([73,110,116]:Str)))/\((2:Nat)<x→¬(p=[]/\m=A0))/\((3:Nat)<x→¬(p=[]/\m=B0))/\((4:Nat)<x→¬(p=[]/\m=([65,110,121]:Str))))
def D0 (x:Nat):=(↑x:Int)
def E0:=[[],([73,110,116]:Str),A0,B0,([65,110,121]:Str)]
def H0 (p:Str)(m:Str):=p=p/\m=m/\E0=E0/\(0:Int)=(0:Int)/\dO UInt8=dO UInt8/\dO UInt8=dO UInt8/\List.length E0=List.length E0/\True
def I0 (p:Str)(m:Str):=(co p m).names=[]/\(co p m).parts=[]/\True
def J0 (x:Nat)(p:Str)(m:Str):=inR IntKind.i64 ((D0 x)+(1:Int))/\∃(y:Nat),(C0 y p m)/\(5:Nat) - y<(5:Nat) - x/\(D0 x)+(1:Int)=(D0 y)/\(H0 p m)
end C40
open C40 in
theorem Ay (p m:Str)  :
  (∃(x:Nat),(C0 x p m)/\(1:Int)=(D0 x)/\(H0 p m))/\∀(x:Nat),(1:Nat)<=x/\x<=(5:Nat)/\((1:Nat)<x→¬(p=[]/\m=([73,110,116]:Str)))/\((2:Nat)<x→¬(p=[]/\m=A0))/\((3:Nat)<x→¬(p=[]/\m=B0))/\((4:Nat)<x→¬(p=[]/\m=([65,110,121]:Str)))→if decide ((D0 x)<=(4:Int))=true then if decide (p=[])=true then ((0:Int)<=(D0 x)/\(D0 x)<(↑(List.length E0):Int))/\if decide (m=List.getD E0 (Int.toNat (D0 x)) (dfl Ty.str))=true then True/\(D0 x)=(co p m).kind/\[]=(co p m).pkg/\[]=(co p m).name/\(I0 p m) else (J0 x p m) else (J0 x p m) else True/\(9:Int)=(co p m).kind/\p=(co p m).pkg/\m=(co p m).name/\(I0 p m):=by
 delta J0 I0 H0 E0 D0 C0 B0 A0
 refine ⟨⟨1,⟨Nat.le_refl _,by omega,fun h=>by omega,fun h=>by omega,fun h=>by omega,fun h=>by omega⟩,?_⟩,?_⟩
 ·exact Xr
 rintro x ⟨h1,h2,h3,h4,h5,h6⟩
 refine a6 (fun h=>?_) (fun h=>?_)
 ·have h:(x:Int)<=4:=Xo h
  have hx:x=1∨x=2∨x=3∨x=4:=by omega
  refine a6 (fun hp=>?_) (fun hp=>?_)
  ·have hp:=Xo hp
   refine ⟨⟨by omega,by show (x:Int) < 5;omega⟩,a6 (fun hm=>?_) (fun hm=>?_)⟩
   ·have hm:=Xo hm
    subst hp
    rcases hx with rfl | rfl | rfl | rfl
    all_goals (have hm':m=_:=hm;simp only [Int.toNat_natCast,List.getD_cons_succ,List.getD_cons_zero] at hm';subst hm')
    all_goals (unfold co;simp)
   ·have hm:=fun q=>hm (Xd q)
    refine ⟨ak (by omega) (by omega),x+1,⟨by omega,by omega,fun q=>?_,fun q=>?_,fun q=>?_,fun q=>?_⟩,by omega,by omega,?_⟩
    ·by_cases k:1 < x
     ·exact h3 k
     ·obtain rfl:x=1:=by omega
      exact fun w=>hm w.2
    ·by_cases k:2 < x
     ·exact h4 k
     ·obtain rfl:x=2:=by omega
      exact fun w=>hm w.2
    ·by_cases k:3 < x
     ·exact h5 k
     ·obtain rfl:x=3:=by omega
      exact fun w=>hm w.2
    ·by_cases k:4 < x
     ·exact h6 k
     ·obtain rfl:x=4:=by omega
      exact fun w=>hm w.2
    ·exact Xr
  ·have hp:¬p=[]:=fun q=>hp (Xd q)
   refine ⟨ak (by omega) (by omega),x+1,⟨by omega,by omega,fun _ q=>hp q.1,fun _ q=>hp q.1,fun _ q=>hp q.1,fun _ q=>hp q.1⟩,by omega,by omega,?_⟩
   exact Xr
 ·have h:¬(x:Int)<=4:=fun q=>h (Xd q)
  unfold co
  by_cases hp:p=[]
  ·have a1:¬m=_:=fun q=>h3 (by omega) ⟨hp,q⟩
   have a2:¬m=_:=fun q=>h4 (by omega) ⟨hp,q⟩
   have a3:¬m=_:=fun q=>h5 (by omega) ⟨hp,q⟩
   have a4:¬m=_:=fun q=>h6 (by omega) ⟨hp,q⟩
   simp [a1,a2,a3,a4]
  ·simp [hp]
end Go.AL.Seat
end
section
open Go Go.AL Go.Pd
namespace Go.AL.Seat
namespace C41
def A0 (l:List Tokn)(a:Int):=(0:Int)=(eo l a).2.pos/\True
def B0 (l:List Tokn)(a:Int):=True/\(0:Int)=(eo l a).1/\(2:Int)=(eo l a).2.err/\(A0 l a)
end C41
open C41 in
theorem DM (l:List Tokn) (a:Int) (hl:Wf (.lst (.st .token)) l) :
  if decide (a<(0:Int))=true then (B0 l a) else if decide ((↑(List.length l):Int)<a)=true then (B0 l a) else if decide ((4097:Int)<(↑(List.length l):Int))=true then True/\(0:Int)=(eo l a).1/\(3:Int)=(eo l a).2.err/\(A0 l a) else True/\a=(eo l a).1/\(0:Int)=(eo l a).2.err/\(A0 l a):=by
 delta B0 A0
 have ln:=hl.len
 unfold eo
 refine a6 (fun h=>?_) (fun h=>?_)
 ·have h:=Xo h
  rw [if_pos (.inl h)]
  exact Xr
 have h:¬a < 0:=fun q=>h (Xd q)
 refine a6 (fun k=>?_) (fun k=>?_)
 ·have k:=Xo k
  rw [if_pos (.inr k)]
  exact Xr
 have k:¬(l.length:Int) < a:=fun q=>k (Xd q)
 have e:¬(a < 0∨(l.length:Int) < a):=fun q=>q.elim h k
 rw [if_neg e]
 refine a6 (fun d=>?_) (fun d=>?_)
 ·have d:=Xo d
  rw [if_pos (by omega)]
  exact Xr
 ·have d:¬(4097:Int) < (l.length:Int):=fun q=>d (Xd q)
  rw [if_neg (by omega)]
  exact Xr
end Go.AL.Seat
end
section
open Go Go.AL Go.Pd
namespace Go.AL.Seat
namespace C42
def A0:=(0:Int)
def B0 (l:List Tokn):=(↑(List.length l):Int)
def C0 (x:Nat × Nat × Int × Shape)(a:Int)(k:Int):=(x.2.1=(0:Nat)→x.2.2.1=a/\x.2.2.2={kind:=k,pkg:=[],name:=[],names:=[],parts:=[]:Shape})
def D0 (x:Nat × Nat × Int × Shape)(l:List Tokn)(n:Nat)(btw:Str)(en:Str)(k:Int)(a:Int):=((0:Nat)<x.2.1→cN l (bW l (ai l n)) btw en x.1 x.2.2.2 x.2.2.1=cy l (bW l (ai l n)) btw en {kind:=k,pkg:=[],name:=[],names:=[],parts:=[]:Shape} a)
def E0 (x:Nat × Nat × Int × Shape)(l:List Tokn)(n:Nat)(a:Int)(k:Int)(btw:Str)(en:Str):=(A0<=x.2.2.1/\x.2.2.1<=(B0 l)/\Int.toNat ((B0 l) - x.2.2.1)+(1:Nat)<n+(1:Nat)/\(B0 l) - x.2.2.1<(↑x.1:Int)/\x.2.1+x.1=List.length l+(2:Nat)/\List.length x.2.2.2.names=x.2.1/\List.length x.2.2.2.parts=x.2.1/\(C0 x a k)/\(D0 x l n btw en k a))
def H0:=True
def I0:=A0=A0/\dO UInt8=dO UInt8/\dO UInt8=dO UInt8/\A0=A0/\A0=A0/\H0
def J0 (l:List Tokn)(x:Nat × Nat × Int × Shape):=(aG l x.2.2.1 x.2.2.2.names)
def K0 (l:List Tokn)(x:Nat × Nat × Int × Shape):=(aE l (J0 l x).2.1 ([58]:Str))
def L0 (l:List Tokn)(n:Nat)(a:Int)(k:Int)(btw:Str)(en:Str):=(dR l (ai l n) a k btw en)
def M0 (x:Nat × Nat × Int × Shape)(l:List Tokn)(n:Nat)(a:Int)(k:Int)(btw:Str)(en:Str):=x.2.2.2.kind=(L0 l n a k btw en).1.kind
def N0 (x:Nat × Nat × Int × Shape)(l:List Tokn)(n:Nat)(a:Int)(k:Int)(btw:Str)(en:Str):=x.2.2.2.pkg=(L0 l n a k btw en).1.pkg
def O0 (x:Nat × Nat × Int × Shape)(l:List Tokn)(n:Nat)(a:Int)(k:Int)(btw:Str)(en:Str):=x.2.2.2.name=(L0 l n a k btw en).1.name
def P0 (l:List Tokn)(n:Nat)(x:Nat × Nat × Int × Shape):=(ai l n (K0 l x).1)
def Q0:=(140737488355328:Nat)
def R0 (x:Nat × Nat × Int × Shape)(l:List Tokn):=(List.length x.2.2.2.names=List.length x.2.2.2.names/\(List.length x.2.2.2.names+List.length [(J0 l x).1])*(16:Nat)<=Q0)
def S0 (x:Nat × Nat × Int × Shape):=List.length x.2.2.2.parts=List.length x.2.2.2.parts
def T0:=(1:Int)
def U0 (x:Nat × Nat × Int × Shape)(l:List Tokn)(n:Nat)(a:Int)(k:Int)(btw:Str)(en:Str):=x.2.2.2.names++[(J0 l x).1]=(L0 l n a k btw en).1.names
def V0 (l:List Tokn)(n:Nat)(a:Int)(k:Int)(btw:Str)(en:Str):=A0=(L0 l n a k btw en).2.2.err/\A0=(L0 l n a k btw en).2.2.pos/\H0
def W0 (l:List Tokn)(n:Nat)(x:Nat × Nat × Int × Shape):=(ai l n (J0 l x).2.1)
def X0 (x:Nat × Nat × Int × Shape)(l:List Tokn)(n:Nat)(a:Int)(k:Int)(btw:Str)(en:Str):=A0<=x.2.2.1/\if decide ((J0 l x).2.2.err=A0)=true then A0<=(J0 l x).2.1/\if (!decide ((K0 l x).2.err=A0))=true then H0/\(M0 x l n a k btw en)/\(N0 x l n a k btw en)/\(O0 x l n a k btw en)/\x.2.2.2.names=(L0 l n a k btw en).1.names/\x.2.2.2.parts=(L0 l n a k btw en).1.parts/\(K0 l x).1=(L0 l n a k btw en).2.1/\(K0 l x).2=(L0 l n a k btw en).2.2/\H0 else (List.length l<=(4097:Nat)/\dr l/\A0<=(K0 l x).1/\(K0 l x).1<=(B0 l)/\Int.toNat ((B0 l) - (K0 l x).1)+(1:Nat)<n)/\if (!decide ((P0 l n x).2.2.err=A0))=true then H0/\(M0 x l n a k btw en)/\(N0 x l n a k btw en)/\(O0 x l n a k btw en)/\x.2.2.2.names=(L0 l n a k btw en).1.names/\x.2.2.2.parts=(L0 l n a k btw en).1.parts/\(P0 l n x).2.1=(L0 l n a k btw en).2.1/\(P0 l n x).2.2=(L0 l n a k btw en).2.2/\H0 else (R0 x l)/\((S0 x)/\(List.length x.2.2.2.parts+List.length [(P0 l n x).1])*(88:Nat)<=Q0)/\A0<=(P0 l n x).2.1/\if cb l (P0 l n x).2.1 en=true then inR IntKind.i64 ((P0 l n x).2.1+T0)/\H0/\(M0 x l n a k btw en)/\(N0 x l n a k btw en)/\(O0 x l n a k btw en)/\(U0 x l n a k btw en)/\x.2.2.2.parts++[(P0 l n x).1]=(L0 l n a k btw en).1.parts/\(P0 l n x).2.1+T0=(L0 l n a k btw en).2.1/\(V0 l n a k btw en) else A0<=(P0 l n x).2.1/\if (!decide ((aE l (P0 l n x).2.1 btw).2.err=A0))=true then H0/\(M0 x l n a k btw en)/\(N0 x l n a k btw en)/\(O0 x l n a k btw en)/\(U0 x l n a k btw en)/\x.2.2.2.parts++[(P0 l n x).1]=(L0 l n a k btw en).1.parts/\(aE l (P0 l n x).2.1 btw).1=(L0 l n a k btw en).2.1/\(aE l (P0 l n x).2.1 btw).2=(L0 l n a k btw en).2.2/\H0 else inR IntKind.i64 ((↑x.2.1:Int)+T0)/\∃(y:Nat × Nat × Int × Shape),(E0 y l n a k btw en)/\y.1<x.1/\(aE l (P0 l n x).2.1 btw).1=y.2.2.1/\(↑x.2.1:Int)+T0=(↑y.2.1:Int)/\l=l/\k=k/\btw=btw/\en=en/\x.2.2.2.kind=y.2.2.2.kind/\x.2.2.2.pkg=y.2.2.2.pkg/\x.2.2.2.name=y.2.2.2.name/\x.2.2.2.names++[(J0 l x).1]=y.2.2.2.names/\x.2.2.2.parts++[(P0 l n x).1]=y.2.2.2.parts/\List.length (x.2.2.2.names++[(J0 l x).1])=List.length y.2.2.2.names/\List.length (x.2.2.2.parts++[(P0 l n x).1])=List.length y.2.2.2.parts/\I0 else if (!decide ((J0 l x).2.2.err=A0))=true then H0/\(M0 x l n a k btw en)/\(N0 x l n a k btw en)/\(O0 x l n a k btw en)/\x.2.2.2.names=(L0 l n a k btw en).1.names/\x.2.2.2.parts=(L0 l n a k btw en).1.parts/\(J0 l x).2.1=(L0 l n a k btw en).2.1/\(J0 l x).2.2=(L0 l n a k btw en).2.2/\H0 else (List.length l<=(4097:Nat)/\dr l/\A0<=(J0 l x).2.1/\(J0 l x).2.1<=(B0 l)/\Int.toNat ((B0 l) - (J0 l x).2.1)+(1:Nat)<n)/\if (!decide ((W0 l n x).2.2.err=A0))=true then H0/\(M0 x l n a k btw en)/\(N0 x l n a k btw en)/\(O0 x l n a k btw en)/\x.2.2.2.names=(L0 l n a k btw en).1.names/\x.2.2.2.parts=(L0 l n a k btw en).1.parts/\(W0 l n x).2.1=(L0 l n a k btw en).2.1/\(W0 l n x).2.2=(L0 l n a k btw en).2.2/\H0 else (R0 x l)/\((S0 x)/\(List.length x.2.2.2.parts+List.length [(W0 l n x).1])*(88:Nat)<=Q0)/\A0<=(W0 l n x).2.1/\if cb l (W0 l n x).2.1 en=true then inR IntKind.i64 ((W0 l n x).2.1+T0)/\H0/\(M0 x l n a k btw en)/\(N0 x l n a k btw en)/\(O0 x l n a k btw en)/\(U0 x l n a k btw en)/\x.2.2.2.parts++[(W0 l n x).1]=(L0 l n a k btw en).1.parts/\(W0 l n x).2.1+T0=(L0 l n a k btw en).2.1/\(V0 l n a k btw en) else A0<=(W0 l n x).2.1/\if (!decide ((aE l (W0 l n x).2.1 btw).2.err=A0))=true then H0/\(M0 x l n a k btw en)/\(N0 x l n a k btw en)/\(O0 x l n a k btw en)/\(U0 x l n a k btw en)/\x.2.2.2.parts++[(W0 l n x).1]=(L0 l n a k btw en).1.parts/\(aE l (W0 l n x).2.1 btw).1=(L0 l n a k btw en).2.1/\(aE l (W0 l n x).2.1 btw).2=(L0 l n a k btw en).2.2/\H0 else inR IntKind.i64 ((↑x.2.1:Int)+T0)/\∃(y:Nat × Nat × Int × Shape),(E0 y l n a k btw en)/\y.1<x.1/\(aE l (W0 l n x).2.1 btw).1=y.2.2.1/\(↑x.2.1:Int)+T0=(↑y.2.1:Int)/\l=l/\k=k/\btw=btw/\en=en/\x.2.2.2.kind=y.2.2.2.kind/\x.2.2.2.pkg=y.2.2.2.pkg/\x.2.2.2.name=y.2.2.2.name/\x.2.2.2.names++[(J0 l x).1]=y.2.2.2.names/\x.2.2.2.parts++[(W0 l n x).1]=y.2.2.2.parts/\List.length (x.2.2.2.names++[(J0 l x).1])=List.length y.2.2.2.names/\List.length (x.2.2.2.parts++[(W0 l n x).1])=List.length y.2.2.2.parts/\I0
end C42
open C42 in
theorem xW (n:Nat) (l:List Tokn) (a k:Int) (btw en:Str) (ho:l.length<=4097/\dr l/\0<=a/\a<=(l.length:Int)/\((l.length:Int) - a).toNat+1 < n+1) :
  (∃(x:Nat × Nat × Int × Shape),(E0 x l n a k btw en)/\a=x.2.2.1/\A0=(↑x.2.1:Int)/\l=l/\k=k/\btw=btw/\en=en/\k=x.2.2.2.kind/\[]=x.2.2.2.pkg/\[]=x.2.2.2.name/\x.2.2.2.names=[]/\x.2.2.2.parts=[]/\List.length x.2.2.2.names=(0:Nat)/\List.length x.2.2.2.parts=(0:Nat)/\I0)/\∀(x:Nat × Nat × Int × Shape),A0<=x.2.2.1/\x.2.2.1<=(B0 l)/\Int.toNat ((B0 l) - x.2.2.1)+(1:Nat)<n+(1:Nat)/\(B0 l) - x.2.2.1<(↑x.1:Int)/\x.2.1+x.1=List.length l+(2:Nat)/\List.length x.2.2.2.names=x.2.1/\List.length x.2.2.2.parts=x.2.1/\(C0 x a k)/\(D0 x l n btw en k a)→A0<=x.2.2.1/\if (!cb l x.2.2.1 en)=true then (X0 x l n a k btw en) else if decide (A0<(↑x.2.1:Int))=true then (X0 x l n a k btw en) else inR IntKind.i64 (x.2.2.1+T0)/\H0/\(M0 x l n a k btw en)/\(N0 x l n a k btw en)/\(O0 x l n a k btw en)/\x.2.2.2.names=(L0 l n a k btw en).1.names/\x.2.2.2.parts=(L0 l n a k btw en).1.parts/\x.2.2.1+T0=(L0 l n a k btw en).2.1/\(V0 l n a k btw en):=by
 delta X0 W0 V0 U0 T0 S0 R0 Q0 P0 O0 N0 M0 L0 K0 J0 I0 H0 E0 D0 C0 B0 A0
 obtain ⟨g1,g2,h0,h1,hn⟩:=ho
 have hG:dR l (ai l n) a k btw en=hU (cy l (bW l (ai l n)) btw en ⟨k,[],[],[],[]⟩ a):=rfl
 have hY:=Gn (l:=l) (r:=bW l (ai l n)) (btw:=btw) (en:=en) (x:=⟨k,[],[],[],[]⟩) (a:=a)
 have hN:=Iv (l:=l) (r:=bW l (ai l n)) (btw:=btw) (en:=en) (x:=⟨k,[],[],[],[]⟩) (a:=a)
 generalize cy l (bW l (ai l n)) btw en ⟨k,[],[],[],[]⟩ a=R0 at hG hY hN ⊢
 generalize dR l (ai l n) a k btw en=G at hG ⊢
 refine ⟨⟨(l.length+2,0,a,⟨k,[],[],[],[]⟩),⟨h0,h1,hn,by show (l.length:Int) - a < ((l.length+2:Nat):Int);omega,by show 0+(l.length+2)=_;omega,rfl,rfl,fun _=>⟨rfl,rfl⟩,fun h=>absurd h (Nat.lt_irrefl 0)⟩,?_⟩,?_⟩
 ·exact Xr
 rintro ⟨j,m,A,X⟩ ⟨i1,i2,i3,i4,i5,i6,i7,i8,i9⟩
 simp only at i1 i2 i3 i4 i5 i6 i7 i8 i9 ⊢
 refine ⟨i1,a6 (fun s=>?_) (fun s=>?_)⟩
 ·have s:¬cb l A en=true:=by simpa using s
  have hb:cN l (bW l (ai l n)) btw en j X A=R0:=by
   by_cases hm:m=0
   ·obtain ⟨rfl,rfl⟩:=i8 hm
    subst hm
    rw [hN s,show j=l.length+2 by omega]
   ·exact i9 (by omega)
  obtain ⟨j,rfl⟩:∃q,j=q+1:=⟨j - 1,by omega⟩
  refine ⟨i1,a6 (fun f1=>?_) (fun f1=>?_)⟩
  ·have f1:=Xo f1
   obtain ⟨p1,p2⟩:=xT A X.names f1
   refine ⟨by omega,a6 (fun d1=>?_) (fun d1=>?_)⟩
   ·have d1:¬(aE l (aG l A X.names).2.1 [58]).2.err=0:=by simpa using d1
    have e1:=rn_2 (R:=ai l n) f1 d1
    rw [mP (by rw [e1];exact d1),e1] at hb
    rw [g9 (b:=R0) (by rw [←hb];exact d1)] at hG
    subst hb
    subst hG
    exact Xr
   have d1:(aE l (aG l A X.names).2.1 [58]).2.err=0:=by simpa using d1
   obtain ⟨q1,q2⟩:=gF d1
   have hr:((l.length:Int) - (aE l (aG l A X.names).2.1 [58]).1).toNat+1 < n:=by omega
   refine ⟨⟨g1,g2,by omega,by omega,hr⟩,a6 (fun d2=>?_) (fun d2=>?_)⟩
   ·have d2:¬(ai l n (aE l (aG l A X.names).2.1 [58]).1).2.2.err=0:=by simpa using d2
    have e1:=rn_3 f1 d1 d2
    rw [mP (by rw [e1];exact d2),e1] at hb
    rw [g9 (b:=R0) (by rw [←hb];exact d2)] at hG
    subst hb
    subst hG
    exact Xr
   have d2:(ai l n (aE l (aG l A X.names).2.1 [58]).1).2.2.err=0:=by simpa using d2
   obtain ⟨s1,s2⟩:=nL g1 g2 n _ (by omega) (by omega) hr d2
   have e1:=rn_4 f1 d1 d2
   refine ⟨⟨by trivial,by simp only [List.length_singleton];omega⟩,⟨by trivial,by simp only [List.length_singleton];omega⟩,by omega,a6 (fun c=>?_) (fun c=>?_)⟩
   ·rw [As (by rw [e1]) (by rw [e1];exact c),e1] at hb
    rw [pQ (b:=R0) (by rw [←hb])] at hG
    subst hb
    subst hG
    refine ⟨ak (by omega) (by omega),?_⟩
    exact Xr
   refine ⟨by omega,a6 (fun d3=>?_) (fun d3=>?_)⟩
   ·have d3:¬(aE l (ai l n (aE l (aG l A X.names).2.1 [58]).1).2.1 btw).2.err=0:=by simpa using d3
    rw [vv (by rw [e1]) (by rw [e1];exact c) (by rw [e1];exact d3),e1] at hb
    rw [g9 (b:=R0) (by rw [←hb];exact d3)] at hG
    subst hb
    subst hG
    exact Xr
   have d3:(aE l (ai l n (aE l (aG l A X.names).2.1 [58]).1).2.1 btw).2.err=0:=by simpa using d3
   obtain ⟨w1,w2⟩:=gF d3
   rw [vw (by rw [e1]) (by rw [e1];exact c) (by rw [e1];exact d3),e1] at hb
   refine ⟨ak (by omega) (by omega),(j,m+1,(aE l (ai l n (aE l (aG l A X.names).2.1 [58]).1).2.1 btw).1,⟨X.kind,X.pkg,X.name,X.names++[(aG l A X.names).1],X.parts++[(ai l n (aE l (aG l A X.names).2.1 [58]).1).1]⟩),⟨by show 0<=(aE l _ _).1;omega,by show (aE l _ _).1<=_;omega,by show ((l.length:Int) - (aE l _ _).1).toNat+1 < n+1;omega,by show (l.length:Int) - (aE l _ _).1 < (j:Int);omega,by show m+1+j=_;omega,by show (X.names++[_]).length=_;rw [List.length_append,i6];rfl,by show (X.parts++[_]).length=_;rw [List.length_append,i7];rfl,fun q=>absurd q (Nat.succ_ne_zero m),fun _=>hb⟩,by show j < j+1;omega,rfl,by show (m:Int)+1=((m+1:Nat):Int);omega,?_⟩
   exact Xr
  ·have f1:¬(aG l A X.names).2.2.err=0:=fun q=>f1 (Xd q)
   refine a6 (fun d1=>?_) (fun d1=>?_)
   ·have e1:=rn_1 (R:=ai l n) f1
    rw [mP (by rw [e1];exact f1),e1] at hb
    rw [g9 (b:=R0) (by rw [←hb];exact f1)] at hG
    subst hb
    subst hG
    exact Xr
   ·exact absurd (by simpa using d1) f1
 ·have s:cb l A en=true:=by simpa using s
  refine a6 (fun hm=>?_) (fun hm=>?_)
  ·have hm:=Xo hm
   have hb:=i9 (by omega)
   obtain ⟨j,rfl⟩:∃q,j=q+1:=⟨j - 1,by omega⟩
   refine ⟨i1,a6 (fun f1=>?_) (fun f1=>?_)⟩
   ·have f1:=Xo f1
    obtain ⟨p1,p2⟩:=xT A X.names f1
    refine ⟨by omega,a6 (fun d1=>?_) (fun d1=>?_)⟩
    ·have d1:¬(aE l (aG l A X.names).2.1 [58]).2.err=0:=by simpa using d1
     have e1:=rn_2 (R:=ai l n) f1 d1
     rw [mP (by rw [e1];exact d1),e1] at hb
     rw [g9 (b:=R0) (by rw [←hb];exact d1)] at hG
     subst hb
     subst hG
     exact Xr
    have d1:(aE l (aG l A X.names).2.1 [58]).2.err=0:=by simpa using d1
    obtain ⟨q1,q2⟩:=gF d1
    have hr:((l.length:Int) - (aE l (aG l A X.names).2.1 [58]).1).toNat+1 < n:=by omega
    refine ⟨⟨g1,g2,by omega,by omega,hr⟩,a6 (fun d2=>?_) (fun d2=>?_)⟩
    ·have d2:¬(ai l n (aE l (aG l A X.names).2.1 [58]).1).2.2.err=0:=by simpa using d2
     have e1:=rn_3 f1 d1 d2
     rw [mP (by rw [e1];exact d2),e1] at hb
     rw [g9 (b:=R0) (by rw [←hb];exact d2)] at hG
     subst hb
     subst hG
     exact Xr
    have d2:(ai l n (aE l (aG l A X.names).2.1 [58]).1).2.2.err=0:=by simpa using d2
    obtain ⟨s1,s2⟩:=nL g1 g2 n _ (by omega) (by omega) hr d2
    have e1:=rn_4 f1 d1 d2
    refine ⟨⟨by trivial,by simp only [List.length_singleton];omega⟩,⟨by trivial,by simp only [List.length_singleton];omega⟩,by omega,a6 (fun c=>?_) (fun c=>?_)⟩
    ·rw [As (by rw [e1]) (by rw [e1];exact c),e1] at hb
     rw [pQ (b:=R0) (by rw [←hb])] at hG
     subst hb
     subst hG
     refine ⟨ak (by omega) (by omega),?_⟩
     exact Xr
    refine ⟨by omega,a6 (fun d3=>?_) (fun d3=>?_)⟩
    ·have d3:¬(aE l (ai l n (aE l (aG l A X.names).2.1 [58]).1).2.1 btw).2.err=0:=by simpa using d3
     rw [vv (by rw [e1]) (by rw [e1];exact c) (by rw [e1];exact d3),e1] at hb
     rw [g9 (b:=R0) (by rw [←hb];exact d3)] at hG
     subst hb
     subst hG
     exact Xr
    have d3:(aE l (ai l n (aE l (aG l A X.names).2.1 [58]).1).2.1 btw).2.err=0:=by simpa using d3
    obtain ⟨w1,w2⟩:=gF d3
    rw [vw (by rw [e1]) (by rw [e1];exact c) (by rw [e1];exact d3),e1] at hb
    refine ⟨ak (by omega) (by omega),(j,m+1,(aE l (ai l n (aE l (aG l A X.names).2.1 [58]).1).2.1 btw).1,⟨X.kind,X.pkg,X.name,X.names++[(aG l A X.names).1],X.parts++[(ai l n (aE l (aG l A X.names).2.1 [58]).1).1]⟩),⟨by show 0<=(aE l _ _).1;omega,by show (aE l _ _).1<=_;omega,by show ((l.length:Int) - (aE l _ _).1).toNat+1 < n+1;omega,by show (l.length:Int) - (aE l _ _).1 < (j:Int);omega,by show m+1+j=_;omega,by show (X.names++[_]).length=_;rw [List.length_append,i6];rfl,by show (X.parts++[_]).length=_;rw [List.length_append,i7];rfl,fun q=>absurd q (Nat.succ_ne_zero m),fun _=>hb⟩,by show j < j+1;omega,rfl,by show (m:Int)+1=((m+1:Nat):Int);omega,?_⟩
    exact Xr
   ·have f1:¬(aG l A X.names).2.2.err=0:=fun q=>f1 (Xd q)
    refine a6 (fun d1=>?_) (fun d1=>?_)
    ·have e1:=rn_1 (R:=ai l n) f1
     rw [mP (by rw [e1];exact f1),e1] at hb
     rw [g9 (b:=R0) (by rw [←hb];exact f1)] at hG
     subst hb
     subst hG
     exact Xr
    ·exact absurd (by simpa using d1) f1
  ·have hm:m=0:=by
    have:¬(0:Int) < (m:Int):=fun q=>hm (Xd q)
    omega
   obtain ⟨rfl,rfl⟩:=i8 hm
   rw [hY s,pQ rfl] at hG
   subst hG
   have:=ir s
   refine ⟨ak (by omega) (by omega),?_⟩
   exact Xr
end Go.AL.Seat
end
section
open Go Go.AL Go.Pd
namespace Go.AL.Seat
namespace C43
def A0:=(0:Int)
def B0 (l:List Tokn):=(↑(List.length l):Int)
def C0:=([44]:Str)
def D0:=([41]:Str)
def E0 (x:Nat × Int × Shape × Bool)(l:List Tokn)(n:Nat)(a:Int):=(x.2.2.2=false→cy l (ca (ai l n)) C0 D0 {kind:=(8:Int),pkg:=[],name:=[],names:=[],parts:=[]:Shape} a=(x.2.2.1,x.2.1,okF)/\x.2.1<(B0 l))
def H0 (x:Nat × Int × Shape × Bool)(l:List Tokn)(n:Nat)(a:Int):=(x.2.2.2=true→cN l (ca (ai l n)) C0 D0 x.1 x.2.2.1 x.2.1=cy l (ca (ai l n)) C0 D0 {kind:=(8:Int),pkg:=[],name:=[],names:=[],parts:=[]:Shape} a)
def I0 (x:Nat × Int × Shape × Bool)(l:List Tokn)(n:Nat)(a:Int):=(A0<=x.2.1/\x.2.1<=(B0 l)/\Int.toNat ((B0 l) - x.2.1)+(1:Nat)<n/\(B0 l) - x.2.1<(↑x.1:Int)/\List.length x.2.2.1.parts+x.1=List.length l+(2:Nat)/\x.2.2.1.names=[]/\(E0 x l n a)/\(H0 x l n a))
def J0:=A0=A0/\dO UInt8=dO UInt8/\dO UInt8=dO UInt8/\A0=A0/\A0=A0/\True
def K0 (l:List Tokn)(n:Nat)(x:Nat × Int × Shape × Bool):=(ai l n x.2.1)
def L0 (l:List Tokn)(n:Nat)(a:Int):=(cr l (ai l n) a)
def M0 (x:Nat × Int × Shape × Bool):=List.length x.2.2.1.parts=List.length x.2.2.1.parts
def N0 (y:Nat × Int × Shape × Bool)(x:Nat × Int × Shape × Bool):=((y.1+if y.2.2.2=true then (1:Nat) else (0:Nat))<x.1+if x.2.2.2=true then (1:Nat) else (0:Nat))
def O0 (l:List Tokn)(n:Nat)(x:Nat × Int × Shape × Bool)(y:Nat × Int × Shape × Bool):=(!cb l (K0 l n x).2.1 D0)=y.2.2.2/\l=l/\x.2.2.1.kind=y.2.2.1.kind/\x.2.2.1.pkg=y.2.2.1.pkg/\x.2.2.1.name=y.2.2.1.name/\x.2.2.1.parts++[(K0 l n x).1]=y.2.2.1.parts/\List.length (x.2.2.1.parts++[(K0 l n x).1])=List.length y.2.2.1.parts/\J0
def P0 (l:List Tokn)(x:Nat × Int × Shape × Bool):=(aE l (x.2.1+(1:Int)) ([45,62]:Str))
end C43
open C43 in
theorem sG (n:Nat) (l:List Tokn) (a:Int) (ho:l.length<=4097/\dr l/\0<=a/\a<=(l.length:Int)/\((l.length:Int) - a).toNat+1 < n) :
  A0<=a/\(∃(x:Nat × Int × Shape × Bool),(I0 x l n a)/\a=x.2.1/\(!cb l a D0)=x.2.2.2/\l=l/\(8:Int)=x.2.2.1.kind/\[]=x.2.2.1.pkg/\[]=x.2.2.1.name/\x.2.2.1.parts=[]/\List.length x.2.2.1.parts=(0:Nat)/\J0)/\∀(x:Nat × Int × Shape × Bool),A0<=x.2.1/\x.2.1<=(B0 l)/\Int.toNat ((B0 l) - x.2.1)+(1:Nat)<n/\(B0 l) - x.2.1<(↑x.1:Int)/\List.length x.2.2.1.parts+x.1=List.length l+(2:Nat)/\x.2.2.1.names=[]/\(E0 x l n a)/\(H0 x l n a)→if x.2.2.2=true then (List.length l<=(4097:Nat)/\dr l/\A0<=x.2.1/\x.2.1<=(B0 l)/\Int.toNat ((B0 l) - x.2.1)+(1:Nat)<n)/\if (!decide ((K0 l n x).2.2.err=A0))=true then True/\x.2.2.1.kind=(L0 l n a).1.kind/\x.2.2.1.pkg=(L0 l n a).1.pkg/\x.2.2.1.name=(L0 l n a).1.name/\(L0 l n a).1.names=[]/\x.2.2.1.parts=(L0 l n a).1.parts/\(K0 l n x).2.1=(L0 l n a).2.1/\(K0 l n x).2.2=(L0 l n a).2.2/\True else ((M0 x)/\(List.length x.2.2.1.parts+List.length [(K0 l n x).1])*(88:Nat)<=(140737488355328:Nat))/\A0<=(K0 l n x).2.1/\if (!cb l (K0 l n x).2.1 D0)=true then A0<=(K0 l n x).2.1/\if (!decide ((aE l (K0 l n x).2.1 C0).2.err=A0))=true then True/\x.2.2.1.kind=(L0 l n a).1.kind/\x.2.2.1.pkg=(L0 l n a).1.pkg/\x.2.2.1.name=(L0 l n a).1.name/\(L0 l n a).1.names=[]/\x.2.2.1.parts++[(K0 l n x).1]=(L0 l n a).1.parts/\(aE l (K0 l n x).2.1 C0).1=(L0 l n a).2.1/\(aE l (K0 l n x).2.1 C0).2=(L0 l n a).2.2/\True else ∃(y:Nat × Int × Shape × Bool),(I0 y l n a)/\(N0 y x)/\(aE l (K0 l n x).2.1 C0).1=y.2.1/\(O0 l n x y) else ∃(y:Nat × Int × Shape × Bool),(I0 y l n a)/\(N0 y x)/\(K0 l n x).2.1=y.2.1/\(O0 l n x y) else inR IntKind.i64 (x.2.1+(1:Int))/\A0<=x.2.1+(1:Int)/\if (!decide ((P0 l x).2.err=A0))=true then True/\x.2.2.1.kind=(L0 l n a).1.kind/\x.2.2.1.pkg=(L0 l n a).1.pkg/\x.2.2.1.name=(L0 l n a).1.name/\(L0 l n a).1.names=[]/\x.2.2.1.parts=(L0 l n a).1.parts/\(P0 l x).1=(L0 l n a).2.1/\(P0 l x).2=(L0 l n a).2.2/\True else (List.length l<=(4097:Nat)/\dr l/\A0<=(P0 l x).1/\(P0 l x).1<=(B0 l)/\Int.toNat ((B0 l) - (P0 l x).1)+(1:Nat)<n)/\((M0 x)/\(List.length x.2.2.1.parts+List.length [(ai l n (P0 l x).1).1])*(88:Nat)<=(140737488355328:Nat))/\True/\x.2.2.1.kind=(L0 l n a).1.kind/\x.2.2.1.pkg=(L0 l n a).1.pkg/\x.2.2.1.name=(L0 l n a).1.name/\(L0 l n a).1.names=[]/\x.2.2.1.parts++[(ai l n (P0 l x).1).1]=(L0 l n a).1.parts/\(ai l n (P0 l x).1).2.1=(L0 l n a).2.1/\(ai l n (P0 l x).1).2.2=(L0 l n a).2.2/\True:=by
 delta P0 O0 N0 M0 L0 K0 J0 I0 H0 E0 D0 C0 B0 A0
 obtain ⟨g1,g2,h0,h1,hn⟩:=ho
 have hG:cr l (ai l n) a=if (g8 l [45,62] (hU (cy l (ca (ai l n)) [44] [41] ⟨8,[],[],[],[]⟩ a))).2.2.err=0 then (xP (g8 l [45,62] (hU (cy l (ca (ai l n)) [44] [41] ⟨8,[],[],[],[]⟩ a))).1 (ai l n (g8 l [45,62] (hU (cy l (ca (ai l n)) [44] [41] ⟨8,[],[],[],[]⟩ a))).2.1).1,(ai l n (g8 l [45,62] (hU (cy l (ca (ai l n)) [44] [41] ⟨8,[],[],[],[]⟩ a))).2.1).2.1,(ai l n (g8 l [45,62] (hU (cy l (ca (ai l n)) [44] [41] ⟨8,[],[],[],[]⟩ a))).2.1).2.2) else g8 l [45,62] (hU (cy l (ca (ai l n)) [44] [41] ⟨8,[],[],[],[]⟩ a)):=rfl
 have hY:=Gn (l:=l) (r:=ca (ai l n)) (btw:=[44]) (en:=[41]) (x:=⟨8,[],[],[],[]⟩) (a:=a)
 have hN:=Iv (l:=l) (r:=ca (ai l n)) (btw:=[44]) (en:=[41]) (x:=⟨8,[],[],[],[]⟩) (a:=a)
 generalize cy l (ca (ai l n)) [44] [41] ⟨8,[],[],[],[]⟩ a=R0 at hG hY hN ⊢
 generalize cr l (ai l n) a=G at hG ⊢
 have hbad:∀{q:SR3},q=R0→¬q.2.2.err=0→G=q:=fun e hz=>by
  subst e
  rw [g9 hz,oE hz,if_neg hz] at hG
  exact hG
 refine ⟨h0,⟨(l.length+2,a,⟨8,[],[],[],[]⟩,!cb l a [41]),⟨h0,h1,hn,by show (l.length:Int) - a < ((l.length+2:Nat):Int);omega,by show 0+(l.length+2)=_;omega,rfl,fun h=>?_,fun h=>(hN (by simpa using h)).symm⟩,?_⟩,?_⟩
 ·have h:cb l a [41]=true:=by simpa using h
  exact ⟨hY h,ir h⟩
 ·exact Xr
 rintro ⟨j,A,X,more⟩ ⟨i1,i2,i3,i4,i5,i6,i7,i8⟩
 simp only at i1 i2 i3 i4 i5 i6 i7 i8 ⊢
 refine a6 (fun hm=>?_) (fun hm=>?_)
 ·have hb:=i8 hm
  obtain ⟨j,rfl⟩:∃q,j=q+1:=⟨j - 1,by omega⟩
  refine ⟨⟨g1,g2,i1,i2,i3⟩,a6 (fun d=>?_) (fun d=>?_)⟩
  ·have d:¬(ai l n A).2.2.err=0:=by simpa using d
   have e1:=rp_1 (x:=X) d
   rw [mP (by rw [e1];exact d),e1] at hb
   have hG:=hbad hb d
   subst hG
   exact Xr
  have d:(ai l n A).2.2.err=0:=by simpa using d
  obtain ⟨s1,s2⟩:=nL g1 g2 n A i1 i2 i3 d
  have e1:=rp_2 (x:=X) d
  have hlen:(X.parts++[(ai l n A).1]).length+j=l.length+2:=by rw [List.length_append,List.length_singleton];omega
  refine ⟨⟨by trivial,by simp only [List.length_singleton];omega⟩,by omega,a6 (fun c=>?_) (fun c=>?_)⟩
  ·have c':¬cb l (ai l n A).2.1 [41]=true:=by simpa using c
   refine ⟨by omega,a6 (fun d3=>?_) (fun d3=>?_)⟩
   ·have d3:¬(aE l (ai l n A).2.1 [44]).2.err=0:=by simpa using d3
    rw [vv (by rw [e1]) (by rw [e1];exact c') (by rw [e1];exact d3),e1] at hb
    have hG:=hbad hb d3
    subst hG
    exact Xr
   ·have d3:(aE l (ai l n A).2.1 [44]).2.err=0:=by simpa using d3
    obtain ⟨w1,w2⟩:=gF d3
    rw [vw (by rw [e1]) (by rw [e1];exact c') (by rw [e1];exact d3),e1] at hb
    refine ⟨(j,(aE l (ai l n A).2.1 [44]).1,xP X (ai l n A).1,!cb l (ai l n A).2.1 [41]),⟨by show 0<=(aE l _ _).1;omega,by show (aE l _ _).1<=_;omega,by show ((l.length:Int) - (aE l _ _).1).toNat+1 < n;omega,by show (l.length:Int) - (aE l _ _).1 < (j:Int);omega,hlen,i6,fun h=>(by have h:=c.symm.trans h;cases h),fun _=>hb⟩,?_,rfl,rfl,?_⟩
    ·show (j+if (!cb l (ai l n A).2.1 [41])=true then 1 else 0) < j+1+if more=true then 1 else 0
     rw [if_pos hm];split <;> omega
    ·exact Xr
  ·have c:cb l (ai l n A).2.1 [41]=true:=by simpa using c
   rw [As (by rw [e1]) (by rw [e1];exact c),e1] at hb
   have hlt:=ir c
   refine ⟨(j,(ai l n A).2.1,xP X (ai l n A).1,!cb l (ai l n A).2.1 [41]),⟨by show 0<=(ai l n A).2.1;omega,s2,by show ((l.length:Int) - (ai l n A).2.1).toNat+1 < n;omega,by show (l.length:Int) - (ai l n A).2.1 < (j:Int);omega,hlen,i6,fun _=>⟨hb.symm,hlt⟩,fun h=>(by rw [c] at h;cases h)⟩,?_,rfl,rfl,?_⟩
   ·show (j+if (!cb l (ai l n A).2.1 [41])=true then 1 else 0) < j+1+if more=true then 1 else 0
    rw [if_pos hm];split <;> omega
   ·exact Xr
 ·obtain ⟨hR,hA⟩:=i7 (by simpa using hm)
  rw [hR,pQ (b:=(X,A,okF)) rfl,lC (b:=(X,A+1,okF)) rfl] at hG
  refine ⟨ak (by omega) (by omega),by omega,a6 (fun d=>?_) (fun d=>?_)⟩
  ·have d:¬(aE l (A+1) [45,62]).2.err=0:=by simpa using d
   rw [if_neg d] at hG
   subst hG
   exact Xr
  ·have d:(aE l (A+1) [45,62]).2.err=0:=by simpa using d
   obtain ⟨w1,w2⟩:=gF d
   rw [if_pos d] at hG
   subst hG
   refine ⟨⟨g1,g2,by omega,by omega,by omega⟩,⟨by trivial,by simp only [List.length_singleton];omega⟩,?_⟩
   exact Xr
end Go.AL.Seat
end
section
open Go Go.AL Go.Pd
namespace Go.AL.Seat
namespace C44
def A0:=(0:Int)
def B0:=(1:Int)
def C0 (a:Int):=inR IntKind.i64 (a+B0)
def D0:=True
def E0 (l:List Tokn)(n:Nat)(a:Int):=(ai l (n+(1:Nat)) a)
def H0 (l:List Tokn)(a:Int):=(aE l (a+B0) ([47]:Str))
def I0 (l:List Tokn)(a:Int)(n:Nat):=(List.length l<=(4097:Nat)/\dr l/\A0<=a+B0/\a+B0<=(↑(List.length l):Int)/\Int.toNat ((↑(List.length l):Int) - (a+B0))+(1:Nat)<n)
def J0 (l:List Tokn)(a:Int)(n:Nat):=(List.length l<=(4097:Nat)/\dr l/\A0<=a+B0/\a+B0<=(↑(List.length l):Int)/\Int.toNat ((↑(List.length l):Int) - (a+B0))+(1:Nat)<n+(1:Nat))
def K0 (l:List Tokn)(n:Nat)(a:Int):=(dR l (ai l n) (a+B0) (6:Int) ([44]:Str) ([125]:Str))
def L0 (l:List Tokn)(n:Nat)(a:Int):=(dR l (ai l n) (a+B0) (7:Int) ([124]:Str) ([62]:Str))
end C44
open C44 in
theorem Az (n:Nat) (l:List Tokn) (a:Int) (ho:l.length<=4097/\dr l/\0<=a/\a<=(l.length:Int)/\((l.length:Int) - a).toNat+1 < n+1) :
  A0<=a/\if decide ((bB l a).kind=(2:Int))=true then (C0 a)/\D0/\co [] (bB l a).text=(E0 l n a).1/\a+B0=(E0 l n a).2.1/\A0=(E0 l n a).2.2.err/\A0=(E0 l n a).2.2.pos/\D0 else if decide ((bB l a).kind=B0)=true then (C0 a)/\A0<=a+B0/\if (!decide ((H0 l a).2.err=A0))=true then D0/\A0=(E0 l n a).1.kind/\[]=(E0 l n a).1.pkg/\[]=(E0 l n a).1.name/\(E0 l n a).1.names=[]/\(E0 l n a).1.parts=[]/\(H0 l a).1=(E0 l n a).2.1/\(H0 l a).2=(E0 l n a).2.2/\D0 else (A0<=(H0 l a).1/\¬(2:Int)=A0)/\D0/\co (bB l a).text (bQ l (H0 l a).1 (2:Int)).1=(E0 l n a).1/\(bQ l (H0 l a).1 (2:Int)).2.1=(E0 l n a).2.1/\(bQ l (H0 l a).1 (2:Int)).2.2=(E0 l n a).2.2/\D0 else A0<=a/\if cb l a ([91]:Str)=true then (C0 a)/\(I0 l a n)/\if decide ((ai l n (a+B0)).2.2.err=A0)=true then A0<=(ai l n (a+B0)).2.1/\D0/\(5:Int)=(E0 l n a).1.kind/\[]=(E0 l n a).1.pkg/\[]=(E0 l n a).1.name/\(E0 l n a).1.names=[]/\[(ai l n (a+B0)).1]=(E0 l n a).1.parts/\(aE l (ai l n (a+B0)).2.1 ([93]:Str)).1=(E0 l n a).2.1/\(aE l (ai l n (a+B0)).2.1 ([93]:Str)).2=(E0 l n a).2.2/\D0 else D0/\(5:Int)=(E0 l n a).1.kind/\[]=(E0 l n a).1.pkg/\[]=(E0 l n a).1.name/\(E0 l n a).1.names=[]/\[(ai l n (a+B0)).1]=(E0 l n a).1.parts/\(ai l n (a+B0)).2.1=(E0 l n a).2.1/\(ai l n (a+B0)).2.2=(E0 l n a).2.2/\D0 else A0<=a/\if cb l a ([123]:Str)=true then (C0 a)/\(J0 l a n)/\D0/\(K0 l n a).1=(E0 l n a).1/\(K0 l n a).2.1=(E0 l n a).2.1/\(K0 l n a).2.2=(E0 l n a).2.2/\D0 else A0<=a/\if cb l a ([60]:Str)=true then (C0 a)/\(J0 l a n)/\D0/\(L0 l n a).1=(E0 l n a).1/\(L0 l n a).2.1=(E0 l n a).2.1/\(L0 l n a).2.2=(E0 l n a).2.2/\D0 else A0<=a/\if cb l a ([40]:Str)=true then (C0 a)/\(I0 l a n)/\D0/\(cr l (ai l n) (a+B0)).1=(E0 l n a).1/\(cr l (ai l n) (a+B0)).2.1=(E0 l n a).2.1/\(cr l (ai l n) (a+B0)).2.2=(E0 l n a).2.2/\D0 else A0<=a/\D0/\A0=(E0 l n a).1.kind/\[]=(E0 l n a).1.pkg/\[]=(E0 l n a).1.name/\(E0 l n a).1.names=[]/\(E0 l n a).1.parts=[]/\a=(E0 l n a).2.1/\jh l a=(E0 l n a).2.2/\D0:=by
 delta L0 K0 J0 I0 H0 E0 D0 C0 B0 A0
 obtain ⟨g1,g2,h0,h1,hn⟩:=ho
 have hG:ai l (n+1) a=kw l (ai l n) a:=rfl
 have ln:(l.length:Int)<=4097:=by omega
 generalize ai l (n+1) a=G at hG ⊢
 unfold kw at hG
 dsimp only at hG
 refine ⟨h0,a6 (fun c=>?_) (fun c=>?_)⟩
 ·have c:=Xo c
  rw [if_pos c] at hG
  subst hG
  refine ⟨ak (by omega) (by omega),?_⟩
  exact Xr
 have c:¬(bB l a).kind=2:=fun q=>c (Xd q)
 rw [if_neg c] at hG
 refine a6 (fun c=>?_) (fun c=>?_)
 ·have c:=Xo c
  rw [if_pos c] at hG
  refine ⟨ak (by omega) (by omega),by omega,a6 (fun d=>?_) (fun d=>?_)⟩
  ·have d:¬(aE l (a+1) [47]).2.err=0:=by simpa using d
   rw [if_neg d] at hG
   subst hG
   exact Xr
  ·have d:(aE l (a+1) [47]).2.err=0:=by simpa using d
   obtain ⟨w1,w2⟩:=gF d
   rw [if_pos d] at hG
   subst hG
   refine ⟨⟨by omega,by decide⟩,?_⟩
   exact Xr
 have c:¬(bB l a).kind=1:=fun q=>c (Xd q)
 rw [if_neg c] at hG
 refine ⟨h0,a6 (fun c=>?_) (fun c=>?_)⟩
 ·rw [if_pos c] at hG
  have hlt:=ir c
  refine ⟨ak (by omega) (by omega),⟨g1,g2,by omega,by omega,by omega⟩,a6 (fun d=>?_) (fun d=>?_)⟩
  ·have d:=Xo d
   obtain ⟨s1,s2⟩:=nL g1 g2 n (a+1) (by omega) (by omega) (by omega) d
   rw [lC (b:=ai l n (a+1)) d] at hG
   subst hG
   refine ⟨by omega,?_⟩
   exact Xr
  ·have d:¬(ai l n (a+1)).2.2.err=0:=fun q=>d (Xd q)
   rw [oE (b:=ai l n (a+1)) d] at hG
   subst hG
   exact Xr
 rw [if_neg c] at hG
 refine ⟨h0,a6 (fun c=>?_) (fun c=>?_)⟩
 ·rw [if_pos c] at hG
  have hlt:=ir c
  subst hG
  refine ⟨ak (by omega) (by omega),⟨g1,g2,by omega,by omega,by omega⟩,?_⟩
  exact Xr
 rw [if_neg c] at hG
 refine ⟨h0,a6 (fun c=>?_) (fun c=>?_)⟩
 ·rw [if_pos c] at hG
  have hlt:=ir c
  subst hG
  refine ⟨ak (by omega) (by omega),⟨g1,g2,by omega,by omega,by omega⟩,?_⟩
  exact Xr
 rw [if_neg c] at hG
 refine ⟨h0,a6 (fun c=>?_) (fun c=>?_)⟩
 ·rw [if_pos c] at hG
  have hlt:=ir c
  subst hG
  refine ⟨ak (by omega) (by omega),⟨g1,g2,by omega,by omega,by omega⟩,?_⟩
  exact Xr
 rw [if_neg c] at hG
 subst hG
 refine ⟨h0,?_⟩
 exact Xr
end Go.AL.Seat
end
section
open Go Go.AL Go.Pd
namespace Go.AL.Seat
namespace C45
def A0 (l:List Tokn)(a:Int):=True/\(ai l big a).1=(dX l a).1/\(ai l big a).2.1=(dX l a).2.1/\(ai l big a).2.2=(dX l a).2.2/\True
end C45
open C45 in
theorem AA (l:List Tokn) (a:Int) (ho:l.length<=4097/\dr l/\0<=a/\a<=(l.length:Int)) :
  (List.length l<=(4097:Nat)/\dr l/\(0:Int)<=a/\a<=(↑(List.length l):Int)/\Int.toNat ((↑(List.length l):Int) - a)+(1:Nat)<big)/\if decide ((ai l big a).2.2.err=(0:Int))=true then if (!decide (bK (ai l big a).1=(0:Int)))=true then (0:Int)<=a/\True/\(ai l big a).1=(dX l a).1/\(ai l big a).2.1=(dX l a).2.1/\bK (ai l big a).1=(dX l a).2.2.err/\(bB l a).pos=(dX l a).2.2.pos/\True else (A0 l a) else (A0 l a):=by
 delta A0
 obtain ⟨g1,g2,h0,h1⟩:=ho
 have hG:dX l a=((ai l big a).1,(ai l big a).2.1,if (ai l big a).2.2.err=0/\¬bK (ai l big a).1=0 then ⟨bK (ai l big a).1,(bB l a).pos⟩ else (ai l big a).2.2):=rfl
 rw [hG]
 refine ⟨⟨g1,g2,h0,h1,by unfold big;omega⟩,a6 (fun e=>?_) (fun e=>?_)⟩
 ·have e:=Xo e
  refine a6 (fun c=>?_) (fun c=>?_)
  ·have c:¬bK (ai l big a).1=0:=by simpa using c
   simp only [if_pos (show (ai l big a).2.2.err=0/\¬bK (ai l big a).1=0 from ⟨e,c⟩)]
   refine ⟨h0,?_⟩
   exact Xr
  ·have c:bK (ai l big a).1=0:=by simpa using c
   simp only [if_neg (show ¬((ai l big a).2.2.err=0/\¬bK (ai l big a).1=0) from fun q=>q.2 c)]
   exact Xr
 ·have e:¬(ai l big a).2.2.err=0:=fun q=>e (Xd q)
  simp only [if_neg (show ¬((ai l big a).2.2.err=0/\¬bK (ai l big a).1=0) from fun q=>e q.1)]
  exact Xr
end Go.AL.Seat
end
