/- What the functions' conditions say, proved. No condition. -/
import Derived.Test.YtdmbjejhifjhbaaGreatDoorT21
set_option linter.unusedVariables false
set_option linter.unusedSimpArgs false
set_option linter.unnecessarySimpa false
set_option linter.deprecated false
set_option linter.unusedSectionVars false
set_option maxRecDepth 100000
section
open Go Go.AL Go.Pd
namespace Go.AL.Seat
theorem EO (s:Str)  :
  let A:=(↑(List.length s):Int);let B:=(0:Int);let C:=True/\false=aQ s/\True;if (!decide (s=[]))=true then if decide (A<=(24:Int))=true then (B<=B/\B<A)/\if bq (↑(UInt8.toNat (List.getD s (Int.toNat B) (0:UInt8))):Int)=true then if decide ((↑(bU s):Int)=A)=true then True/\(!iQ s)=aQ s/\True else C else C else C else C:=by
 conv=>zeta
 have eb:∀b:UInt8,(b.toNat:Int)=bI b:=fun _=>rfl
 simp only [Int.toNat_natCast,Int.toNat_zero,eq_self,true_and,and_true,eb]
 have hF:aQ s=(!decide (s=[]) && decide (s.length<=24) && bq (bI (s.getD 0 0)) && decide (bU s=s.length) && !iQ s):=by unfold aQ;rw [oP]
 refine a6 (fun a=>?_) (fun a=>?_)
 ·have a':decide (s=[])=false:=by simpa using a
  have hpos:0 < s.length:=List.length_pos_iff.2 (of_decide_eq_false a')
  refine a6 (fun b=>?_) (fun b=>?_)
  ·have b':s.length<=24:=by have:=Xo b;omega
   refine ⟨by omega,a6 (fun c=>?_) (fun c=>?_)⟩
   ·refine a6 (fun d=>?_) (fun d=>?_)
    ·have d':bU s=s.length:=by have:=Xo d;omega
     rw [hF,a',c,d'];simp [b']
    ·have d':¬bU s=s.length:=fun e=>d (Xd (by omega))
     rw [hF];simp [d']
   ·simp only [Bool.not_eq_true] at c
    rw [hF,c];simp
  ·have b':¬s.length<=24:=fun e=>b (Xd (by omega))
   rw [hF];simp [b']
 ·have a':decide (s=[])=true:=by simpa using a
  rw [hF,a'];simp
theorem Ci (s:Str)  :
  let A:=(↑(List.length s):Int);let B:=(0:Int);let C:=True/\false=dq s/\True;if (!decide (s=[]))=true then if decide (A<=(24:Int))=true then (B<=B/\B<A)/\if bw (↑(UInt8.toNat (List.getD s (Int.toNat B) (0:UInt8))):Int)=true then True/\decide ((↑(bU s):Int)=A)=dq s/\True else C else C else C:=by
 conv=>zeta
 have eb:∀b:UInt8,(b.toNat:Int)=bI b:=fun _=>rfl
 simp only [Int.toNat_natCast,Int.toNat_zero,eq_self,true_and,and_true,eb]
 have hF:dq s=(!decide (s=[]) && decide (s.length<=24) && bw (bI (s.getD 0 0)) && decide (bU s=s.length)):=by unfold dq;rw [oP]
 refine a6 (fun a=>?_) (fun a=>?_)
 ·have a':decide (s=[])=false:=by simpa using a
  have hpos:0 < s.length:=List.length_pos_iff.2 (of_decide_eq_false a')
  refine a6 (fun b=>?_) (fun b=>?_)
  ·have b':s.length<=24:=by have:=Xo b;omega
   refine ⟨by omega,a6 (fun c=>?_) (fun c=>?_)⟩
   ·rw [hF,a',c]
    simp [b',Int.ofNat_inj]
   ·simp only [Bool.not_eq_true] at c
    rw [hF,c];simp
  ·have b':¬s.length<=24:=fun e=>b (Xd (by omega))
   rw [hF];simp [b']
 ·have a':decide (s=[])=true:=by simpa using a
  rw [hF,a'];simp
theorem wM (s:Str) (hs:Wf .str s) :
  let A:=(List.all s fun (c:UInt8)=>aK (bI c));let B:=(0:Int);let C:=s=s/\True;let D:=(↑(List.length s):Int);let E:=True/\false=bG s/\True;(∃(x:Nat),(x<=List.length s/\A=List.all (List.drop x s) fun (c:UInt8)=>aK (bI c))/\B=(↑x:Int)/\C)/\∀(x:Nat),let F:=(↑x:Int);let G:=B<=F/\F<D;let H:=(↑(UInt8.toNat (List.getD s (Int.toNat F) (0:UInt8))):Int);(x<=List.length s/\A=List.all (List.drop x s) fun (c:UInt8)=>aK (bI c))→if decide (F<D)=true then G/\if decide (H<(48:Int))=true then E else G/\if decide ((57:Int)<H)=true then E else inR IntKind.i64 (F+(1:Int))/\∃(y:Nat),(y<=List.length s/\A=List.all (List.drop y s) fun (c:UInt8)=>aK (bI c))/\List.length s - y<List.length s - x/\F+(1:Int)=(↑y:Int)/\C else True/\(!decide (s=[]))=bG s/\True:=by
 conv=>zeta
 have ln:=hs.str
 have eb:∀b:UInt8,(b.toNat:Int)=bI b:=fun _=>rfl
 simp only [eb,Int.toNat_natCast]
 refine ⟨⟨0,⟨Nat.zero_le _,rfl⟩,rfl,?_⟩,?_⟩
 ·exact Xr
 rintro k ⟨h1,h2⟩
 refine a6 (fun h=>?_) (fun h=>?_)
 ·have hk:k < s.length:=by have:=Xo h;omega
  rw [bf s k 0 hk,List.all_cons] at h2
  have l0:(0:Int)<=(k:Int)/\(k:Int) < (s.length:Int):=⟨by omega,by omega⟩
  have bad:aK (bI (s.getD k 0))=false→false=bG s:=fun e=>by
   unfold bG
   rw [h2,e,Bool.false_and,Bool.and_false]
  refine ⟨l0,a6 (fun a=>⟨trivial,?_,trivial⟩) (fun a=>⟨l0,a6 (fun b=>⟨trivial,?_,trivial⟩) (fun b=>?_)⟩)⟩
  ·have a:=Xo a
   refine bad ?_
   unfold aK
   rw [Xf (by omega),Bool.false_and]
  ·have b:=Xo b
   refine bad ?_
   unfold aK
   rw [Bool.and_comm,Xf (by omega),Bool.false_and]
  ·have a:¬bI (s.getD k 0) < 48:=fun e=>a (Xd e)
   have b:¬57 < bI (s.getD k 0):=fun e=>b (Xd e)
   have hd:aK (bI (s.getD k 0))=true:=by
    unfold aK
    rw [Xd (by omega),Bool.true_and,Xd (by omega)]
   rw [hd,Bool.true_and] at h2
   refine ⟨cp hk ln,k+1,⟨by omega,h2⟩,by omega,rfl,?_⟩
   exact Xr
 ·have hk:s.length<=k:=by
   have:¬(k:Int) < (s.length:Int):=fun e=>h (Xd e)
   omega
  rw [List.drop_eq_nil_of_le hk] at h2
  refine ⟨trivial,?_,trivial⟩
  unfold bG
  rw [h2]
  exact (Bool.and_true _).symm
theorem Cj (s:Str) (hs:Wf .str s) :
  let A:=(List.all s fun (c:UInt8)=>eV (bI c));let B:=(0:Int);let C:=True;let D:=s=s/\C;let E:=(↑(List.length s):Int);let F:=(0:UInt8);let G:=(45:Int);let H:=(48:Int);let I:=C/\false=cv s/\C;let J:=(57:Int);let K:=(1:Int);let L:=C/\true=cv s/\C;(∃(x:Nat),(x<=List.length s/\A=List.all (List.drop x s) fun (c:UInt8)=>eV (bI c))/\B=(↑x:Int)/\D)/\∀(x:Nat),let M:=(↑x:Int);let N:=B<=M/\M<E;let O:=(↑(UInt8.toNat (List.getD s (Int.toNat M) F)):Int);let P:=inR IntKind.i64 (M+K)/\∃(y:Nat),(y<=List.length s/\A=List.all (List.drop y s) fun (c:UInt8)=>eV (bI c))/\List.length s - y<List.length s - x/\M+K=(↑y:Int)/\D;let Q:=N/\if (!decide (O=G))=true then N/\if decide (O<H)=true then I else N/\if decide (J<O)=true then I else P else P;let R:=if (!decide (O<=(90:Int)))=true then Q else P;(x<=List.length s/\A=List.all (List.drop x s) fun (c:UInt8)=>eV (bI c))→if decide (M<E)=true then N/\if decide ((97:Int)<=O)=true then N/\N/\if decide ((65:Int)<=O)=true then N/\if (!decide (O<=(122:Int)))=true then R else P else if (!decide (O<=(122:Int)))=true then Q else P else N/\if decide ((65:Int)<=O)=true then N/\R else Q else if (!decide (s=[]))=true then if (!bG s)=true then L else if decide (s=([48]:Str))=true then L else (B<=B/\B<E)/\C/\(!decide ((↑(UInt8.toNat (List.getD s (Int.toNat B) F)):Int)=H))=cv s/\C else I:=by
 conv=>zeta
 have ln:=hs.str
 have eb:∀b:UInt8,(b.toNat:Int)=bI b:=fun _=>rfl
 simp only [eb,Int.toNat_natCast,Int.toNat_zero]
 refine ⟨⟨0,⟨Nat.zero_le _,rfl⟩,rfl,?_⟩,?_⟩
 ·exact Xr
 rintro k ⟨h1,h2⟩
 refine a6 (fun h=>?_) (fun h=>?_)
 ·have hk:k < s.length:=by have:=Xo h;omega
  clear h
  rw [bf s k 0 hk,List.all_cons] at h2
  have l0:(0:Int)<=(k:Int)/\(k:Int) < (s.length:Int):=⟨by omega,by omega⟩
  have bad:¬((48<=bI (s.getD k 0)/\bI (s.getD k 0)<=57)∨(97<=bI (s.getD k 0)/\bI (s.getD k 0)<=122)∨(65<=bI (s.getD k 0)/\bI (s.getD k 0)<=90)∨bI (s.getD k 0)=45)→false=cv s:=fun e=>by
   have e:eV (bI (s.getD k 0))=false:=Bool.eq_false_iff.2 (fun q=>e ((kP _).1 q))
   unfold cv
   rw [h2,e,Bool.false_and,Bool.and_false]
  have good:((48<=bI (s.getD k 0)/\bI (s.getD k 0)<=57)∨(97<=bI (s.getD k 0)/\bI (s.getD k 0)<=122)∨(65<=bI (s.getD k 0)/\bI (s.getD k 0)<=90)∨bI (s.getD k 0)=45)→(s.all fun c=>eV (bI c))=(s.drop (k+1)).all fun c=>eV (bI c):=fun e=>by
   rw [h2,(kP _).2 e,Bool.true_and]
  clear h2 h1
  repeat' (first | refine ⟨l0,?_⟩ | refine a6 (fun q=>?_) (fun q=>?_))
  all_goals simp only [decide_eq_true_eq,Bool.not_eq_true',decide_eq_false_iff_not] at *
  all_goals first
   | exact ⟨trivial,bad (by omega),trivial⟩
   | (refine ⟨cp hk ln,k+1,⟨by omega,good (by omega)⟩,by omega,(by first | rfl | trivial),?_⟩;exact Xr)
 ·have hk:s.length<=k:=by
   have:¬(k:Int) < (s.length:Int):=fun e=>h (Xd e)
   omega
  rw [List.drop_eq_nil_of_le hk] at h2
  have h2:(s.all fun c=>eV (bI c))=true:=h2
  have e:cv s=(!decide (s=[]) && !(bG s && decide (bI (s.getD 0 0)=48) && !decide (s=[48]))):=by
   unfold cv
   rw [h2,Bool.and_true]
  rw [e]
  clear e h2 h h1
  refine a6 (fun a=>a6 (fun b=>?_) (fun b=>a6 (fun c=>?_) (fun c=>?_))) (fun a=>?_)
  ·rw [Bool.not_eq_true'] at b
   rw [a,b,Bool.false_and,Bool.false_and]
   exact ⟨trivial,rfl,trivial⟩
  ·rw [a,c,Bool.not_true,Bool.and_false]
   exact ⟨trivial,rfl,trivial⟩
  ·have a':¬s=[]:=by simpa using a
   have hp:=List.length_pos_iff.2 a'
   have b:bG s=true:=by simpa using b
   rw [a,b,Bool.eq_false_iff.2 c,Bool.true_and,Bool.true_and,Bool.not_false,Bool.and_true]
   exact ⟨⟨Int.le_refl 0,by omega⟩,trivial,rfl,trivial⟩
  ·rw [Bool.eq_false_iff.2 a,Bool.false_and]
   exact ⟨trivial,rfl,trivial⟩
theorem wN (n:Int) (ho:0<=n/\n<=999999) :
  let A:=(10:Int);let B:=(0:Int);let C:=Int.tmod n A;let D:=(1:Int);let E:=Int.tmod n A+D;let F:=([48,49,50,51,52,53,54,55,56,57]:Str);let G:=(↑(List.length F):Int);let H:=(20:Nat);let I:=(10:Nat);let J:=(999999:Nat);let K:=(21:Nat);let L:=jk UInt8=jk UInt8/\True;(A≠B/\inR IntKind.i64 C)/\inR IntKind.i64 E/\(B<=Int.tmod n A/\Int.tmod n A<=Int.tmod n A+D/\Int.tmod n A+D<=G)/\(∃(x:Nat × Nat × Str),(x.1<=H/\x.2.1<I ^ x.1/\x.2.1<=J/\List.length x.2.2<=K - x.1/\bJ n=mr x.1 x.2.1 x.2.2)/\n=(↑x.2.1:Int)/\List.drop (Int.toNat C) (List.take (Int.toNat E) F)=x.2.2/\L)/\∀(x:Nat × Nat × Str),let M:=(↑x.2.1:Int);let N:=Int.tdiv M A;let O:=Int.tmod N A;let P:=Int.tmod N A+D;let Q:=List.take (Int.toNat P) F;x.1<=H/\x.2.1<I ^ x.1/\x.2.1<=J/\List.length x.2.2<=K - x.1/\bJ n=mr x.1 x.2.1 x.2.2→if decide (A<=M)=true then (A≠B/\inR IntKind.i64 N)/\(A≠B/\inR IntKind.i64 O)/\inR IntKind.i64 P/\(B<=Int.tmod N A/\Int.tmod N A<=Int.tmod N A+D/\Int.tmod N A+D<=G)/\List.length (List.drop (Int.toNat O) Q)+List.length x.2.2<=(9223372036854775807:Nat)/\∃(y:Nat × Nat × Str),(y.1<=H/\y.2.1<I ^ y.1/\y.2.1<=J/\List.length y.2.2<=K - y.1/\bJ n=mr y.1 y.2.1 y.2.2)/\y.1<x.1/\Int.tdiv M A=(↑y.2.1:Int)/\List.drop (Int.toNat O) Q++x.2.2=y.2.2/\L else True/\x.2.2=bJ n/\True:=by
 conv=>zeta
 obtain ⟨m,rfl⟩:=Int.eq_ofNat_of_zero_le ho.1
 have tm:∀a:Nat,Int.tmod (a:Int) 10=((a % 10:Nat):Int):=fun _=>rfl
 have td:∀a:Nat,Int.tdiv (a:Int) 10=((a / 10:Nat):Int):=fun _=>rfl
 have tn:∀a:Nat,Int.toNat ((a:Int)+1)=a+1:=fun a=>by omega
 have ds:∀a:Nat,List.drop a (List.take (a+1) [(48:UInt8),(49:UInt8),(50:UInt8),(51:UInt8),(52:UInt8),(53:UInt8),(54:UInt8),(55:UInt8),(56:UInt8),(57:UInt8)])=kd a:=fun _=>rfl
 have dl:List.length [(48:UInt8),(49:UInt8),(50:UInt8),(51:UInt8),(52:UInt8),(53:UInt8),(54:UInt8),(55:UInt8),(56:UInt8),(57:UInt8)]=10:=rfl
 simp only [tm,td,tn,Int.toNat_natCast,ds,dl]
 have hm:m<=999999:=by omega
 refine ⟨⟨by decide,an (by omega) (by omega)⟩,an (by omega) (by omega),⟨by omega,by omega,by omega⟩,⟨(20,m,kd (m % 10)),⟨Nat.le_refl _,Nat.lt_of_le_of_lt hm (by show 999999 < 10 ^ 20;decide),hm,by have:=nq (m % 10);show (kd (m % 10)).length<=21 - 20;omega,rfl⟩,rfl,?_⟩,?_⟩
 ·exact Xr
 rintro ⟨f,x,acc⟩ ⟨h1,h2,h3,h4,h5⟩
 simp only at h1 h2 h3 h4 h5 ⊢
 refine a6 (fun a=>?_) (fun a=>?_)
 ·have a:=Xo a
  cases f with
  | zero=>rw [Nat.pow_zero] at h2;omega
  | succ f=>
   have hd:=nq (x / 10 % 10)
   have h5:bJ (m:Int)=mr f (x / 10) (kd (x / 10 % 10)++acc):=by
    rw [h5]
    show (if 10<=x then _ else _)=_
    rw [if_pos (by omega)]
   have h2:x / 10 < 10 ^ f:=by
    rw [Nat.pow_succ] at h2
    exact (Nat.div_lt_iff_lt_mul (by decide)).2 h2
   refine ⟨⟨by decide,an (by omega) (by omega)⟩,⟨by decide,an (by omega) (by omega)⟩,an (by omega) (by omega),⟨by omega,by omega,by omega⟩,by omega,(f,x / 10,kd (x / 10 % 10)++acc),⟨by show f<=20;omega,h2,by show x / 10<=999999;omega,by show (kd (x / 10 % 10)++acc).length<=21 - f;rw [List.length_append];omega,h5⟩,by show f < f+1;omega,rfl,rfl,?_⟩
   exact Xr
 ·have a:¬(10:Int)<=(x:Int):=fun e=>a (Xd e)
  refine ⟨trivial,?_,trivial⟩
  rw [h5]
  cases f with
  | zero=>rfl
  | succ f=>
   show acc=if 10<=x then _ else _
   rw [if_neg (by omega)]
theorem zd (v:Vers) (hv:Wf (.st .version) v) :
  let A:=(0:Int);let B:=True/\(40:Int)=bz v/\True;let C:=(999999:Int);let D:=True/\A=bz v/\True;let E:=(46:UInt8);let F:=splitB E v.pre;let G:=v=v/\false=false/\false=false/\splitB E v.pre=splitB E v.pre/\v=v/\True;let H:=(↑(List.length F):Int);if decide (v.major<A)=true then B else if decide (C<v.major)=true then B else if decide (v.minor<A)=true then B else if decide (C<v.minor)=true then B else if decide (v.patch<A)=true then B else if decide (C<v.patch)=true then B else if decide ((24:Int)<(↑(List.length v.pre):Int))=true then B else if decide (v.pre=[])=true then D else List.length v.pre<=(4096:Nat)/\(∃(x:Nat),(x<=List.length F/\List.all F cv=List.all (List.drop x F) cv)/\A=(↑x:Int)/\G)/\∀(x:Nat),let I:=(↑x:Int);x<=List.length F/\List.all F cv=List.all (List.drop x F) cv→if decide (I<H)=true then (A<=I/\I<H)/\if (!cv (List.getD F (Int.toNat I) (dfl Ty.str)))=true then B else inR IntKind.i64 (I+(1:Int))/\∃(y:Nat),(y<=List.length F/\List.all F cv=List.all (List.drop y F) cv)/\List.length F - y<List.length F - x/\I+(1:Int)=(↑y:Int)/\G else D:=by
 conv=>zeta
 refine a6 (fun a=>?_) (fun a=>a6 (fun b=>?_) (fun b=>a6 (fun c=>?_) (fun c=>a6 (fun d=>?_) (fun d=>a6 (fun e=>?_) (fun e=>a6 (fun f=>?_) (fun f=>a6 (fun g=>?_) (fun g=>a6 (fun h=>?_) (fun h=>?_))))))))
 ·refine ⟨trivial,?_,trivial⟩
  unfold bz
  rw [if_pos (by have:=Xo a;omega)]
 ·refine ⟨trivial,?_,trivial⟩
  unfold bz
  rw [if_pos (by have:=Xo b;omega)]
 ·refine ⟨trivial,?_,trivial⟩
  unfold bz
  rw [if_pos (by have:=Xo c;omega)]
 ·refine ⟨trivial,?_,trivial⟩
  unfold bz
  rw [if_pos (by have:=Xo d;omega)]
 ·refine ⟨trivial,?_,trivial⟩
  unfold bz
  rw [if_pos (by have:=Xo e;omega)]
 ·refine ⟨trivial,?_,trivial⟩
  unfold bz
  rw [if_pos (by have:=Xo f;omega)]
 all_goals
  have hn:¬(v.major < 0∨999999 < v.major∨v.minor < 0∨999999 < v.minor∨v.patch < 0∨999999 < v.patch):=by
   have a:¬v.major < 0:=fun q=>a (Xd q)
   have b:¬999999 < v.major:=fun q=>b (Xd q)
   have c:¬v.minor < 0:=fun q=>c (Xd q)
   have d:¬999999 < v.minor:=fun q=>d (Xd q)
   have e:¬v.patch < 0:=fun q=>e (Xd q)
   have f:¬999999 < v.patch:=fun q=>f (Xd q)
   omega
 ·refine ⟨trivial,?_,trivial⟩
  unfold bz
  rw [if_neg hn,if_pos (by have:=Xo g;omega)]
 ·refine ⟨trivial,?_,trivial⟩
  have g:¬(24:Int) < (v.pre.length:Int):=fun e=>g (Xd e)
  unfold bz
  rw [if_neg hn,if_neg (by omega),if_pos (Xo h)]
 have g:¬(24:Int) < (v.pre.length:Int):=fun e=>g (Xd e)
 have hg:bz v=if (splitB 46 v.pre).all cv=true then 0 else 40:=by
  unfold bz
  rw [if_neg hn,if_neg (by omega),if_neg (fun q=>h (Xd q))]
 have hs:=gn 46 v.pre
 refine ⟨by omega,⟨0,⟨Nat.zero_le _,rfl⟩,rfl,?_⟩,?_⟩
 ·exact Xr
 rintro k ⟨k1,k2⟩
 refine a6 (fun m=>?_) (fun m=>?_)
 ·have m:=Xo m
  have hk:k < (splitB 46 v.pre).length:=by omega
  rw [bf (splitB 46 v.pre) k (dfl Ty.str) hk,List.all_cons] at k2
  simp only [Int.toNat_natCast]
  refine ⟨⟨by omega,m⟩,a6 (fun n=>?_) (fun n=>?_)⟩
  ·have n:cv ((splitB 46 v.pre).getD k (dfl Ty.str))=false:=by simpa using n
   rw [n,Bool.false_and] at k2
   rw [hg,if_neg (by rw [k2];exact Bool.false_ne_true)]
   exact ⟨trivial,rfl,trivial⟩
  ·have n:cv ((splitB 46 v.pre).getD k (dfl Ty.str))=true:=by simpa using n
   rw [n,Bool.true_and] at k2
   refine ⟨an (by omega) (by omega),k+1,⟨by omega,k2⟩,by omega,rfl,?_⟩
   exact Xr
 ·have hk:(splitB 46 v.pre).length<=k:=by
   have:¬(k:Int) < ((splitB 46 v.pre).length:Int):=fun e=>m (Xd e)
   omega
  rw [List.drop_eq_nil_of_le hk] at k2
  have k2:(splitB 46 v.pre).all cv=true:=k2
  rw [hg,if_pos k2]
  exact ⟨trivial,rfl,trivial⟩
theorem Ck (v:Vers) (hv:Wf (.st .version) v) :
  let A:=(0:Int);let B:=cO v;let C:=(999999:Int);let D:=([46]:Str);let E:=(9223372036854775807:Nat);let F:=([45]:Str);let G:=A=B.2/\True;if (!decide (bz v=A))=true then True/\[]=B.1/\(40:Int)=B.2/\True else (A<=v.major/\v.major<=C)/\List.length (bJ v.major)+List.length D<=E/\(A<=v.minor/\v.minor<=C)/\List.length (bJ v.major++D)+List.length (bJ v.minor)<=E/\List.length (bJ v.major++D++bJ v.minor)+List.length D<=E/\(A<=v.patch/\v.patch<=C)/\List.length (bJ v.major++D++bJ v.minor++D)+List.length (bJ v.patch)<=E/\if (!decide (v.pre=[]))=true then List.length (bJ v.major++D++bJ v.minor++D++bJ v.patch)+List.length F<=E/\List.length (bJ v.major++D++bJ v.minor++D++bJ v.patch++F)+List.length v.pre<=E/\True/\bJ v.major++D++bJ v.minor++D++bJ v.patch++F++v.pre=B.1/\G else True/\bJ v.major++D++bJ v.minor++D++bJ v.patch=B.1/\G:=by
 conv=>zeta
 refine a6 (fun a=>?_) (fun a=>?_)
 ·have a:¬bz v=0:=by simpa using a
  unfold cO
  rw [if_neg a]
  exact ⟨trivial,rfl,rfl,trivial⟩
 have a:bz v=0:=by simpa using a
 obtain ⟨b1,b2,b3,b4⟩:=kW a
 have c1:=rg v.major
 have c2:=rg v.minor
 have c3:=rg v.patch
 have e:cO v=(gH v,0):=by unfold cO;rw [if_pos a]
 rw [e]
 unfold gH
 simp only [List.length_append,List.length_cons,List.length_nil]
 refine ⟨b1,by omega,b2,by omega,by omega,b3,by omega,a6 (fun h=>?_) (fun h=>?_)⟩
 ·have h:¬v.pre=[]:=by simpa using h
  rw [if_neg h]
  exact ⟨by omega,by omega,trivial,by simp only [List.append_assoc],(by first | rfl | trivial),trivial⟩
 ·have h:v.pre=[]:=by simpa using h
  rw [if_pos h]
  exact ⟨trivial,(List.append_nil _).symm,(by first | rfl | trivial),trivial⟩
theorem ze (s:Str) (ho:s.length<=4096) :
  let A:=(↑(List.length s):Int);let B:=True;let C:=(0:Int);let D:=bQ s;let E:=[]=D.1.pre;let F:=B/\C=D.1.major/\C=D.1.minor/\C=D.1.patch/\E/\(40:Int)=D.2/\B;let G:=(2:Nat);let H:=(3:Nat);let I:=(99999999:Int);let J:=s=s;let K:=false=false;let L:=[C,C,C];let M:=List.length L=List.length L;let N:=C=C/\C=C/\C=C/\jk UInt8=jk UInt8/\B;let O:=(0:UInt8);let P:=(46:Int);let Q:=(1:Int);let R:=(2:Int);let S:=(↑(List.length L):Int);let T:=dfl (Ty.int IntKind.i64);let U:=(999999:Int);let V:=(10:Int);let W:=(48:Int);let X:=C<=C/\C<S;let Y:=C<=Q/\Q<S;let Z:=C<=R/\R<S;let a:=Int.toNat C;let b:=Int.toNat Q;let c:=Int.toNat R;let d:=List.take (Int.toNat A) s;let e:=C=D.2/\B;if decide ((60:Int)<A)=true then F else (∃(x:Nat × Nat × Nat × List Int),(x.2.1<=List.length s/\List.length s<x.2.1+x.1/\x.2.2.1<=G/\List.length x.2.2.2=H/\(∀(k:Nat),k<H→C<=List.getD x.2.2.2 k C/\List.getD x.2.2.2 k C<=I)/\er s=fM s (rvL s x.1 x.2.1 x.2.2.1 x.2.2.2))/\C=(↑x.2.1:Int)/\C=(↑x.2.2.1:Int)/\J/\K/\M/\L=x.2.2.2/\N)/\∀(x:Nat × Nat × Nat × List Int),let f:=(↑x.2.1:Int);let g:=C<=f/\f<A;let h:=(↑(UInt8.toNat (List.getD s (Int.toNat f) O)):Int);let i:=(↑x.2.2.1:Int);let j:=C<=i+Q/\i+Q<S;let l:=Int.toNat (i+Q)<List.length x.2.2.2;let m:=Int.toNat (i+Q);let n:=h - W;let o:=inR IntKind.u8 n;let p:=inR IntKind.i64 n;let q:=V*List.getD x.2.2.2 m T+n;let r:=inR IntKind.i64 (f+Q);let t:=r/\∃(y:Nat × Nat × Nat × List Int),(y.2.1<=List.length s/\List.length s<y.2.1+y.1/\y.2.2.1<=G/\List.length y.2.2.2=H/\(∀(k:Nat),k<H→C<=List.getD y.2.2.2 k C/\List.getD y.2.2.2 k C<=I)/\er s=fM s (rvL s y.1 y.2.1 y.2.2.1 y.2.2.2))/\y.1<x.1/\f+Q=(↑y.2.1:Int)/\i+Q=(↑y.2.2.1:Int)/\J/\K/\M/\x.2.2.2=y.2.2.2/\N;let u:=C<=i/\i<S;let v:=Int.toNat i<List.length x.2.2.2;let w:=Int.toNat i;let z:=V*List.getD x.2.2.2 w T+n;let A0:=r/\∃(y:Nat × Nat × Nat × List Int),(y.2.1<=List.length s/\List.length s<y.2.1+y.1/\y.2.2.1<=G/\List.length y.2.2.2=H/\(∀(k:Nat),k<H→C<=List.getD y.2.2.2 k C/\List.getD y.2.2.2 k C<=I)/\er s=fM s (rvL s y.1 y.2.1 y.2.2.1 y.2.2.2))/\y.1<x.1/\f+Q=(↑y.2.1:Int)/\i=(↑y.2.2.1:Int)/\J/\K/\M/\x.2.2.2=y.2.2.2/\N;let A1:=Int.toNat (f+Q);let A2:=(cO {major:=List.getD x.2.2.2 a T,minor:=List.getD x.2.2.2 b T,patch:=List.getD x.2.2.2 c T,pre:=List.drop A1 d:Vers});let A3:=List.getD x.2.2.2 a T=D.1.major;let A4:=List.getD x.2.2.2 b T=D.1.minor;let A5:=List.getD x.2.2.2 c T=D.1.patch;let A6:=(cO {major:=List.getD x.2.2.2 a T,minor:=List.getD x.2.2.2 b T,patch:=List.getD x.2.2.2 c T,pre:=[]:Vers});let A7:=X/\Int.toNat C<List.length x.2.2.2/\Y/\Int.toNat Q<List.length x.2.2.2/\Z/\Int.toNat R<List.length x.2.2.2/\if decide (f<A)=true then r/\(C<=f+Q/\f+Q<=A/\A<=A)/\if (!decide (A2.2=C))=true then F else if (!decide (A2.1=s))=true then F else B/\A3/\A4/\A5/\List.drop A1 d=D.1.pre/\e else if (!decide (A6.2=C))=true then F else if (!decide (A6.1=s))=true then F else B/\A3/\A4/\A5/\E/\e;x.2.1<=List.length s/\List.length s<x.2.1+x.1/\x.2.2.1<=G/\List.length x.2.2.2=H/\(∀(k:Nat),k<H→C<=List.getD x.2.2.2 k C/\List.getD x.2.2.2 k C<=I)/\er s=fM s (rvL s x.1 x.2.1 x.2.2.1 x.2.2.2)→if decide (f<A)=true then g/\if (!decide (h=(45:Int)))=true then g/\if decide (h=P)=true then inR IntKind.i64 (i+Q)/\if decide (R<i+Q)=true then F else g/\if (!decide (h=P))=true then j/\l/\if decide (List.getD x.2.2.2 m T<=U)=true then j/\l/\inR IntKind.i64 (V*List.getD x.2.2.2 m T)/\g/\o/\p/\inR IntKind.i64 q/\j/\l/\r/\∃(y:Nat × Nat × Nat × List Int),(y.2.1<=List.length s/\List.length s<y.2.1+y.1/\y.2.2.1<=G/\List.length y.2.2.2=H/\(∀(k:Nat),k<H→C<=List.getD y.2.2.2 k C/\List.getD y.2.2.2 k C<=I)/\er s=fM s (rvL s y.1 y.2.1 y.2.2.1 y.2.2.2))/\y.1<x.1/\f+Q=(↑y.2.1:Int)/\i+Q=(↑y.2.2.1:Int)/\J/\K/\M/\List.set x.2.2.2 m q=y.2.2.2/\N else t else t else g/\if decide (h<W)=true then F else g/\if decide ((57:Int)<h)=true then F else if decide (R<i)=true then F else g/\if (!decide (h=P))=true then u/\v/\if decide (List.getD x.2.2.2 w T<=U)=true then u/\v/\inR IntKind.i64 (V*List.getD x.2.2.2 w T)/\g/\o/\p/\inR IntKind.i64 z/\u/\v/\r/\∃(y:Nat × Nat × Nat × List Int),(y.2.1<=List.length s/\List.length s<y.2.1+y.1/\y.2.2.1<=G/\List.length y.2.2.2=H/\(∀(k:Nat),k<H→C<=List.getD y.2.2.2 k C/\List.getD y.2.2.2 k C<=I)/\er s=fM s (rvL s y.1 y.2.1 y.2.2.1 y.2.2.2))/\y.1<x.1/\f+Q=(↑y.2.1:Int)/\i=(↑y.2.2.1:Int)/\J/\K/\M/\List.set x.2.2.2 w z=y.2.2.2/\N else A0 else A0 else A7 else A7:=by
 conv=>zeta
 simp only [←z8 s]
 refine a6 (fun h=>?_) (fun h=>?_)
 ·have h:=Xo h
  have k6:er s=(noV,40):=by unfold er;rw [if_pos (by omega)]
  rw [k6];exact ⟨trivial,rfl,rfl,rfl,rfl,rfl,trivial⟩
 have ln:¬(60:Int) < (s.length:Int):=fun e=>h (Xd e)
 clear h
 have e:er s=fM s (rvL s (s.length+1) 0 0 [0,0,0]):=by unfold er;rw [if_neg (by omega)]
 have not_dec:∀{p:Prop} [Decidable p],(!decide p)=true→¬p:=fun {p} _ q=>by simpa using q
 have yes_dec:∀{p:Prop} [Decidable p],¬(!decide p)=true→p:=fun {p} _ q=>by simpa using q
 refine ⟨⟨(s.length+1,0,0,[0,0,0]),⟨Nat.zero_le _,by show s.length < 0+(s.length+1);omega,by show 0<=2;omega,rfl,?_,e⟩,rfl,rfl,?_⟩,?_⟩
 ·intro k hk
  have g:k=0∨k=1∨k=2:=by omega
  rcases g with rfl | rfl | rfl <;> exact (show (0:Int)<=0/\(0:Int)<=99999999 from ⟨by decide,by decide⟩)
 ·exact Xr
 clear e
 rintro ⟨f,i,p,r⟩ ⟨k1,k2,k3,k4,k5,k6⟩
 simp only at k1 k2 k3 k4 k5 k6 ⊢
 have eb:∀b:UInt8,(b.toNat:Int)=bI b:=fun _=>rfl
 have tn:∀a:Nat,Int.toNat ((a:Int)+1)=a+1:=fun a=>by omega
 have tt1:Int.toNat 1=1:=rfl
 have tt2:Int.toNat 2=2:=rfl
 have l3:List.length [(0:Int),(0:Int),(0:Int)]=3:=rfl
 have hz:∀k,r.getD k (dfl (Ty.int IntKind.i64))=r.getD k 0:=fun _=>rfl
 simp only [eb,tn,tt1,tt2,l3,hz,Int.toNat_natCast,Int.toNat_zero,List.take_length]
 cases f with
 | zero=>omega
 | succ f=>
 have hR:rvL s (f+1) i p r=if i < s.length/\¬bI (s.getD i 0)=45 then
   if bI (s.getD i 0)=46 then (if 2 < p+1 then none else rvL s f (i+1) (p+1) r)
   else if bI (s.getD i 0) < 48∨57 < bI (s.getD i 0) then none
   else rvL s f (i+1) p (if r.getD p 0<=999999 then r.set p (10 *r.getD p 0+(bI (s.getD i 0) - 48)) else r)
  else some (r,i):=rfl
 rw [hR] at k6
 clear hR eb tn tt1 tt2 l3 hz
 refine a6 (fun c=>?_) (fun c=>?_)
 ·have c:=Xo c
  have l0:(0:Int)<=(i:Int)/\(i:Int) < (s.length:Int):=⟨by omega,by omega⟩
  refine ⟨l0,a6 (fun d=>⟨l0,a6 (fun g=>⟨an (by omega) (by omega),a6 (fun m=>?_) (fun m=>⟨l0,a6 (fun q=>?_) (fun q=>?_)⟩)⟩) (fun g=>⟨l0,a6 (fun m=>?_) (fun m=>⟨l0,a6 (fun n=>?_) (fun n=>a6 (fun q=>?_) (fun q=>⟨l0,a6 (fun t=>?_) (fun t=>?_)⟩))⟩)⟩)⟩) (fun d=>?_)⟩
  ·have m:=Xo m
   rw [if_pos ⟨by omega,not_dec d⟩,if_pos (Xo g),if_pos (by omega)] at k6
   rw [k6];exact ⟨trivial,rfl,rfl,rfl,rfl,rfl,trivial⟩
  ·exact absurd (Xo g) (not_dec q)
  ·have m:¬(2:Int) < (p:Int)+1:=fun z=>m (Xd z)
   rw [if_pos ⟨by omega,not_dec d⟩,if_pos (Xo g),if_neg (by omega)] at k6
   refine ⟨an (by omega) (by omega),(f,i+1,p+1,r),⟨by show i+1<=s.length;omega,by show s.length < i+1+f;omega,by show p+1<=2;omega,k4,k5,k6⟩,by show f < f+1;omega,rfl,rfl,?_⟩
   exact Xr
  ·rw [if_pos ⟨by omega,not_dec d⟩,if_neg (fun z=>g (Xd z)),if_pos (.inl (Xo m))] at k6
   rw [k6];exact ⟨trivial,rfl,rfl,rfl,rfl,rfl,trivial⟩
  ·rw [if_pos ⟨by omega,not_dec d⟩,if_neg (fun z=>g (Xd z)),if_pos (.inr (Xo n))] at k6
   rw [k6];exact ⟨trivial,rfl,rfl,rfl,rfl,rfl,trivial⟩
  ·have q:=Xo q
   omega
  ·have m:¬bI (s.getD i 0) < 48:=fun z=>m (Xd z)
   have n:¬57 < bI (s.getD i 0):=fun z=>n (Xd z)
   rw [if_pos ⟨by omega,not_dec d⟩,if_neg (fun z=>g (Xd z)),if_neg (by omega)] at k6
   have k7:=k5 p (by omega)
   refine ⟨⟨by omega,by omega⟩,by omega,a6 (fun z=>?_) (fun z=>?_)⟩
   ·have z:=Xo z
    rw [if_pos z] at k6
    refine ⟨⟨by omega,by omega⟩,by omega,an (by omega) (by omega),l0,⟨by show (0:Int)<=_;omega,by show _<=(255:Int);omega⟩,an (by omega) (by omega),an (by omega) (by omega),⟨by omega,by omega⟩,by omega,an (by omega) (by omega),(f,i+1,p,r.set p (10 *r.getD p 0+(bI (s.getD i 0) - 48))),⟨by show i+1<=s.length;omega,by show s.length < i+1+f;omega,k3,by show (r.set p _).length=3;rw [List.length_set];exact k4,G3 k4 k3 k5 (by omega) (by omega),k6⟩,by show f < f+1;omega,rfl,rfl,?_⟩
    exact Xr
   ·rw [if_neg (fun y=>z (Xd y))] at k6
    refine ⟨an (by omega) (by omega),(f,i+1,p,r),⟨by show i+1<=s.length;omega,by show s.length < i+1+f;omega,k3,k4,k5,k6⟩,by show f < f+1;omega,rfl,rfl,?_⟩
    exact Xr
  ·exact absurd (yes_dec t) (fun z=>g (Xd z))
  ·rw [if_neg (fun q=>q.2 (yes_dec d))] at k6
   refine ⟨⟨Int.le_refl 0,by decide⟩,by omega,⟨by decide,by decide⟩,by omega,⟨by decide,by decide⟩,by omega,?_⟩
   have hG:fM s (some (r,i))=if ¬(cO (cz s r i)).2=0∨¬(cO (cz s r i)).1=s then (noV,40) else (cz s r i,0):=rfl
   rw [hG] at k6
   clear hG k5
   refine a6 (fun m=>?_) (fun m=>?_)
   ·have m:=Xo m
    have hv:cz s r i=⟨r.getD 0 0,r.getD 1 0,r.getD 2 0,s.drop (i+1)⟩:=by unfold cz;rw [if_pos (by omega)]
    rw [hv] at k6
    refine ⟨an (by omega) (by omega),⟨by omega,by omega,Int.le_refl _⟩,a6 (fun a=>?_) (fun a=>a6 (fun b=>?_) (fun b=>?_))⟩
    ·have a:=not_dec a
     rw [if_pos (.inl a)] at k6
     rw [k6];exact ⟨trivial,rfl,rfl,rfl,rfl,rfl,trivial⟩
    ·have b:=not_dec b
     rw [if_pos (.inr b)] at k6
     rw [k6];exact ⟨trivial,rfl,rfl,rfl,rfl,rfl,trivial⟩
    ·have a:=yes_dec a
     have b:=yes_dec b
     rw [if_neg (fun q=>q.elim (fun z=>z a) (fun z=>z b))] at k6
     rw [k6];exact ⟨trivial,rfl,rfl,rfl,rfl,rfl,trivial⟩
   ·have hv:cz s r i=⟨r.getD 0 0,r.getD 1 0,r.getD 2 0,[]⟩:=by unfold cz;rw [if_neg (fun q=>m (Xd (by omega)))]
    rw [hv] at k6
    refine a6 (fun a=>?_) (fun a=>a6 (fun b=>?_) (fun b=>?_))
    ·have a:=not_dec a
     rw [if_pos (.inl a)] at k6
     rw [k6];exact ⟨trivial,rfl,rfl,rfl,rfl,rfl,trivial⟩
    ·have b:=not_dec b
     rw [if_pos (.inr b)] at k6
     rw [k6];exact ⟨trivial,rfl,rfl,rfl,rfl,rfl,trivial⟩
    ·have a:=yes_dec a
     have b:=yes_dec b
     rw [if_neg (fun q=>q.elim (fun z=>z a) (fun z=>z b))] at k6
     rw [k6];exact ⟨trivial,rfl,rfl,rfl,rfl,rfl,trivial⟩
 ·rw [if_neg (fun q=>c (Xd (by omega)))] at k6
  refine ⟨⟨Int.le_refl 0,by decide⟩,by omega,⟨by decide,by decide⟩,by omega,⟨by decide,by decide⟩,by omega,?_⟩
  have hG:fM s (some (r,i))=if ¬(cO (cz s r i)).2=0∨¬(cO (cz s r i)).1=s then (noV,40) else (cz s r i,0):=rfl
  rw [hG] at k6
  clear hG k5
  refine a6 (fun m=>?_) (fun m=>?_)
  ·have m:=Xo m
   have hv:cz s r i=⟨r.getD 0 0,r.getD 1 0,r.getD 2 0,s.drop (i+1)⟩:=by unfold cz;rw [if_pos (by omega)]
   rw [hv] at k6
   refine ⟨an (by omega) (by omega),⟨by omega,by omega,Int.le_refl _⟩,a6 (fun a=>?_) (fun a=>a6 (fun b=>?_) (fun b=>?_))⟩
   ·have a:=not_dec a
    rw [if_pos (.inl a)] at k6
    rw [k6];exact ⟨trivial,rfl,rfl,rfl,rfl,rfl,trivial⟩
   ·have b:=not_dec b
    rw [if_pos (.inr b)] at k6
    rw [k6];exact ⟨trivial,rfl,rfl,rfl,rfl,rfl,trivial⟩
   ·have a:=yes_dec a
    have b:=yes_dec b
    rw [if_neg (fun q=>q.elim (fun z=>z a) (fun z=>z b))] at k6
    rw [k6];exact ⟨trivial,rfl,rfl,rfl,rfl,rfl,trivial⟩
  ·have hv:cz s r i=⟨r.getD 0 0,r.getD 1 0,r.getD 2 0,[]⟩:=by unfold cz;rw [if_neg (fun q=>m (Xd (by omega)))]
   rw [hv] at k6
   refine a6 (fun a=>?_) (fun a=>a6 (fun b=>?_) (fun b=>?_))
   ·have a:=not_dec a
    rw [if_pos (.inl a)] at k6
    rw [k6];exact ⟨trivial,rfl,rfl,rfl,rfl,rfl,trivial⟩
   ·have b:=not_dec b
    rw [if_pos (.inr b)] at k6
    rw [k6];exact ⟨trivial,rfl,rfl,rfl,rfl,rfl,trivial⟩
   ·have a:=yes_dec a
    have b:=yes_dec b
    rw [if_neg (fun q=>q.elim (fun z=>z a) (fun z=>z b))] at k6
    rw [k6];exact ⟨trivial,rfl,rfl,rfl,rfl,rfl,trivial⟩
theorem EP (p:Int)  :
  let A:=True;let B:=A/\false=eP p/\A;if decide ((0:Int)<=p)=true then if decide (p<=(1114111:Int))=true then if decide (p<(55296:Int))=true then A/\true=eP p/\A else A/\decide ((57343:Int)<p)=eP p/\A else B else B:=by
 conv=>zeta
 unfold eP
 by_cases a:0<=p <;> by_cases b:p<=1114111 <;> by_cases c:p < 55296 <;> simp [a,b,c]
theorem EQ (p:Int) (ho:0<=p/\p<=1114111) :
  let A:=(128:Int);let B:=True;let C:=(fun (n:Int)=>UInt8.ofNat (Int.toNat n));let D:=(64:Int);let E:=(0:Int);let F:=D≠E;let G:=Int.tdiv p D;let H:=F/\inR IntKind.i64 G;let I:=(192:Int)+Int.tdiv p D;let J:=F/\inR IntKind.i64 (Int.tmod p D);let K:=A+Int.tmod p D;let L:=inR IntKind.i64 (K);let M:=inR IntKind.u8 (K);let N:=(4096:Int);let O:=Int.tdiv p N;let P:=N≠E/\inR IntKind.i64 O;let Q:=(224:Int)+Int.tdiv p N;let R:=F/\inR IntKind.i64 (Int.tmod G D);let S:=A+Int.tmod G D;let T:=inR IntKind.i64 (S);let U:=inR IntKind.u8 (S);let V:=(262144:Int);let W:=(240:Int)+Int.tdiv p V;let X:=A+Int.tmod O D;if decide (p<A)=true then inR IntKind.u8 p/\B/\List.map C [p]=dm p/\B else if decide (p<(2048:Int))=true then H/\inR IntKind.i64 (I)/\inR IntKind.u8 (I)/\J/\L/\M/\B/\List.map C [I,K]=dm p/\B else if decide (p<(65536:Int))=true then P/\inR IntKind.i64 (Q)/\inR IntKind.u8 (Q)/\H/\R/\T/\U/\J/\L/\M/\B/\List.map C [Q,S,K]=dm p/\B else (V≠E/\inR IntKind.i64 (Int.tdiv p V))/\inR IntKind.i64 (W)/\inR IntKind.u8 (W)/\P/\(F/\inR IntKind.i64 (Int.tmod O D))/\inR IntKind.i64 (X)/\inR IntKind.u8 (X)/\H/\R/\T/\U/\J/\L/\M/\B/\List.map C [W,X,S,K]=dm p/\B:=by
 conv=>zeta
 obtain ⟨h1,h2⟩:=ho
 have t1:Int.tdiv p 64=p / 64:=Int.tdiv_eq_ediv_of_nonneg h1
 have t2:Int.tdiv p 4096=p / 4096:=Int.tdiv_eq_ediv_of_nonneg h1
 have t3:Int.tdiv p 262144=p / 262144:=Int.tdiv_eq_ediv_of_nonneg h1
 have m0:Int.tmod p 64=p % 64:=Int.tmod_eq_emod_of_nonneg h1
 have m1:Int.tmod (p / 64) 64=p / 64 % 64:=Int.tmod_eq_emod_of_nonneg (by omega)
 have m2:Int.tmod (p / 4096) 64=p / 4096 % 64:=Int.tmod_eq_emod_of_nonneg (by omega)
 simp only [t1,t2,t3,m0,m1,m2]
 have u8:∀n:Int,0<=n→n<=255→inR IntKind.u8 n:=fun n a b=>⟨a,b⟩
 have i64:∀n:Int,-10000000<=n→n<=10000000→inR IntKind.i64 n:=fun n a b=>an (by omega) (by omega)
 unfold dm jv
 refine a6 (fun a=>?_) (fun a=>?_)
 ·have a:=Xo a
  rw [if_pos a]
  exact ⟨u8 _ (by omega) (by omega),trivial,rfl,trivial⟩
 have a:¬p < 128:=fun e=>a (Xd e)
 rw [if_neg a]
 refine a6 (fun b=>?_) (fun b=>?_)
 ·have b:=Xo b
  rw [if_pos b]
  repeat (first | exact trivial | refine ⟨by first | rfl | trivial | (exact ⟨by decide,i64 _ (by omega) (by omega)⟩) | (exact i64 _ (by omega) (by omega)) | (exact u8 _ (by omega) (by omega)),?_⟩)
 have b:¬p < 2048:=fun e=>b (Xd e)
 rw [if_neg b]
 refine a6 (fun d=>?_) (fun d=>?_)
 ·have d:=Xo d
  rw [if_pos d]
  repeat (first | exact trivial | refine ⟨by first | rfl | trivial | (exact ⟨by decide,i64 _ (by omega) (by omega)⟩) | (exact i64 _ (by omega) (by omega)) | (exact u8 _ (by omega) (by omega)),?_⟩)
 ·have d:¬p < 65536:=fun e=>d (Xd e)
  rw [if_neg d]
  repeat (first | exact trivial | refine ⟨by first | rfl | trivial | (exact ⟨by decide,i64 _ (by omega) (by omega)⟩) | (exact i64 _ (by omega) (by omega)) | (exact u8 _ (by omega) (by omega)),?_⟩)
theorem ER (s:Str) (hs:Wf .str s) :
  let A:=(0:Int);let B:=iI s;let C:=True/\A=B.1/\A=B.2/\True;let D:=(↑(List.length s):Int);let E:=A<=A/\A<D;let F:=(0:UInt8);let G:=(↑(UInt8.toNat (List.getD s (Int.toNat A) F)):Int);let H:=inR IntKind.i64 G;let I:=(240:Int);let J:=(↑(cr s):Int);let K:=false=false/\True;let L:=s=s/\A=A/\A=A/\K;let M:=(224:Int);let N:=(192:Int);let O:=(1:Int);let P:=(1:Nat);let Q:=(-300:Int);let R:=(300:Int);let S:=(2:Nat);let T:=(-20000:Int);let U:=(20000:Int);let V:=(3:Nat);let W:=(-1300000:Int);let X:=(1300000:Int);let Y:=(4:Nat);let Z:=(-90000000:Int);let a:=(90000000:Int);let b:=J=J/\s=s/\A=A/\A=A/\false=false/\K;let c:=(64:Int);if decide (s=[])=true then C else E/\H/\(E/\if decide (I<=G)=true then E/\H/\inR IntKind.i64 (G - I)/\(4:Int)=J/\G - I=fR s/\L else E/\if decide (M<=G)=true then E/\H/\inR IntKind.i64 (G - M)/\(3:Int)=J/\G - M=fR s/\L else E/\if decide (N<=G)=true then E/\H/\inR IntKind.i64 (G - N)/\(2:Int)=J/\G - N=fR s/\L else O=J/\G=fR s/\L)/\if decide (D<J)=true then C else (∃(x:Nat),(P<=x/\x<=cr s/\(x=P→Q<=aO s x/\aO s x<=R)/\(x=S→T<=aO s x/\aO s x<=U)/\(x=V→W<=aO s x/\aO s x<=X)/\(x=Y→Z<=aO s x/\aO s x<=a))/\O=(↑x:Int)/\fR s=aO s x/\b)/\∀(x:Nat),let d:=(↑x:Int);let e:=(↑(UInt8.toNat (List.getD s (Int.toNat d) F)):Int);P<=x/\x<=cr s/\(x=P→Q<=aO s x/\aO s x<=R)/\(x=S→T<=aO s x/\aO s x<=U)/\(x=V→W<=aO s x/\aO s x<=X)/\(x=Y→Z<=aO s x/\aO s x<=a)→if decide (d<J)=true then inR IntKind.i64 (aO s x*c)/\(A<=d/\d<D)/\inR IntKind.i64 e/\inR IntKind.i64 (aO s x*c+e)/\inR IntKind.i64 (aO s x*c+e - (128:Int))/\inR IntKind.i64 (d+O)/\∃(y:Nat),(P<=y/\y<=cr s/\(y=P→Q<=aO s y/\aO s y<=R)/\(y=S→T<=aO s y/\aO s y<=U)/\(y=V→W<=aO s y/\aO s y<=X)/\(y=Y→Z<=aO s y/\aO s y<=a))/\cr s - y<cr s - x/\d+O=(↑y:Int)/\aO s x*c+e - (128:Int)=aO s y/\b else if (!eP (aO s x))=true then C else (A<=aO s x/\aO s x<=(1114111:Int))/\(A<=A/\A<=J/\J<=D)/\if (!decide (dm (aO s x)=List.drop (Int.toNat A) (List.take (Int.toNat J) s)))=true then C else True/\aO s x=B.1/\J=B.2/\True:=by
 conv=>zeta
 have ln:=hs.str
 refine a6 (fun h=>?_) (fun h=>?_)
 ·have h:=Xo h
  subst h
  exact ⟨trivial,rfl,rfl,trivial⟩
 have hne:s≠[]:=fun e=>h (Xd e)
 have hpos:=List.length_pos_iff.2 hne
 have eb:∀b:UInt8,(b.toNat:Int)=bI b:=fun _=>rfl
 simp only [eb,Int.toNat_zero,Int.toNat_natCast]
 obtain ⟨n1,n2⟩:=Du (s.getD 0 0)
 have i64:∀n:Int,-10000000000<=n→n<=10000000000→inR IntKind.i64 n:=fun n a b=>an (by omega) (by omega)
 have l0:(0:Int)<=0/\(0:Int) < (s.length:Int):=⟨by omega,by omega⟩
 have hL:cr s=if 240<=bI (s.getD 0 0) then 4 else if 224<=bI (s.getD 0 0) then 3 else if 192<=bI (s.getD 0 0) then 2 else 1:=rfl
 have h0:fR s=if 240<=bI (s.getD 0 0) then bI (s.getD 0 0) - 240 else if 224<=bI (s.getD 0 0) then bI (s.getD 0 0) - 224 else if 192<=bI (s.getD 0 0) then bI (s.getD 0 0) - 192 else bI (s.getD 0 0):=rfl
 refine ⟨l0,i64 _ (by omega) (by omega),⟨l0,a6 (fun a=>?_) (fun a=>⟨l0,a6 (fun b=>?_) (fun b=>⟨l0,a6 (fun c=>?_) (fun c=>?_)⟩)⟩)⟩,?_⟩
 ·have a:=Xo a
  rw [if_pos a] at hL h0
  refine ⟨l0,i64 _ (by omega) (by omega),i64 _ (by omega) (by omega),by rw [hL];rfl,h0.symm,?_⟩
  exact Xr
 ·have a:¬240<=bI (s.getD 0 0):=fun e=>a (Xd e)
  have b:=Xo b
  rw [if_neg a,if_pos b] at hL h0
  refine ⟨l0,i64 _ (by omega) (by omega),i64 _ (by omega) (by omega),by rw [hL];rfl,h0.symm,?_⟩
  exact Xr
 ·have a:¬240<=bI (s.getD 0 0):=fun e=>a (Xd e)
  have b:¬224<=bI (s.getD 0 0):=fun e=>b (Xd e)
  have c:=Xo c
  rw [if_neg a,if_neg b,if_pos c] at hL h0
  refine ⟨l0,i64 _ (by omega) (by omega),i64 _ (by omega) (by omega),by rw [hL];rfl,h0.symm,?_⟩
  exact Xr
 ·have a:¬240<=bI (s.getD 0 0):=fun e=>a (Xd e)
  have b:¬224<=bI (s.getD 0 0):=fun e=>b (Xd e)
  have c:¬192<=bI (s.getD 0 0):=fun e=>c (Xd e)
  rw [if_neg a,if_neg b,if_neg c] at hL h0
  refine ⟨by rw [hL];rfl,h0.symm,?_⟩
  exact Xr
 have hb0:-300<=fR s/\fR s<=300:=by rw [h0];(repeat' split) <;> omega
 have hb1:1<=cr s/\cr s<=4:=by rw [hL];(repeat' split) <;> omega
 clear hL h0 n1 n2
 refine a6 (fun a=>?_) (fun a=>?_)
 ·have a:=Xo a
  have e:iI s=(0,0):=by unfold iI;rw [if_neg hne,if_pos (by omega)]
  rw [e]
  exact ⟨trivial,rfl,rfl,trivial⟩
 have a:¬(s.length:Int) < (cr s:Int):=fun e=>a (Xd e)
 have hF:iI s=if eP (aO s (cr s))=true/\dm (aO s (cr s))=s.take (cr s) then (aO s (cr s),(cr s:Int)) else (0,0):=by unfold iI;rw [if_neg hne,if_neg (by omega)]
 refine ⟨⟨1,⟨Nat.le_refl _,hb1.1,fun _=>hb0,fun e=>by omega,fun e=>by omega,fun e=>by omega⟩,?_⟩,?_⟩
 ·exact Xr
 rintro k ⟨k1,k2,k3,k4,k5,k6⟩
 refine a6 (fun b=>?_) (fun b=>?_)
 ·have b:k < cr s:=by have:=Xo b;omega
  obtain ⟨m1,m2⟩:=Du (s.getD k 0)
  have hf:aO s (k+1)=aO s k *64+bI (s.getD k 0) - 128:=by
   obtain ⟨j,rfl⟩:∃j,k=j+1:=⟨k - 1,by omega⟩
   rfl
  have hk:k=1∨k=2∨k=3:=by omega
  have hb:-1300000<=aO s k/\aO s k<=1300000:=by
   rcases hk with e | e | e
   ·have:=k3 e;omega
   ·have:=k4 e;omega
   ·exact k5 e
  refine ⟨i64 _ (by omega) (by omega),⟨by omega,by omega⟩,i64 _ (by omega) (by omega),i64 _ (by omega) (by omega),i64 _ (by omega) (by omega),i64 _ (by omega) (by omega),k+1,⟨by omega,by omega,fun e=>by omega,fun e=>by have:=k3 (by omega);omega,fun e=>by have:=k4 (by omega);omega,fun e=>by have:=k5 (by omega);omega⟩,by omega,by omega,hf.symm,?_⟩
  exact Xr
 ·have b:k=cr s:=by
   have:¬((k:Int) < (cr s:Int)):=fun e=>b (Xd e)
   omega
  subst b
  simp only [List.drop_zero]
  refine a6 (fun c=>?_) (fun c=>?_)
  ·rw [if_neg (fun e=>by rw [e.1] at c;cases c)] at hF
   rw [hF]
   exact ⟨trivial,rfl,rfl,trivial⟩
  have c:eP (aO s (cr s))=true:=by simpa using c
  have c':=c
  unfold eP at c'
  simp only [Bool.and_eq_true,decide_eq_true_eq] at c'
  refine ⟨⟨c'.1.1,c'.1.2⟩,⟨by omega,by omega,by omega⟩,a6 (fun d=>?_) (fun d=>?_)⟩
  ·have d:¬dm (aO s (cr s))=s.take (cr s):=by simpa using d
   rw [if_neg (fun e=>d e.2)] at hF
   rw [hF]
   exact ⟨trivial,rfl,rfl,trivial⟩
  ·have d:dm (aO s (cr s))=s.take (cr s):=by simpa using d
   rw [if_pos ⟨c,d⟩] at hF
   rw [hF]
   exact ⟨trivial,rfl,rfl,trivial⟩
theorem zf (s:Str) (ho:s.length<=4096) :
  let A:=(0:Int);let B:=True;let C:=A=A/\A=A/\B;let D:=s=s/\A=A/\C;let E:=(↑(List.length s):Int);let F:=(0:UInt8);let G:=(1:Int);let H:=ae aE s A;let I:=(45:Int);let J:=true=decide (List.length s<=ae aE s A+(1:Nat)∨bI (List.getD s H F)≠I∨bI (List.getD s (ae aE s A+(1:Nat)) F)≠I);let K:=(↑H:Int);let L:=false=false/\C;let M:=s=s/\A=A/\L;let N:=bL s;let O:=A=N.2.err/\A=N.2.pos/\B;let P:=false=false/\s=s/\L;let Q:=List.take (Int.toNat E) s;let R:=if decide (List.length s<=ae aE s A+(1:Nat)∨bI (List.getD s H F)≠I∨bI (List.getD s (ae aE s A+(1:Nat)) F)≠I)=true then B/\K=N.1/\O else (∃(x:Nat × Nat),(x.1<=List.length s/\List.length s<x.1+x.2/\bL s=jw s x.2 x.1)/\K=(↑x.1:Int)/\P)/\∀(x:Nat × Nat),let S:=(↑x.1:Int);let T:=iI (List.drop (Int.toNat S) Q);let U:=B/\S=N.1/\O;x.1<=List.length s/\List.length s<x.1+x.2/\bL s=jw s x.2 x.1→if decide (S<E)=true then (A<=S/\S<E)/\if (!decide ((↑(UInt8.toNat (List.getD s (Int.toNat S) F)):Int)=(10:Int)))=true then (A<=S/\S<=E/\E<=E)/\if decide (T.2=A)=true then B/\A=N.1/\(30:Int)=N.2.err/\S=N.2.pos/\B else inR IntKind.i64 (S+T.2)/\∃(y:Nat × Nat),(y.1<=List.length s/\List.length s<y.1+y.2/\bL s=jw s y.2 y.1)/\y.2<x.2/\S+T.2=(↑y.1:Int)/\P else U else U;(∃(x:Nat),(x<=List.length s/\ae aE s A=x+ae aE s (↑x:Int))/\A=(↑x:Int)/\D)/\∀(x:Nat),let S:=(↑x:Int);let T:=A<=S/\S<E;let U:=(↑(UInt8.toNat (List.getD s (Int.toNat S) F)):Int);let V:=inR IntKind.i64 (S+G);let W:=V/\∃(y:Nat),(y<=List.length s/\ae aE s A=y+ae aE s (↑y:Int))/\List.length s - y<List.length s - x/\S+G=(↑y:Int)/\D;let X:=J/\S=K/\M;let Y:=(V/\if decide (E<=S+G)=true then X else T/\if (!decide (U=I))=true then X else V/\(A<=S+G/\S+G<E)/\(!decide ((↑(UInt8.toNat (List.getD s (Int.toNat (S+G)) F)):Int)=I))=decide (List.length s<=ae aE s A+(1:Nat)∨bI (List.getD s H F)≠I∨bI (List.getD s (ae aE s A+(1:Nat)) F)≠I)/\S=K/\M)/\R;x<=List.length s/\ae aE s A=x+ae aE s S→if decide (S<E)=true then T/\if decide (U=(9:Int))=true then W else T/\if decide (U=(10:Int))=true then W else T/\if decide (U=(13:Int))=true then W else T/\if decide (U=(32:Int))=true then W else Y else Y:=by
 conv=>zeta
 have ln:=ho
 have eb:∀b:UInt8,(b.toNat:Int)=bI b:=fun _=>rfl
 simp only [eb,Int.toNat_natCast,List.take_length,oQ]
 refine ⟨⟨0,⟨Nat.zero_le _,by simp⟩,rfl,?_⟩,?_⟩
 ·exact Xr
 rintro x ⟨h1,h2⟩
 refine a6 (fun h=>?_) (fun h=>?_)
 ·have hk:x < s.length:=by have:=Xo h;omega
  clear h
  have l0:(0:Int)<=(x:Int)/\(x:Int) < (s.length:Int):=⟨by omega,by omega⟩
  refine ⟨l0,a6 (fun a=>?_) (fun a=>⟨l0,a6 (fun b=>?_) (fun b=>⟨l0,a6 (fun c=>?_) (fun c=>⟨l0,a6 (fun d=>?_) (fun d=>?_)⟩)⟩)⟩)⟩
  ·have hb:aE (bI (s.getD x 0))=true:=(dJ _).2 (by have:=Xo a;omega)
   refine ⟨an (by omega) (by omega),x+1,⟨by omega,lz hk hb h2⟩,by omega,by omega,?_⟩
   exact Xr
  ·have hb:aE (bI (s.getD x 0))=true:=(dJ _).2 (by have:=Xo b;omega)
   refine ⟨an (by omega) (by omega),x+1,⟨by omega,lz hk hb h2⟩,by omega,by omega,?_⟩
   exact Xr
  ·have hb:aE (bI (s.getD x 0))=true:=(dJ _).2 (by have:=Xo c;omega)
   refine ⟨an (by omega) (by omega),x+1,⟨by omega,lz hk hb h2⟩,by omega,by omega,?_⟩
   exact Xr
  ·have hb:aE (bI (s.getD x 0))=true:=(dJ _).2 (by have:=Xo d;omega)
   refine ⟨an (by omega) (by omega),x+1,⟨by omega,lz hk hb h2⟩,by omega,by omega,?_⟩
   exact Xr
  replace a:¬bI (s.getD x 0)=9:=fun e=>a (Xd e)
  replace b:¬bI (s.getD x 0)=10:=fun e=>b (Xd e)
  replace c:¬bI (s.getD x 0)=13:=fun e=>c (Xd e)
  replace d:¬bI (s.getD x 0)=32:=fun e=>d (Xd e)
  have hb:aE (bI (s.getD x 0))=false:=by
   cases e:aE (bI (s.getD x 0)) with
   | false=>rfl
   | true=>have:=(dJ _).1 e;omega
  have hx:=yX hk hb h2
  clear a b c d hb l0 h2
  rw [hx]
  have hP:bL s=if s.length<=x+1∨bI (s.getD x 0)≠45∨bI (s.getD (x+1) 0)≠45 then ((x:Int),⟨0,0⟩) else jw s (s.length+1) x:=by unfold bL;rw [hx]
  have t1:Int.toNat ((x:Int)+1)=x+1:=by omega
  rw [t1]
  refine ⟨⟨an (by omega) (by omega),a6 (fun a=>?_) (fun a=>?_)⟩,a6 (fun g=>?_) (fun g=>?_)⟩
  ·have a:=Xo a
   refine ⟨(Xd (.inl (by omega))).symm,rfl,?_⟩
   exact Xr
  ·have a:¬(s.length:Int)<=(x:Int)+1:=fun e=>a (Xd e)
   refine ⟨⟨by omega,by omega⟩,a6 (fun b=>?_) (fun b=>?_)⟩
   ·have b:¬bI (s.getD x 0)=45:=by simpa using b
    refine ⟨(Xd (.inr (.inl b))).symm,rfl,?_⟩
    exact Xr
   ·have b:bI (s.getD x 0)=45:=by simpa using b
    refine ⟨an (by omega) (by omega),⟨by omega,by omega⟩,?_,rfl,?_⟩
    ·rw [Bool.eq_iff_iff,decide_eq_true_iff,Bool.not_eq_true',decide_eq_false_iff_not]
     constructor
     ·exact fun e=>.inr (.inr e)
     ·rintro (e | e | e)
      ·omega
      ·exact absurd b e
      ·exact e
    exact Xr
  ·rw [hP,if_pos (Xo g)]
   exact ⟨trivial,rfl,rfl,rfl,trivial⟩
  ·have g':=fun e=>g (Xd e)
   refine ⟨⟨(x,s.length+1),⟨h1,by show s.length < x+(s.length+1);omega,by rw [hP,if_neg g']⟩,rfl,?_⟩,?_⟩
   ·exact Xr
   clear hP t1 g g' hx h1
   rintro ⟨n,f⟩ ⟨k1,k2,k3⟩
   simp only at k1 k2 k3 ⊢
   cases f with
   | zero=>omega
   | succ f=>
    have hR:jw s (f+1) n=if n < s.length/\bI (s.getD n 0)≠10 then (if ce (s.drop n)=0 then (0,⟨30,n⟩) else jw s f (n+ce (s.drop n))) else (n,⟨0,0⟩):=rfl
    rw [hR] at k3
    have hu:=jV k1
    refine a6 (fun c=>?_) (fun c=>?_)
    ·have c:=Xo c
     refine ⟨⟨by omega,by omega⟩,a6 (fun d=>?_) (fun d=>?_)⟩
     ·have d:¬bI (s.getD n 0)=10:=by simpa using d
      rw [if_pos ⟨by omega,d⟩] at k3
      refine ⟨⟨by omega,by omega,by omega⟩,a6 (fun e=>?_) (fun e=>?_)⟩
      ·have e:=Xo e
       rw [if_pos (by omega)] at k3
       rw [k3]
       exact ⟨trivial,rfl,rfl,rfl,trivial⟩
      ·have e:¬((ce (s.drop n):Nat):Int)=0:=fun q=>e (Xd q)
       rw [if_neg (by omega)] at k3
       refine ⟨an (by omega) (by omega),(n+ce (s.drop n),f),⟨hu,by show s.length < n+ce (s.drop n)+f;omega,k3⟩,by show f < f+1;omega,rfl,?_⟩
       exact Xr
     ·have d:bI (s.getD n 0)=10:=by simpa using d
      rw [if_neg (fun q=>q.2 d)] at k3
      rw [k3]
      exact ⟨trivial,rfl,rfl,rfl,trivial⟩
    ·have c:¬(n:Int) < (s.length:Int):=fun e=>c (Xd e)
     rw [if_neg (fun q=>c (by omega))] at k3
     rw [k3]
     exact ⟨trivial,rfl,rfl,rfl,trivial⟩
 ·have hk:s.length<=x:=by
   have:¬(x:Int) < (s.length:Int):=fun e=>h (Xd e)
   omega
  have hx:=C9 hk h2
  clear h h2
  rw [hx]
  have hP:bL s=if s.length<=x+1∨bI (s.getD x 0)≠45∨bI (s.getD (x+1) 0)≠45 then ((x:Int),⟨0,0⟩) else jw s (s.length+1) x:=by unfold bL;rw [hx]
  have t1:Int.toNat ((x:Int)+1)=x+1:=by omega
  rw [t1]
  refine ⟨⟨an (by omega) (by omega),a6 (fun a=>?_) (fun a=>?_)⟩,a6 (fun g=>?_) (fun g=>?_)⟩
  ·have a:=Xo a
   refine ⟨(Xd (.inl (by omega))).symm,rfl,?_⟩
   exact Xr
  ·have a:¬(s.length:Int)<=(x:Int)+1:=fun e=>a (Xd e)
   refine ⟨⟨by omega,by omega⟩,a6 (fun b=>?_) (fun b=>?_)⟩
   ·have b:¬bI (s.getD x 0)=45:=by simpa using b
    refine ⟨(Xd (.inr (.inl b))).symm,rfl,?_⟩
    exact Xr
   ·have b:bI (s.getD x 0)=45:=by simpa using b
    refine ⟨an (by omega) (by omega),⟨by omega,by omega⟩,?_,rfl,?_⟩
    ·rw [Bool.eq_iff_iff,decide_eq_true_iff,Bool.not_eq_true',decide_eq_false_iff_not]
     constructor
     ·exact fun e=>.inr (.inr e)
     ·rintro (e | e | e)
      ·omega
      ·exact absurd b e
      ·exact e
    exact Xr
  ·rw [hP,if_pos (Xo g)]
   exact ⟨trivial,rfl,rfl,rfl,trivial⟩
  ·have g':=fun e=>g (Xd e)
   refine ⟨⟨(x,s.length+1),⟨h1,by show s.length < x+(s.length+1);omega,by rw [hP,if_neg g']⟩,rfl,?_⟩,?_⟩
   ·exact Xr
   clear hP t1 g g' hx h1
   rintro ⟨n,f⟩ ⟨k1,k2,k3⟩
   simp only at k1 k2 k3 ⊢
   cases f with
   | zero=>omega
   | succ f=>
    have hR:jw s (f+1) n=if n < s.length/\bI (s.getD n 0)≠10 then (if ce (s.drop n)=0 then (0,⟨30,n⟩) else jw s f (n+ce (s.drop n))) else (n,⟨0,0⟩):=rfl
    rw [hR] at k3
    have hu:=jV k1
    refine a6 (fun c=>?_) (fun c=>?_)
    ·have c:=Xo c
     refine ⟨⟨by omega,by omega⟩,a6 (fun d=>?_) (fun d=>?_)⟩
     ·have d:¬bI (s.getD n 0)=10:=by simpa using d
      rw [if_pos ⟨by omega,d⟩] at k3
      refine ⟨⟨by omega,by omega,by omega⟩,a6 (fun e=>?_) (fun e=>?_)⟩
      ·have e:=Xo e
       rw [if_pos (by omega)] at k3
       rw [k3]
       exact ⟨trivial,rfl,rfl,rfl,trivial⟩
      ·have e:¬((ce (s.drop n):Nat):Int)=0:=fun q=>e (Xd q)
       rw [if_neg (by omega)] at k3
       refine ⟨an (by omega) (by omega),(n+ce (s.drop n),f),⟨hu,by show s.length < n+ce (s.drop n)+f;omega,k3⟩,by show f < f+1;omega,rfl,?_⟩
       exact Xr
     ·have d:bI (s.getD n 0)=10:=by simpa using d
      rw [if_neg (fun q=>q.2 d)] at k3
      rw [k3]
      exact ⟨trivial,rfl,rfl,rfl,trivial⟩
    ·have c:¬(n:Int) < (s.length:Int):=fun e=>c (Xd e)
     rw [if_neg (fun q=>c (by omega))] at k3
     rw [k3]
     exact ⟨trivial,rfl,rfl,rfl,trivial⟩
theorem zg (s:Str) (hs:Wf .str s) :
  let A:=(0:Int);let B:=True;let C:=(↑(List.length s):Int);let D:=B/\false=lV s/\B;let E:=(1:Int);(∃(x:Nat),(x<=List.length s/\List.all s dL=List.all (List.drop x s) dL)/\A=(↑x:Int)/\s=s/\B)/\∀(x:Nat),let F:=(↑x:Int);x<=List.length s/\List.all s dL=List.all (List.drop x s) dL→if decide (F<C)=true then (A<=F/\F<C)/\if (!aK (↑(UInt8.toNat (List.getD s (Int.toNat F) (0:UInt8))):Int))=true then D else inR IntKind.i64 (F+E)/\∃(y:Nat),(y<=List.length s/\List.all s dL=List.all (List.drop y s) dL)/\List.length s - y<List.length s - x/\F+E=(↑y:Int)/\s=s/\B else if decide (E<=C)=true then if decide (C<=(15:Int))=true then if decide (C=E)=true then B/\true=lV s/\B else (A<=A/\A<C)/\B/\(!decide ((↑(UInt8.toNat (List.getD s (Int.toNat A) (0:UInt8))):Int)=(48:Int)))=lV s/\B else D else D:=by
 conv=>zeta
 have ln:=hs.str
 have eb:∀b:UInt8,(b.toNat:Int)=bI b:=fun _=>rfl
 have ed:∀b:UInt8,aK (bI b)=dL b:=fun _=>rfl
 simp only [eb,ed,Int.toNat_natCast,Int.toNat_zero]
 refine ⟨⟨0,⟨Nat.zero_le _,rfl⟩,?_⟩,?_⟩
 ·exact Xr
 rintro k ⟨h1,h2⟩
 refine a6 (fun h=>?_) (fun h=>?_)
 ·have hk:k < s.length:=by have:=Xo h;omega
  rw [bf s k 0 hk,List.all_cons] at h2
  refine ⟨⟨by omega,by omega⟩,a6 (fun a=>?_) (fun a=>?_)⟩
  ·have a:dL (s.getD k 0)=false:=by simpa using a
   refine ⟨trivial,?_,trivial⟩
   unfold lV
   rw [h2,a]
   rfl
  ·have a:dL (s.getD k 0)=true:=by simpa using a
   rw [a,Bool.true_and] at h2
   refine ⟨cp hk ln,k+1,⟨by omega,h2⟩,by omega,by omega,?_⟩
   exact Xr
 ·have hk:k=s.length:=by
   have:¬((k:Int) < (s.length:Int)):=fun e=>h (Xd e)
   omega
  rw [hk,List.drop_length] at h2
  have h2:s.all dL=true:=h2
  unfold lV
  rw [h2]
  refine a6 (fun a=>?_) (fun a=>?_)
  ·have a:=Xo a
   refine a6 (fun b=>?_) (fun b=>?_)
   ·have b:=Xo b
    rw [Xd (p:=1<=s.length) (by omega),Xd (p:=s.length<=15) (by omega)]
    refine a6 (fun c=>?_) (fun c=>?_)
    ·have c:=Xo c
     rw [Xd (p:=s.length=1) (by omega)]
     exact ⟨trivial,rfl,trivial⟩
    ·have c:¬(s.length:Int)=1:=fun e=>c (Xd e)
     rw [Xf (p:=s.length=1) (by omega)]
     refine ⟨⟨by omega,by omega⟩,trivial,?_,trivial⟩
     simp
   ·have b:¬(s.length:Int)<=15:=fun e=>b (Xd e)
    rw [Xf (p:=s.length<=15) (by omega)]
    exact ⟨trivial,by simp,trivial⟩
  ·have a:¬(1:Int)<=(s.length:Int):=fun e=>a (Xd e)
   rw [Xf (p:=1<=s.length) (by omega)]
   exact ⟨trivial,by simp,trivial⟩
theorem ES (s:Str)  :
  True/\decide (s∈[([40]:Str),([41]:Str),([123]:Str),([125]:Str),([91]:Str),([93]:Str),([60]:Str),([62]:Str),([60,61]:Str),([62,61]:Str),([61]:Str),([94]:Str),([42]:Str),([44]:Str),([58]:Str),([46]:Str),([47]:Str),([64]:Str),([124]:Str),([45,62]:Str)])=fG s/\True:=by
 refine ⟨trivial,?_,trivial⟩
 exact Bool.eq_iff_iff.2 (decide_eq_true_iff.trans (C8 s))
theorem zh (s:Str) (ho:s.length<=4096/\0 < s.length) :
  let A:=(1:Int);let B:=s=s;let C:=(0:Int);let D:=C=C;let E:=(60:Int);let F:=True;let G:=D/\jk UInt8=jk UInt8/\D/\D/\D/\E=E/\D/\F;let H:=(↑(List.length s):Int);let I:=(0:UInt8);let J:=cw s;let K:=C=J.1.pos;let L:=C=J.2.2.pos/\F;let M:=C=J.1.kind;let N:=[]=J.1.text;let O:=F/\M/\N/\K/\C=J.2.1/\E=J.2.2.err/\L;let P:=[(10:Int)];let Q:=(1:Nat);let R:=(140737488355328:Nat);let S:=(2:Int);let T:=[(9:Int)];let U:=List.take (Int.toNat H) s;(∃(x:Nat × Str × Nat),(x.2.2<=List.length s/\List.length x.2.1<=x.2.2/\List.length s<x.2.2+x.1/\cw s=b8 s x.1 x.2.1 x.2.2)/\aB x.2.1=[]/\A=(↑x.2.2:Int)/\B/\List.length (aB x.2.1)=(0:Nat)/\G)/\∀(x:Nat × Str × Nat),let V:=(↑x.2.2:Int);let W:=C<=V/\V<H;let X:=Int.toNat V;let Y:=(↑(UInt8.toNat (List.getD s X I)):Int);let Z:=inR IntKind.i64 (V+A);let a:=aB x.2.1;let b:=C<=V+A/\V+A<H;let c:=(↑(UInt8.toNat (List.getD s (Int.toNat (V+A)) I)):Int);let d:=List.length a=List.length a;let e:=inR IntKind.i64 (V+S);let f:=Z/\b/\(d/\(List.length a+List.length [c])*Q<=R)/\e/\∃(y:Nat × Str × Nat),(y.2.2<=List.length s/\List.length y.2.1<=y.2.2/\List.length s<y.2.2+y.1/\cw s=b8 s y.1 y.2.1 y.2.2)/\y.1<x.1/\aB x.2.1++[c]=aB y.2.1/\V+S=(↑y.2.2:Int)/\B/\List.length (aB x.2.1++[c])=List.length (aB y.2.1)/\G;let g:=iI (List.drop X U);let h:=inR IntKind.i64 (V+g.2);let i:=List.drop X (List.take (Int.toNat (V+g.2)) s);x.2.2<=List.length s/\List.length x.2.1<=x.2.2/\List.length s<x.2.2+x.1/\cw s=b8 s x.1 x.2.1 x.2.2→if decide (V<H)=true then W/\if decide (Y=(34:Int))=true then Z/\F/\(4:Int)=J.1.kind/\List.map (fun (n:Int)=>UInt8.ofNat (Int.toNat n)) a=J.1.text/\K/\V+A=J.2.1/\C=J.2.2.err/\L else W/\if decide (Y<(32:Int))=true then O else W/\if decide (Y=(92:Int))=true then Z/\if decide (V+A=H)=true then O else Z/\b/\if decide (c=(110:Int))=true then (d/\(List.length a+List.length P)*Q<=R)/\e/\∃(y:Nat × Str × Nat),(y.2.2<=List.length s/\List.length y.2.1<=y.2.2/\List.length s<y.2.2+y.1/\cw s=b8 s y.1 y.2.1 y.2.2)/\y.1<x.1/\aB x.2.1++P=aB y.2.1/\V+S=(↑y.2.2:Int)/\B/\List.length (aB x.2.1++P)=List.length (aB y.2.1)/\G else if decide (c=(116:Int))=true then (d/\(List.length a+List.length T)*Q<=R)/\e/\∃(y:Nat × Str × Nat),(y.2.2<=List.length s/\List.length y.2.1<=y.2.2/\List.length s<y.2.2+y.1/\cw s=b8 s y.1 y.2.1 y.2.2)/\y.1<x.1/\aB x.2.1++T=aB y.2.1/\V+S=(↑y.2.2:Int)/\B/\List.length (aB x.2.1++T)=List.length (aB y.2.1)/\G else if decide (c=(34:Int))=true then f else if decide (c=(92:Int))=true then f else O else (C<=V/\V<=H/\H<=H)/\if decide (g.2=C)=true then F/\M/\N/\K/\C=J.2.1/\(30:Int)=J.2.2.err/\V=J.2.2.pos/\F else h/\(C<=V/\V<=V+g.2/\V+g.2<=H)/\(d/\(List.length a+List.length i)*Q<=R)/\h/\∃(y:Nat × Str × Nat),(y.2.2<=List.length s/\List.length y.2.1<=y.2.2/\List.length s<y.2.2+y.1/\cw s=b8 s y.1 y.2.1 y.2.2)/\y.1<x.1/\aB x.2.1++aB i=aB y.2.1/\V+g.2=(↑y.2.2:Int)/\B/\List.length (aB x.2.1++aB i)=List.length (aB y.2.1)/\G else O:=by
 conv=>zeta
 obtain ⟨ln,lp⟩:=ho
 have eb:∀b:UInt8,(b.toNat:Int)=bI b:=fun _=>rfl
 have el:∀l:Str,(aB l).length=l.length:=fun l=>List.length_map _
 simp only [eb,el,Int.toNat_natCast,List.take_length,oQ]
 refine ⟨⟨(s.length+2,[],1),⟨lp,Nat.zero_le _,by show s.length < 1+(s.length+2);omega,rfl⟩,rfl,rfl,?_⟩,?_⟩
 ·exact Xr
 rintro ⟨f,acc,i⟩ ⟨k1,k2,k3,k4⟩
 simp only at k1 k2 k3 k4 ⊢
 cases f with
 | zero=>omega
 | succ f=>
  have t1:Int.toNat ((i:Int)+1)=i+1:=by omega
  have t2:Int.toNat ((i:Int)+(ce (s.drop i):Int))=i+ce (s.drop i):=by omega
  have t3:(s.take (i+ce (s.drop i))).drop i=(s.drop i).take (ce (s.drop i)):=by rw [List.drop_take,Nat.add_sub_cancel_left]
  simp only [t1,t2,t3]
  have hR:b8 s (f+1) acc i=if i < s.length then
    if bI (s.getD i 0)=34 then okK 4 acc (i+1)
    else if bI (s.getD i 0) < 32 then lG
    else if bI (s.getD i 0)=92 then
     if i+1=s.length then lG
     else match gQ (bI (s.getD (i+1) 0)) with
      | none=>lG
      | some x=>b8 s f (acc++[UInt8.ofNat x.toNat]) (i+2)
    else if ce (s.drop i)=0 then (iZ,0,⟨30,i⟩)
    else b8 s f (acc++(s.drop i).take (ce (s.drop i))) (i+ce (s.drop i))
   else lG:=rfl
  rw [hR] at k4
  clear hR t1 t2 t3
  have hu:=jV k1
  refine a6 (fun c=>?_) (fun c=>?_)
  ·have c:=Xo c
   have l0:(0:Int)<=(i:Int)/\(i:Int) < (s.length:Int):=⟨by omega,by omega⟩
   rw [if_pos (by omega)] at k4
   refine ⟨l0,a6 (fun a=>?_) (fun a=>⟨l0,a6 (fun b=>?_) (fun b=>⟨l0,a6 (fun d=>?_) (fun d=>?_)⟩)⟩)⟩
   ·rw [if_pos (Xo a)] at k4
    rw [k4]
    exact ⟨an (by omega) (by omega),trivial,rfl,mm acc,rfl,rfl,rfl,rfl,trivial⟩
   ·rw [if_neg (fun e=>a (Xd e)),if_pos (Xo b)] at k4
    rw [k4];exact ⟨trivial,rfl,rfl,rfl,rfl,rfl,rfl,trivial⟩
   ·rw [if_neg (fun e=>a (Xd e)),if_neg (fun e=>b (Xd e)),if_pos (Xo d)] at k4
    refine ⟨an (by omega) (by omega),a6 (fun e=>?_) (fun e=>?_)⟩
    ·have e:=Xo e
     rw [if_pos (by omega)] at k4
     rw [k4];exact ⟨trivial,rfl,rfl,rfl,rfl,rfl,rfl,trivial⟩
    ·have e:¬(i:Int)+1=(s.length:Int):=fun q=>e (Xd q)
     rw [if_neg (by omega)] at k4
     refine ⟨an (by omega) (by omega),⟨by omega,by omega⟩,a6 (fun g=>?_) (fun g=>a6 (fun h=>?_) (fun h=>a6 (fun m=>?_) (fun m=>a6 (fun n=>?_) (fun n=>?_))))⟩
     ·have g:=Xo g
      rw [g] at k4
      have k5:cw s=b8 s f (acc++[10]) (i+2):=k4
      skip
      refine ⟨⟨trivial,by show (acc.length+1) *1<=_;omega⟩,an (by omega) (by omega),(f,acc++[10],i+2),⟨by show i+2<=s.length;omega,by show (acc++[10]).length<=i+2;rw [List.length_append];show acc.length+1<=i+2;omega,by show s.length < i+2+f;omega,k5⟩,by show f < f+1;omega,(dT acc [10]).symm,rfl,?_⟩
      repeat (first | exact trivial | refine ⟨by first | rfl | trivial | (simp [aB]),?_⟩)
     ·have h:=Xo h
      rw [h] at k4
      have k5:cw s=b8 s f (acc++[9]) (i+2):=k4
      skip
      refine ⟨⟨trivial,by show (acc.length+1) *1<=_;omega⟩,an (by omega) (by omega),(f,acc++[9],i+2),⟨by show i+2<=s.length;omega,by show (acc++[9]).length<=i+2;rw [List.length_append];show acc.length+1<=i+2;omega,by show s.length < i+2+f;omega,k5⟩,by show f < f+1;omega,(dT acc [9]).symm,rfl,?_⟩
      repeat (first | exact trivial | refine ⟨by first | rfl | trivial | (simp [aB]),?_⟩)
     ·have m:=Xo m
      rw [m] at k4
      have k5:cw s=b8 s f (acc++[34]) (i+2):=k4
      rw [m]
      refine ⟨an (by omega) (by omega),⟨by omega,by omega⟩,⟨trivial,by show (acc.length+1) *1<=_;omega⟩,an (by omega) (by omega),(f,acc++[34],i+2),⟨by show i+2<=s.length;omega,by show (acc++[34]).length<=i+2;rw [List.length_append];show acc.length+1<=i+2;omega,by show s.length < i+2+f;omega,k5⟩,by show f < f+1;omega,(dT acc [34]).symm,rfl,?_⟩
      repeat (first | exact trivial | refine ⟨by first | rfl | trivial | (simp [aB]),?_⟩)
     ·have n:=Xo n
      rw [n] at k4
      have k5:cw s=b8 s f (acc++[92]) (i+2):=k4
      rw [n]
      refine ⟨an (by omega) (by omega),⟨by omega,by omega⟩,⟨trivial,by show (acc.length+1) *1<=_;omega⟩,an (by omega) (by omega),(f,acc++[92],i+2),⟨by show i+2<=s.length;omega,by show (acc++[92]).length<=i+2;rw [List.length_append];show acc.length+1<=i+2;omega,by show s.length < i+2+f;omega,k5⟩,by show f < f+1;omega,(dT acc [92]).symm,rfl,?_⟩
      repeat (first | exact trivial | refine ⟨by first | rfl | trivial | (simp [aB]),?_⟩)
     ·have hn:gQ (bI (s.getD (i+1) 0))=none:=by
       unfold gQ
       rw [if_neg (fun q=>g (Xd q)),if_neg (fun q=>h (Xd q)),if_neg (fun q=>m (Xd q)),if_neg (fun q=>n (Xd q))]
      rw [hn] at k4
      rw [k4];exact ⟨trivial,rfl,rfl,rfl,rfl,rfl,rfl,trivial⟩
   ·rw [if_neg (fun e=>a (Xd e)),if_neg (fun e=>b (Xd e)),if_neg (fun e=>d (Xd e))] at k4
    refine ⟨⟨by omega,by omega,by omega⟩,a6 (fun e=>?_) (fun e=>?_)⟩
    ·have e:=Xo e
     rw [if_pos (by omega)] at k4
     rw [k4];exact ⟨trivial,rfl,rfl,rfl,rfl,rfl,rfl,trivial⟩
    ·have e:¬((ce (s.drop i):Nat):Int)=0:=fun q=>e (Xd q)
     rw [if_neg (by omega)] at k4
     have hl:((s.drop i).take (ce (s.drop i))).length<=ce (s.drop i):=by rw [List.length_take];omega
     refine ⟨an (by omega) (by omega),⟨by omega,by omega,by omega⟩,⟨trivial,by omega⟩,an (by omega) (by omega),(f,acc++(s.drop i).take (ce (s.drop i)),i+ce (s.drop i)),⟨hu,by show (acc++(s.drop i).take (ce (s.drop i))).length<=i+ce (s.drop i);rw [List.length_append];omega,by show s.length < i+ce (s.drop i)+f;omega,k4⟩,by show f < f+1;omega,(dT _ _).symm,rfl,?_⟩
     repeat (first | exact trivial | refine ⟨by first | rfl | trivial | (simp [aB]),?_⟩)
  ·have c:¬(i:Int) < (s.length:Int):=fun e=>c (Xd e)
   rw [if_neg (by omega)] at k4
   rw [k4];exact ⟨trivial,rfl,rfl,rfl,rfl,rfl,rfl,trivial⟩
end Go.AL.Seat
end
