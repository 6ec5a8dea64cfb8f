/- What the functions' conditions say, proved. No condition. -/
import Derived.Test.YtdmbjejhifjhbaaGreatDoorT18
set_option linter.unusedVariables false
set_option linter.unusedSimpArgs false
set_option linter.unnecessarySimpa false
set_option linter.deprecated false
set_option linter.unusedSectionVars false
set_option maxRecDepth 100000
section
open Go Go.AL Go.Pd
namespace Go.AL.Seat
theorem Ef (s:Str) (hs:Wf .str s) :
  let A:=True/\false=cv s/\True;let B:=(0:Int);let C:=(↑(List.length s):Int);let D:=(0:UInt8);let E:=(List.all s fun (c:UInt8)=>eV (bI c));let F:=s=s/\false=false/\C=C/\True;let G:=(1:Int);let H:=(65:Int);let I:=(90:Int);let J:=(45:Int);let K:=(∃(x:Nat),(x<=List.length s/\E=List.all (List.drop x s) fun (c:UInt8)=>eV (bI c))/\B=(↑x:Int)/\F)/\∀(x:Nat),let L:=(↑x:Int);let M:=(↑(UInt8.toNat (List.getD s (Int.toNat L) D)):Int);let N:=inR IntKind.i64 (L+G)/\∃(y:Nat),(y<=List.length s/\E=List.all (List.drop y s) fun (c:UInt8)=>eV (bI c))/\List.length s - y<List.length s - x/\L+G=(↑y:Int)/\F;let O:=if (!decide (M=J))=true then A else N;let P:=if decide (H<=M)=true then if decide (M<=I)=true then N else O else O;let Q:=if decide ((97:Int)<=M)=true then if decide (M<=(122:Int))=true then N else P else P;(x<=List.length s/\E=List.all (List.drop x s) fun (c:UInt8)=>eV (bI c))→if decide (L<C)=true then (B<=L/\L<C)/\if decide ((48:Int)<=M)=true then if decide (M<=(57:Int))=true then N else Q else Q else True/\true=cv s/\True;if decide (s=[])=true then A else if bG s=true then (B<=B/\B<C)/\if decide ((↑(UInt8.toNat (List.getD s (Int.toNat B) D)):Int)=(48:Int))=true then if (!decide (s=([48]:Str)))=true then A else K else K else K:=by
 conv=>zeta
 refine a6 (fun h=>?_) (fun h=>?_)
 ·replace h:=Xo h
  subst h
  exact ⟨trivial,rfl,trivial⟩
 have hne:s≠[]:=fun e=>h (Xd e)
 have hpos:=List.length_pos_iff.2 hne
 refine a6 (fun h1=>?_) (fun h1=>?_)
 ·refine ⟨⟨by omega,by omega⟩,a6 (fun h2=>?_) (fun h2=>?_)⟩
  ·refine a6 (fun h3=>?_) (fun h3=>?_)
   ·refine ⟨trivial,?_,trivial⟩
    have e:decide (bI (s.getD 0 0)=48)=true:=h2
    unfold cv
    rw [h1,e,h3]
    simp
   ·have hz:(bG s && decide (bI (s.getD 0 0)=48) && !decide (s=[48]))=false:=by rw [Bool.not_eq_true] at h3;rw [h3,Bool.and_false]
    refine ⟨⟨0,⟨Nat.zero_le _,rfl⟩,rfl,rfl,rfl,rfl,trivial⟩,?_⟩
    rintro k ⟨h1,h2⟩
    simp only [Int.toNat_natCast]
    refine a6 (fun h=>?_) (fun h=>?_)
    ·have hk:k < s.length:=by have:=Xo h;omega
     rw [bf s k 0 hk,List.all_cons] at h2
     have eb:((s.getD k 0).toNat:Int)=bI (s.getD k 0):=rfl
     refine ⟨⟨by omega,by omega⟩,?_⟩
     simp only [eb]
     have hp:=kP (bI (s.getD k 0))
     have yes:eV (bI (s.getD k 0))=true→(s.all fun c=>eV (bI c))=(s.drop (k+1)).all fun c=>eV (bI c):=fun e=>by rw [h2,e,Bool.true_and]
     have no:¬eV (bI (s.getD k 0))=true→false=cv s:=fun e=>by rw [jq hne hz,h2,Bool.eq_false_iff.2 e,Bool.false_and]
     generalize bI (s.getD k 0)=c at hp yes no ⊢
     repeat' (refine a6 (fun _=>?_) (fun _=>?_))
     all_goals (simp only [decide_eq_true_eq,Bool.not_eq_true',decide_eq_false_iff_not] at *)
     all_goals first
      | exact ⟨trivial,no (fun e=>by have:=hp.1 e;omega),trivial⟩
      | exact ⟨cp hk hs.str,k+1,⟨by omega,yes (hp.2 (by omega))⟩,by omega,by omega,(by first | rfl | trivial),(by first | rfl | trivial),(by first | rfl | trivial),trivial⟩
    ·have hk:k=s.length:=by
      have:¬((k:Int) < (s.length:Int)):=fun e=>h (Xd e)
      omega
     refine ⟨trivial,?_,trivial⟩
     rw [jq hne hz,h2,hk,List.drop_length]
     rfl
  ·have hz:(bG s && decide (bI (s.getD 0 0)=48) && !decide (s=[48]))=false:=by
    have e:decide (bI (s.getD 0 0)=48)=false:=by rw [Bool.not_eq_true] at h2;exact h2
    rw [e,Bool.and_false,Bool.false_and]
   refine ⟨⟨0,⟨Nat.zero_le _,rfl⟩,rfl,rfl,rfl,rfl,trivial⟩,?_⟩
   rintro k ⟨h1,h2⟩
   simp only [Int.toNat_natCast]
   refine a6 (fun h=>?_) (fun h=>?_)
   ·have hk:k < s.length:=by have:=Xo h;omega
    rw [bf s k 0 hk,List.all_cons] at h2
    have eb:((s.getD k 0).toNat:Int)=bI (s.getD k 0):=rfl
    refine ⟨⟨by omega,by omega⟩,?_⟩
    simp only [eb]
    have hp:=kP (bI (s.getD k 0))
    have yes:eV (bI (s.getD k 0))=true→(s.all fun c=>eV (bI c))=(s.drop (k+1)).all fun c=>eV (bI c):=fun e=>by rw [h2,e,Bool.true_and]
    have no:¬eV (bI (s.getD k 0))=true→false=cv s:=fun e=>by rw [jq hne hz,h2,Bool.eq_false_iff.2 e,Bool.false_and]
    generalize bI (s.getD k 0)=c at hp yes no ⊢
    repeat' (refine a6 (fun _=>?_) (fun _=>?_))
    all_goals (simp only [decide_eq_true_eq,Bool.not_eq_true',decide_eq_false_iff_not] at *)
    all_goals first
     | exact ⟨trivial,no (fun e=>by have:=hp.1 e;omega),trivial⟩
     | exact ⟨cp hk hs.str,k+1,⟨by omega,yes (hp.2 (by omega))⟩,by omega,by omega,(by first | rfl | trivial),(by first | rfl | trivial),(by first | rfl | trivial),trivial⟩
   ·have hk:k=s.length:=by
     have:¬((k:Int) < (s.length:Int)):=fun e=>h (Xd e)
     omega
    refine ⟨trivial,?_,trivial⟩
    rw [jq hne hz,h2,hk,List.drop_length]
    rfl
 ·have hz:(bG s && decide (bI (s.getD 0 0)=48) && !decide (s=[48]))=false:=by rw [Bool.not_eq_true] at h1;rw [h1,Bool.false_and,Bool.false_and]
  refine ⟨⟨0,⟨Nat.zero_le _,rfl⟩,rfl,rfl,rfl,rfl,trivial⟩,?_⟩
  rintro k ⟨h1,h2⟩
  simp only [Int.toNat_natCast]
  refine a6 (fun h=>?_) (fun h=>?_)
  ·have hk:k < s.length:=by have:=Xo h;omega
   rw [bf s k 0 hk,List.all_cons] at h2
   have eb:((s.getD k 0).toNat:Int)=bI (s.getD k 0):=rfl
   refine ⟨⟨by omega,by omega⟩,?_⟩
   simp only [eb]
   have hp:=kP (bI (s.getD k 0))
   have yes:eV (bI (s.getD k 0))=true→(s.all fun c=>eV (bI c))=(s.drop (k+1)).all fun c=>eV (bI c):=fun e=>by rw [h2,e,Bool.true_and]
   have no:¬eV (bI (s.getD k 0))=true→false=cv s:=fun e=>by rw [jq hne hz,h2,Bool.eq_false_iff.2 e,Bool.false_and]
   generalize bI (s.getD k 0)=c at hp yes no ⊢
   repeat' (refine a6 (fun _=>?_) (fun _=>?_))
   all_goals (simp only [decide_eq_true_eq,Bool.not_eq_true',decide_eq_false_iff_not] at *)
   all_goals first
    | exact ⟨trivial,no (fun e=>by have:=hp.1 e;omega),trivial⟩
    | exact ⟨cp hk hs.str,k+1,⟨by omega,yes (hp.2 (by omega))⟩,by omega,by omega,(by first | rfl | trivial),(by first | rfl | trivial),(by first | rfl | trivial),trivial⟩
  ·have hk:k=s.length:=by
    have:¬((k:Int) < (s.length:Int)):=fun e=>h (Xd e)
    omega
   refine ⟨trivial,?_,trivial⟩
   rw [jq hne hz,h2,hk,List.drop_length]
   rfl
theorem BD (v:Vers) (hv:Wf (.st .version) v) :
  let A:=(3:Nat);let B:=[v.major,v.minor,v.patch];let C:=(0:Int);let D:=(↑(List.length B):Int);let E:=v=v/\List.length B=List.length B/\True;let F:=v=v/\B=B/\D=D/\E;let G:=dfl (Ty.int IntKind.i64);let H:=True/\(40:Int)=bz v/\True;let I:=(1:Int);let J:=(46:UInt8);let K:=splitB J v.pre;let L:=(↑(List.length K):Int);let M:=v=v/\B=B/\D=D/\false=false/\false=false/\true=true/\splitB J v.pre=splitB J v.pre/\L=L/\E;let N:=True/\C=bz v/\True;(∃(x:Nat),(x<=A/\List.all (List.take x B) oV=true)/\C=(↑x:Int)/\F)/\∀(x:Nat),let O:=(↑x:Int);x<=A/\List.all (List.take x B) oV=true→if decide (O<D)=true then (C<=O/\O<D)/\if decide (List.getD B (Int.toNat O) G<C)=true then H else if decide ((999999:Int)<List.getD B (Int.toNat O) G)=true then H else inR IntKind.i64 (O+I)/\∃(y:Nat),(y<=A/\List.all (List.take y B) oV=true)/\A - y<A - x/\O+I=(↑y:Int)/\F else if decide ((24:Int)<(↑(List.length v.pre):Int))=true then H else if (!decide (v.pre=[]))=true then (([46]:Str)=([46]:Str)/\List.length v.pre<(4294967281:Nat))/\(∃(x_1:Nat),(x_1<=List.length K/\List.all (List.take x_1 K) cv=true)/\C=(↑x_1:Int)/\O=O/\M)/\∀(x_1:Nat),let P:=(↑x_1:Int);x_1<=List.length K/\List.all (List.take x_1 K) cv=true→if decide (P<L)=true then (C<=P/\P<L)/\if (!cv (List.getD K (Int.toNat P) (dfl Ty.str)))=true then H else inR IntKind.i64 (P+I)/\∃(y:Nat),(y<=List.length K/\List.all (List.take y K) cv=true)/\List.length K - y<List.length K - x_1/\P+I=(↑y:Int)/\O=O/\M else N else N:=by
 conv=>zeta
 have bad:∀k:Nat,k < 3→oV ([v.major,v.minor,v.patch].getD k (dfl (.int .i64)))=false→True/\(40:Int)=bz v/\True:=fun k hk e=>
  ⟨trivial,(xZ (ng (l:=[v.major,v.minor,v.patch]) (dfl (.int .i64)) hk e)).symm,trivial⟩
 refine ⟨⟨0,⟨by omega,rfl⟩,?_⟩,?_⟩
 ·exact Xr
 rintro k ⟨h1,h2⟩
 have l3:[v.major,v.minor,v.patch].length=3:=rfl
 simp only [Int.toNat_natCast,l3]
 refine a6 (fun h=>?_) (fun h=>?_)
 ·have hk:k < 3:=by have:=Xo h;omega
  have bk:=bad k hk
  have gk:=gq (l:=[v.major,v.minor,v.patch]) (dfl (.int .i64)) hk h2
  refine ⟨⟨by omega,by omega⟩,?_⟩
  refine a6 (fun a=>bk ?_) (fun a=>a6 (fun b=>bk ?_) (fun b=>?_))
  ·have:=Xo a
   have e:¬0<=[v.major,v.minor,v.patch].getD k (dfl (.int .i64)):=by omega
   unfold oV
   rw [Xf e,Bool.false_and]
  ·have:=Xo b
   have e:¬[v.major,v.minor,v.patch].getD k (dfl (.int .i64))<=999999:=by omega
   unfold oV
   rw [Xf e,Bool.and_false]
  ·have a:¬[v.major,v.minor,v.patch].getD k (dfl (.int .i64)) < 0:=fun e=>a (Xd e)
   have b:¬999999 < [v.major,v.minor,v.patch].getD k (dfl (.int .i64)):=fun e=>b (Xd e)
   have a':0<=[v.major,v.minor,v.patch].getD k (dfl (.int .i64)):=by omega
   have b':[v.major,v.minor,v.patch].getD k (dfl (.int .i64))<=999999:=by omega
   refine ⟨an (by omega) (by omega),k+1,⟨by omega,gk ?_⟩,by omega,by omega,?_⟩
   ·unfold oV
    rw [Xd a',Xd b']
    rfl
   ·exact Xr
 ·have hk:k=3:=by
   have:¬((k:Int) < ((3:Nat):Int)):=fun e=>h (Xd e)
   omega
  subst hk
  have hg:=vI h2
  refine a6 (fun a=>?_) (fun a=>?_)
  ·have:=Xo a
   rw [if_pos (by omega)] at hg
   rw [hg]
   exact ⟨trivial,rfl,trivial⟩
  have a:¬(24:Int) < (v.pre.length:Int):=fun e=>a (Xd e)
  have hl:=gn 46 v.pre
  rw [if_neg (by omega)] at hg
  refine a6 (fun b=>?_) (fun b=>?_)
  ·have b:¬v.pre=[]:=by simpa using b
   rw [if_neg b] at hg
   refine ⟨⟨(by first | rfl | trivial),by omega⟩,⟨0,⟨by omega,rfl⟩,?_⟩,?_⟩
   ·exact Xr
   rintro j ⟨j1,j2⟩
   refine a6 (fun c=>?_) (fun c=>?_)
   ·have hj:j < (splitB 46 v.pre).length:=by have:=Xo c;omega
    refine ⟨⟨by omega,by omega⟩,a6 (fun d=>?_) (fun d=>?_)⟩
    ·have d:cv ((splitB 46 v.pre).getD j (dfl .str))=false:=by simpa using d
     rw [ng (dfl .str) hj d,if_neg Bool.false_ne_true] at hg
     rw [hg]
     exact ⟨trivial,rfl,trivial⟩
    ·have d:cv ((splitB 46 v.pre).getD j (dfl .str))=true:=by simpa using d
     refine ⟨an (by omega) (by omega),j+1,⟨by omega,gq (dfl .str) hj j2 d⟩,by omega,by omega,?_⟩
     exact Xr
   ·have hj:(splitB 46 v.pre).length<=j:=by
     have:¬((j:Int) < ((splitB 46 v.pre).length:Int)):=fun e=>c (Xd e)
     omega
    rw [qz hj] at j2
    rw [if_pos j2] at hg
    rw [hg]
    exact ⟨trivial,rfl,trivial⟩
  ·have b:v.pre=[]:=by simpa using b
   rw [if_pos b] at hg
   rw [hg]
   exact ⟨trivial,rfl,trivial⟩
theorem BE (s:Str) (ho:s.length<=4096) :
  let A:=(4294967281:Nat);let B:=aC s;let C:=(46:UInt8);let D:=splitB C B;let E:=(↑(List.length D):Int);let F:=True;let G:=(0:Int);let H:=bQ s;let I:=G=H.1.major;let J:=G=H.1.minor;let K:=G=H.1.patch;let L:=[]=H.1.pre;let M:=F/\I/\J/\K/\L/\(40:Int)=H.2/\F;let N:=(3:Nat);let O:=aC s=aC s;let P:=cg s=cg s;let Q:=dI s=dI s;let R:=splitB C B=splitB C B;let S:=false=false;let T:=G=G/\G=G/\G=G/\jk UInt8=jk UInt8/\F;let U:=dfl Ty.str;let V:=(1:Int);let W:=Int.toNat G;let X:=(↑N:Int);let Y:=(2:Int);let Z:=dfl (Ty.int IntKind.i64);let a:=Int.toNat V;let b:=Int.toNat Y;let c:=(∃(x:Nat),(x<=N/\List.all (List.take x D) dX=true)/\G=(↑x:Int)/\s=s/\O/\P/\Q/\R/\S/\R/\E=E/\List.replicate N G=nf s x/\T)/\∀(x:Nat),let d:=(↑x:Int);let e:=List.getD D (Int.toNat d) U;let f:=(↑(List.length e):Int);let g:=nf s x;let h:=kc e/\(G<=d/\d<X)/\Int.toNat d<List.length g/\inR IntKind.i64 (d+V)/\∃(y:Nat),(y<=N/\List.all (List.take y D) dX=true)/\N - y<N - x/\d+V=(↑y:Int)/\s=s/\O/\P/\Q/\R/\S/\R/\E=E/\List.set g (Int.toNat d) (jl e)=nf s y/\T;x<=N/\List.all (List.take x D) dX=true→if decide (d<E)=true then (G<=d/\d<E)/\if (!bG e)=true then M else if decide ((6:Int)<f)=true then M else if decide (V<f)=true then (G<=G/\G<f)/\if decide ((↑(UInt8.toNat (List.getD e W (0:UInt8))):Int)=(48:Int))=true then M else h else h else (G<=G/\G<X)/\Int.toNat G<List.length g/\(G<=V/\V<X)/\Int.toNat V<List.length g/\(G<=Y/\Y<X)/\Int.toNat Y<List.length g/\if (!decide (bz {major:=List.getD g W Z,minor:=List.getD g a Z,patch:=List.getD g b Z,pre:=cg s:Vers}=G))=true then F/\I/\J/\K/\L/\bz {major:=List.getD g W Z,minor:=List.getD g a Z,patch:=List.getD g b Z,pre:=cg s:Vers}=H.2/\F else F/\List.getD g W Z=H.1.major/\List.getD g a Z=H.1.minor/\List.getD g b Z=H.1.patch/\cg s=H.1.pre/\G=H.2/\F;(([45]:Str)=([45]:Str)/\List.length s<A)/\(([46]:Str)=([46]:Str)/\List.length B<A)/\if (!decide (E=(3:Int)))=true then M else if dI s=true then if decide (cg s=[])=true then M else c else c:=by
 conv=>zeta
 have bad:bQ s=(noV,40)→True/\(0:Int)=(bQ s).1.major/\(0:Int)=(bQ s).1.minor/\(0:Int)=(bQ s).1.patch/\[]=(bQ s).1.pre/\(40:Int)=(bQ s).2/\True:=fun e=>by
  rw [e]
  exact ⟨trivial,rfl,rfl,rfl,rfl,rfl,trivial⟩
 have hc:=sm s
 refine ⟨⟨(by first | rfl | trivial),by omega⟩,⟨(by first | rfl | trivial),by omega⟩,a6 (fun a=>?_) (fun a=>?_)⟩
 ·exact bad (oG (fun e=>by rw [e] at a;simp at a))
 have a:(splitB 46 (aC s)).length=3:=by
  simp only [Bool.not_eq_true',decide_eq_false_iff_not,Decidable.not_not] at a
  omega
 refine a6 (fun b=>a6 (fun c=>?_) (fun c=>?_)) (fun b=>?_)
 ·exact bad (oH b (Xo c))
 ·have he:=iS a (fun _ e=>c (Xd e))
  refine ⟨⟨0,⟨by omega,rfl⟩,?_⟩,?_⟩
  ·exact Xr
  rintro k ⟨h1,h2⟩
  have lr:(nf s k).length=3:=rfl
  simp only [Int.toNat_natCast,lr]
  refine a6 (fun h=>?_) (fun h=>?_)
  ·have hk:k < (splitB 46 (aC s)).length:=by have:=Xo h;omega
   refine ⟨⟨by omega,by omega⟩,?_⟩
   have no:dX ((splitB 46 (aC s)).getD k (dfl .str))=false→bQ s=(noV,40):=fun e=>by
    rw [he,ng (dfl .str) hk e,if_neg Bool.false_ne_true]
   have yes:dX ((splitB 46 (aC s)).getD k (dfl .str))=true→((splitB 46 (aC s)).take (k+1)).all dX=true:=gq (dfl .str) hk h2
   have hset:=vJ (s:=s) (k:=k) (by omega)
   refine a6 (fun a=>bad (no ?_)) (fun a=>a6 (fun b=>bad (no ?_)) (fun b=>a6 (fun c=>⟨⟨by omega,by have:=Xo c;omega⟩,a6 (fun d=>bad (no ?_)) (fun d=>?_)⟩) (fun c=>?_)))
   ·unfold dX
    rw [Bool.not_eq_true'] at a
    rw [a,Bool.false_and,Bool.false_and]
   ·have:=Xo b
    unfold dX
    rw [Xf (p:=List.length ((splitB 46 (aC s)).getD k (dfl .str))<=6) (by omega),Bool.and_false,Bool.false_and]
   ·have e:decide (bI (((splitB 46 (aC s)).getD k (dfl .str)).getD 0 0)=48)=true:=d
    have c:=Xo c
    unfold dX
    rw [e,Xd (p:=1 < List.length ((splitB 46 (aC s)).getD k (dfl .str))) (by omega)]
    simp
   ·have e:decide (bI (((splitB 46 (aC s)).getD k (dfl .str)).getD 0 0)=48)=false:=by rw [Bool.not_eq_true] at d;exact d
    have b:¬(6:Int) < _:=fun x=>b (Xd x)
    have en:dX ((splitB 46 (aC s)).getD k (dfl .str))=true:=by
     unfold dX
     rw [e]
     simp only [Bool.not_eq_true',Bool.not_eq_false] at a
     rw [a,Xd (p:=List.length ((splitB 46 (aC s)).getD k (dfl .str))<=6) (by omega)]
     simp
    have ed:bG ((splitB 46 (aC s)).getD k (dfl .str))=true/\((splitB 46 (aC s)).getD k (dfl .str)).length<=6:=by
     have e:=en
     unfold dX at e
     simp only [Bool.and_eq_true,decide_eq_true_eq] at e
     exact ⟨e.1.1,e.1.2⟩
    refine ⟨gF ed.1 (by omega),⟨by omega,by omega⟩,by omega,an (by omega) (by omega),k+1,⟨by omega,yes en⟩,by omega,by omega,?_⟩
    repeat (first | exact trivial | refine ⟨by first | rfl | (exact hset) | trivial,?_⟩)
   ·have b:¬(6:Int) < _:=fun x=>b (Xd x)
    have c:¬(1:Int) < _:=fun x=>c (Xd x)
    have en:dX ((splitB 46 (aC s)).getD k (dfl .str))=true:=by
     unfold dX
     simp only [Bool.not_eq_true',Bool.not_eq_false] at a
     rw [a,Xd (p:=List.length ((splitB 46 (aC s)).getD k (dfl .str))<=6) (by omega),Xf (p:=1 < List.length ((splitB 46 (aC s)).getD k (dfl .str))) (by omega)]
     simp
    have ed:bG ((splitB 46 (aC s)).getD k (dfl .str))=true/\((splitB 46 (aC s)).getD k (dfl .str)).length<=6:=by
     have e:=en
     unfold dX at e
     simp only [Bool.and_eq_true,decide_eq_true_eq] at e
     exact ⟨e.1.1,e.1.2⟩
    refine ⟨gF ed.1 (by omega),⟨by omega,by omega⟩,by omega,an (by omega) (by omega),k+1,⟨by omega,yes en⟩,by omega,by omega,?_⟩
    repeat (first | exact trivial | refine ⟨by first | rfl | (exact hset) | trivial,?_⟩)
  ·have hk:k=3:=by
    have:¬((k:Int) < ((splitB 46 (aC s)).length:Int)):=fun e=>h (Xd e)
    omega
   subst hk
   rw [qz (by omega)] at h2
   rw [if_pos h2] at he
   have ev:(⟨List.getD (nf s 3) (Int.toNat 0) (dfl (Ty.int IntKind.i64)),List.getD (nf s 3) (Int.toNat 1) (dfl (Ty.int IntKind.i64)),List.getD (nf s 3) (Int.toNat 2) (dfl (Ty.int IntKind.i64)),cg s⟩:Vers)=dr s:=rfl
   refine ⟨⟨by omega,by omega⟩,by decide,⟨by omega,by omega⟩,by decide,⟨by omega,by omega⟩,by decide,?_⟩
   refine a6 (fun a=>?_) (fun a=>?_)
   ·have a:¬bz (dr s)=0:=by rw [←ev];simpa using a
    rw [if_neg a] at he
    have a4:=(qA (dr s)).resolve_left a
    rw [he,ev,a4]
    repeat (first | exact trivial | refine ⟨by first | rfl | (exact hset) | trivial,?_⟩)
   ·have a:bz (dr s)=0:=by rw [←ev];simpa using a
    rw [if_pos a] at he
    rw [he]
    repeat (first | exact trivial | refine ⟨by first | rfl | (exact hset) | trivial,?_⟩)
 ·have he:=iS a (fun e=>absurd e b)
  refine ⟨⟨0,⟨by omega,rfl⟩,?_⟩,?_⟩
  ·exact Xr
  rintro k ⟨h1,h2⟩
  have lr:(nf s k).length=3:=rfl
  simp only [Int.toNat_natCast,lr]
  refine a6 (fun h=>?_) (fun h=>?_)
  ·have hk:k < (splitB 46 (aC s)).length:=by have:=Xo h;omega
   refine ⟨⟨by omega,by omega⟩,?_⟩
   have no:dX ((splitB 46 (aC s)).getD k (dfl .str))=false→bQ s=(noV,40):=fun e=>by
    rw [he,ng (dfl .str) hk e,if_neg Bool.false_ne_true]
   have yes:dX ((splitB 46 (aC s)).getD k (dfl .str))=true→((splitB 46 (aC s)).take (k+1)).all dX=true:=gq (dfl .str) hk h2
   have hset:=vJ (s:=s) (k:=k) (by omega)
   refine a6 (fun a=>bad (no ?_)) (fun a=>a6 (fun b=>bad (no ?_)) (fun b=>a6 (fun c=>⟨⟨by omega,by have:=Xo c;omega⟩,a6 (fun d=>bad (no ?_)) (fun d=>?_)⟩) (fun c=>?_)))
   ·unfold dX
    rw [Bool.not_eq_true'] at a
    rw [a,Bool.false_and,Bool.false_and]
   ·have:=Xo b
    unfold dX
    rw [Xf (p:=List.length ((splitB 46 (aC s)).getD k (dfl .str))<=6) (by omega),Bool.and_false,Bool.false_and]
   ·have e:decide (bI (((splitB 46 (aC s)).getD k (dfl .str)).getD 0 0)=48)=true:=d
    have c:=Xo c
    unfold dX
    rw [e,Xd (p:=1 < List.length ((splitB 46 (aC s)).getD k (dfl .str))) (by omega)]
    simp
   ·have e:decide (bI (((splitB 46 (aC s)).getD k (dfl .str)).getD 0 0)=48)=false:=by rw [Bool.not_eq_true] at d;exact d
    have b:¬(6:Int) < _:=fun x=>b (Xd x)
    have en:dX ((splitB 46 (aC s)).getD k (dfl .str))=true:=by
     unfold dX
     rw [e]
     simp only [Bool.not_eq_true',Bool.not_eq_false] at a
     rw [a,Xd (p:=List.length ((splitB 46 (aC s)).getD k (dfl .str))<=6) (by omega)]
     simp
    have ed:bG ((splitB 46 (aC s)).getD k (dfl .str))=true/\((splitB 46 (aC s)).getD k (dfl .str)).length<=6:=by
     have e:=en
     unfold dX at e
     simp only [Bool.and_eq_true,decide_eq_true_eq] at e
     exact ⟨e.1.1,e.1.2⟩
    refine ⟨gF ed.1 (by omega),⟨by omega,by omega⟩,by omega,an (by omega) (by omega),k+1,⟨by omega,yes en⟩,by omega,by omega,?_⟩
    repeat (first | exact trivial | refine ⟨by first | rfl | (exact hset) | trivial,?_⟩)
   ·have b:¬(6:Int) < _:=fun x=>b (Xd x)
    have c:¬(1:Int) < _:=fun x=>c (Xd x)
    have en:dX ((splitB 46 (aC s)).getD k (dfl .str))=true:=by
     unfold dX
     simp only [Bool.not_eq_true',Bool.not_eq_false] at a
     rw [a,Xd (p:=List.length ((splitB 46 (aC s)).getD k (dfl .str))<=6) (by omega),Xf (p:=1 < List.length ((splitB 46 (aC s)).getD k (dfl .str))) (by omega)]
     simp
    have ed:bG ((splitB 46 (aC s)).getD k (dfl .str))=true/\((splitB 46 (aC s)).getD k (dfl .str)).length<=6:=by
     have e:=en
     unfold dX at e
     simp only [Bool.and_eq_true,decide_eq_true_eq] at e
     exact ⟨e.1.1,e.1.2⟩
    refine ⟨gF ed.1 (by omega),⟨by omega,by omega⟩,by omega,an (by omega) (by omega),k+1,⟨by omega,yes en⟩,by omega,by omega,?_⟩
    repeat (first | exact trivial | refine ⟨by first | rfl | (exact hset) | trivial,?_⟩)
  ·have hk:k=3:=by
    have:¬((k:Int) < ((splitB 46 (aC s)).length:Int)):=fun e=>h (Xd e)
    omega
   subst hk
   rw [qz (by omega)] at h2
   rw [if_pos h2] at he
   have ev:(⟨List.getD (nf s 3) (Int.toNat 0) (dfl (Ty.int IntKind.i64)),List.getD (nf s 3) (Int.toNat 1) (dfl (Ty.int IntKind.i64)),List.getD (nf s 3) (Int.toNat 2) (dfl (Ty.int IntKind.i64)),cg s⟩:Vers)=dr s:=rfl
   refine ⟨⟨by omega,by omega⟩,by decide,⟨by omega,by omega⟩,by decide,⟨by omega,by omega⟩,by decide,?_⟩
   refine a6 (fun a=>?_) (fun a=>?_)
   ·have a:¬bz (dr s)=0:=by rw [←ev];simpa using a
    rw [if_neg a] at he
    have a4:=(qA (dr s)).resolve_left a
    rw [he,ev,a4]
    repeat (first | exact trivial | refine ⟨by first | rfl | (exact hset) | trivial,?_⟩)
   ·have a:bz (dr s)=0:=by rw [←ev];simpa using a
    rw [if_pos a] at he
    rw [he]
    repeat (first | exact trivial | refine ⟨by first | rfl | (exact hset) | trivial,?_⟩)
theorem Eg (s:Str) (c:SC) (n:Nat) (e a:Int) (ho:n=c.out.length) :
  let A:=eM e a c;True/\false=false/\s=s/\c.pos=A.2.pos/\c.out=A.2.out/\e=A.2.err/\a=A.2.fat/\n=List.length A.2.out/\True:=by
 conv=>zeta
 exact ⟨trivial,rfl,rfl,rfl,rfl,rfl,rfl,ho,trivial⟩
theorem BF (s:Str) (c:SC) (n:Nat) (a b:Int) (ho:n=c.out.length/\s.length<=4096/\0<=a/\a<=b/\b<=(s.length:Int)) :
  let A:=List.drop (Int.toNat a) (List.take (Int.toNat b) s);let B:=u5 A;let C:=gK s a b c;let D:=eM B.err (a+B.pos) c;((0:Int)<=a/\a<=b/\b<=(↑(List.length s):Int))/\List.length A<=(4096:Nat)/\if (!decide (B.err=(0:Int)))=true then inR IntKind.i64 (a+B.pos)/\n=List.length c.out/\True/\false=C.1/\s=s/\D.2.pos=C.2.pos/\D.2.out=C.2.out/\D.2.err=C.2.err/\D.2.fat=C.2.fat/\List.length D.2.out=List.length C.2.out/\True else True/\true=C.1/\s=s/\c.pos=C.2.pos/\c.out=C.2.out/\c.err=C.2.err/\c.fat=C.2.fat/\n=List.length C.2.out/\True:=by
 conv=>zeta
 obtain ⟨h1,h2,h3,h4,h5⟩:=ho
 have hl:=pm h3 h4 h5
 have hc:List.drop (Int.toNat a) (List.take (Int.toNat b) s)=cut s a b:=rfl
 simp only [hc]
 refine ⟨⟨h3,h4,h5⟩,by omega,?_⟩
 unfold gK
 cases hb:cu (cut s a b) with
 | none=>
  rw [B4 hb]
  refine ⟨trivial,rfl,?_⟩
  repeat (first | exact trivial | exact ⟨h1,trivial⟩ | refine ⟨by first | rfl | trivial,?_⟩)
 | some k=>
  rw [B5 hb]
  have:=B6 hb
  refine ⟨an (by show _<=a+(k:Int);omega) (by show a+(k:Int)<=_;omega),h1,trivial,?_⟩
  exact Xr
theorem FQ (s:Str) (c:SC) (n:Nat) (k:Int) (t:Str) (fr:Int) (ho:n=c.out.length/\(n+1) *32<=140737488355328) :
  let A:=[{kind:=k,text:=t,pos:=fr:Tokn}];let B:=gE k t fr c;(List.length c.out=n/\(List.length c.out+List.length A)*(32:Nat)<=(140737488355328:Nat))/\True/\true=true/\fr=fr/\s=s/\c.pos=B.2.pos/\c.out++A=B.2.out/\c.err=B.2.err/\c.fat=B.2.fat/\List.length (c.out++A)=n+(1:Nat)/\True:=by
 conv=>zeta
 obtain ⟨h1,h2⟩:=ho
 refine ⟨⟨h1.symm,by simp only [List.length_singleton];omega⟩,trivial,by trivial,by trivial,by trivial,rfl,rfl,rfl,rfl,?_,trivial⟩
 rw [List.length_append,List.length_singleton,h1]
theorem yo (s:Str) (c:SC) (n:Nat) (ho:n=c.out.length/\n<=4096/\s.length<=4096/\0<=c.pos/\c.pos<=(s.length:Int)/\c.pos < (s.length:Int)) :
  let A:=(1:Int);let B:=(0:Int);let C:=(↑(List.length s):Int);let D:=c.pos=c.pos;let E:=s=s;let F:=True;let G:=List.length s<=(4096:Nat);let H:=(2:Int);let I:=cm s c;let J:=[]=I.1;let K:=false=I.2.1;let L:=(60:Int);let M:=([110,116,34,92]:Str);let N:=([10,9,34,92]:Str);let O:=(0:UInt8);let P:=(140737488355328:Nat);inR IntKind.i64 (c.pos+A)/\(∃(x:Nat × Str × SC),(x.2.2.out=c.out/\x.2.2.err=c.err/\x.2.2.fat=c.fat/\B<=x.2.2.pos/\x.2.2.pos<=C/\(↑(List.length x.2.1):Int)<=x.2.2.pos/\C<x.2.2.pos+(↑x.1:Int)/\cm s c=bZ s c.pos x.1 x.2.1 x.2.2)/\aB x.2.1=[]/\D/\E/\c.pos+A=x.2.2.pos/\c.out=x.2.2.out/\c.err=x.2.2.err/\c.fat=x.2.2.fat/\List.length (aB x.2.1)=(0:Nat)/\n=n/\F)/\∀(x:Nat × Str × SC),let Q:=B<=x.2.2.pos;let R:=x.2.2.pos<=C;let S:=x.2.2.pos+B;let T:=n=List.length x.2.2.out;let U:=eM L c.pos x.2.2;let V:=T/\F/\J/\K/\E/\U.2.pos=I.2.2.pos/\U.2.out=I.2.2.out/\U.2.err=I.2.2.err/\U.2.fat=I.2.2.fat/\List.length U.2.out=List.length I.2.2.out/\F;let W:=x.2.2.pos+A;let X:=aB x.2.1;let Y:=bAt s W;let Z:=List.length X=List.length X;let a:=[(↑(UInt8.toNat (List.getD N (Int.toNat (nV M Y)) O)):Int)];let b:=(↑(ae aI s x.2.2.pos):Int);let d:=x.2.2.pos+b;let e:=cut s x.2.2.pos d;let f:=(↑(List.length e):Int);let g:=x.2.2.pos+b - f;let h:=(gK s g d {pos:=x.2.2.pos+b,out:=x.2.2.out,err:=x.2.2.err,fat:=x.2.2.fat:SC});x.2.2.out=c.out/\x.2.2.err=c.err/\x.2.2.fat=c.fat/\Q/\R/\(↑(List.length x.2.1):Int)<=x.2.2.pos/\C<x.2.2.pos+(↑x.1:Int)/\cm s c=bZ s c.pos x.1 x.2.1 x.2.2→(G/\Q/\R/\B<=B/\B<=H)/\if decide (bAt s S<(32:Int))=true then V else if decide (bAt s S=(34:Int))=true then inR IntKind.i64 W/\F/\List.map (fun (n:Int)=>UInt8.ofNat (Int.toNat n)) X=I.1/\true=I.2.1/\E/\x.2.2.pos+A=I.2.2.pos/\x.2.2.out=I.2.2.out/\x.2.2.err=I.2.2.err/\x.2.2.fat=I.2.2.fat/\n=List.length I.2.2.out/\F else if decide (bAt s S=(92:Int))=true then (G/\Q/\R/\B<=A/\A<=H)/\if decide (nV M Y<B)=true then V else (B<=nV M Y/\nV M Y<(↑(List.length N):Int))/\(Z/\(List.length X+List.length a)*(1:Nat)<=P)/\inR IntKind.i64 (x.2.2.pos+H)/\∃(y:Nat × Str × SC),(y.2.2.out=c.out/\y.2.2.err=c.err/\y.2.2.fat=c.fat/\B<=y.2.2.pos/\y.2.2.pos<=C/\(↑(List.length y.2.1):Int)<=y.2.2.pos/\C<y.2.2.pos+(↑y.1:Int)/\cm s c=bZ s c.pos y.1 y.2.1 y.2.2)/\y.1<x.1/\aB x.2.1++a=aB y.2.1/\D/\E/\x.2.2.pos+H=y.2.2.pos/\x.2.2.out=y.2.2.out/\x.2.2.err=y.2.2.err/\x.2.2.fat=y.2.2.fat/\List.length (aB x.2.1++a)=List.length (aB y.2.1)/\n=n/\F else (G/\Q/\R)/\inR IntKind.i64 g/\(T/\G/\B<=x.2.2.pos+b - f/\x.2.2.pos+b - f<=x.2.2.pos+b/\x.2.2.pos+b<=C)/\if (!h.1)=true then F/\J/\K/\E/\h.2.pos=I.2.2.pos/\h.2.out=I.2.2.out/\h.2.err=I.2.2.err/\h.2.fat=I.2.2.fat/\List.length h.2.out=List.length I.2.2.out/\F else (Z/\(List.length X+List.length e)*(1:Nat)<=P)/\∃(y:Nat × Str × SC),(y.2.2.out=c.out/\y.2.2.err=c.err/\y.2.2.fat=c.fat/\B<=y.2.2.pos/\y.2.2.pos<=C/\(↑(List.length y.2.1):Int)<=y.2.2.pos/\C<y.2.2.pos+(↑y.1:Int)/\cm s c=bZ s c.pos y.1 y.2.1 y.2.2)/\y.1<x.1/\aB x.2.1++aB e=aB y.2.1/\D/\E/\h.2.pos=y.2.2.pos/\h.2.out=y.2.2.out/\h.2.err=y.2.2.err/\h.2.fat=y.2.2.fat/\List.length (aB x.2.1++aB e)=List.length (aB y.2.1)/\List.length h.2.out=n/\F:=by
 conv=>zeta
 obtain ⟨ho1,ho2,ho3,ho4,ho5,ho6⟩:=ho
 refine ⟨an (by omega) (by omega),⟨(s.length+2,[],bS c (c.pos+1)),⟨rfl,rfl,rfl,by show 0<=c.pos+1;omega,by show c.pos+1<=_;omega,by show ((0:Nat):Int)<=c.pos+1;omega,by show _ < c.pos+1+((s.length+2:Nat):Int);omega,rfl⟩,?_⟩,?_⟩
 ·exact Xr
 rintro ⟨f,acc,d⟩ ⟨d1,d2,d3,d4,d5,d6,d7,d8⟩
 simp only at d1 d2 d3 d4 d5 d6 d7 d8
 obtain ⟨f,rfl⟩:∃g,f=g+1:=⟨f - 1,by omega⟩
 rw [bZ] at d8
 have e0:d.pos+0=d.pos:=Int.add_zero _
 have hn:n=d.out.length:=by rw [d1];exact ho1
 simp only [e0]
 refine ⟨⟨by omega,by omega,by omega,by omega,by omega⟩,a6 (fun h=>?_) (fun h=>?_)⟩
 ·replace h:=Xo h
  rw [if_pos h] at d8
  rw [d8]
  refine ⟨hn,trivial,?_⟩
  exact Xr
 replace h:¬bAt s d.pos < 32:=fun e=>h (Xd e)
 rw [if_neg h] at d8
 refine a6 (fun k=>?_) (fun k=>?_)
 ·replace k:=Xo k
  rw [if_pos k] at d8
  rw [d8]
  refine ⟨an (by omega) (by omega),trivial,mm acc,by trivial,by trivial,rfl,rfl,rfl,rfl,hn,trivial⟩
 replace k:¬bAt s d.pos=34:=fun e=>k (Xd e)
 rw [if_neg k] at d8
 refine a6 (fun j=>?_) (fun j=>?_)
 ·replace j:=Xo j
  rw [if_pos j] at d8
  refine ⟨⟨by omega,by omega,by omega,by omega,by omega⟩,?_⟩
  cases he:gQ (bAt s (d.pos+1)) with
  | none=>
   have hi:=Dx he
   rw [he] at d8
   simp only at d8
   refine a6 (fun _=>?_) (fun e=>absurd (Xd hi) e)
   rw [d8]
   refine ⟨hn,trivial,?_⟩
   exact Xr
  | some x=>
   obtain ⟨i1,i2,i3⟩:=Dy he
   have hp:=nY he
   rw [he] at d8
   simp only at d8
   refine a6 (fun e=>absurd (Xo e) (by omega)) (fun _=>?_)
   simp only [i3]
   refine ⟨⟨i1,i2⟩,⟨by trivial,by have:(aB acc).length=acc.length:=List.length_map _;rw [this];simp only [List.length_singleton];omega⟩,an (by omega) (by omega),(f,acc++[UInt8.ofNat x.toNat],bS d (d.pos+2)),⟨d1,d2,d3,by show 0<=d.pos+2;omega,by show d.pos+2<=_;omega,by show ((acc++[_]).length:Int)<=d.pos+2;rw [List.length_append,List.length_singleton];omega,by show _ < d.pos+2+(f:Int);omega,d8⟩,by show f < f+1;omega,by show _=aB (acc++[UInt8.ofNat x.toNat]);rw [dT];rfl,by trivial,by trivial,rfl,rfl,rfl,rfl,by rw [dT];rfl,by trivial,trivial⟩
 replace j:¬bAt s d.pos=92:=fun e=>j (Xd e)
 rw [if_neg j] at d8
 obtain ⟨p1,p2⟩:=nZ h k j
 have p2:=p2 d4
 have p3:=cQ (pr:=aI) d4 (Int.le_of_lt p1)
 have hcl:=pm (s:=s) d4 (b:=d.pos+(ae aI s d.pos:Int)) (by omega) p3
 have e1:d.pos+(ae aI s d.pos:Int) - ((cut s d.pos (d.pos+(ae aI s d.pos:Int))).length:Int)=d.pos:=by omega
 simp only [e1]
 refine ⟨⟨by omega,by omega,by omega⟩,an (by omega) (by omega),⟨hn,by omega,by omega,by omega,by omega⟩,?_⟩
 unfold gK
 cases hb:cu (cut s d.pos (d.pos+(ae aI s d.pos:Int))) with
 | some q=>
  rw [hb] at d8
  simp only at d8
  rw [d8]
  refine a6 (fun _=>?_) (fun e=>absurd rfl e)
  refine ⟨trivial,?_⟩
  exact Xr
 | none=>
  rw [hb] at d8
  simp only at d8
  refine a6 (fun e=>Bool.noConfusion e) (fun _=>?_)
  have hbl:∀x:Str,(aB x).length=x.length:=fun _=>List.length_map _
  refine ⟨⟨by trivial,by rw [hbl];omega⟩,(f,acc++cut s d.pos (d.pos+(ae aI s d.pos:Int)),bS d (d.pos+(ae aI s d.pos:Int))),⟨d1,d2,d3,by show 0<=d.pos+_;omega,p3,by show ((acc++cut s _ _).length:Int)<=d.pos+_;rw [List.length_append];omega,by show _ < d.pos+_+(f:Int);omega,d8⟩,by show f < f+1;omega,(dT _ _).symm,by trivial,by trivial,rfl,rfl,rfl,rfl,by rw [dT],?_⟩
  first | exact ⟨hn,trivial⟩ | exact ⟨hn.symm,trivial⟩
theorem FR (s:Str)  :
  let A:=True;let B:=A/\true=fG s/\A;if decide (s=([60,61]:Str))=true then B else if decide (s=([62,61]:Str))=true then B else if decide (s=([45,62]:Str))=true then B else if decide ((↑(List.length s):Int)=(1:Int))=true then List.length s=(1:Nat)/\A/\decide (List.getD s (0:Nat) (0:UInt8)∈([40,41,123,125,91,93,60,62,61,94,42,44,58,46,47,64,124]:Str))=fG s/\A else A/\false=fG s/\A:=by
 conv=>zeta
 unfold fG
 refine a6 (fun h=>?_) (fun h=>?_)
 ·rw [h];exact ⟨trivial,rfl,trivial⟩
 rw [Bool.not_eq_true] at h
 refine a6 (fun k=>?_) (fun k=>?_)
 ·rw [k,h];exact ⟨trivial,rfl,trivial⟩
 rw [Bool.not_eq_true] at k
 refine a6 (fun j=>?_) (fun j=>?_)
 ·rw [k,h,j];exact ⟨trivial,rfl,trivial⟩
 rw [Bool.not_eq_true] at j
 rw [h,k,j]
 simp only [Bool.false_or]
 refine a6 (fun i=>?_) (fun i=>?_)
 ·have i:=Xo i
  have e:s.length=1:=by omega
  rw [Xd e,Bool.true_and]
  exact ⟨e,trivial,rfl,trivial⟩
 ·have i:¬(s.length:Int)=1:=fun e=>i (Xd e)
  rw [Xf (p:=s.length=1) (by omega),Bool.false_and]
  exact ⟨trivial,rfl,trivial⟩
theorem BG (s:Str) (c:SC) (n:Nat) (ho:n=c.out.length/\n<=4096/\s.length<=4096/\0<=c.pos/\c.pos<=(s.length:Int)/\c.pos < (s.length:Int)) :
  let A:=(4096:Nat);let B:=List.length s<=A;let C:=(0:Int);let D:=C<=c.pos;let E:=(↑(List.length s):Int);let F:=c.pos<=E;let G:=(2:Int);let H:=Ty.st SN.token;let I:=(AV.agg [AV.str s,AV.int IntKind.i64 c.pos,AV.lst H c.out (some (901:Nat)),AV.int IntKind.i64 c.err,AV.int IntKind.i64 c.fat]);let J:=True;let K:=c.pos+C;let L:=bAt s K;let M:=B/\D/\F;let N:=(↑(ae bp s c.pos):Int);let O:=cut s c.pos (c.pos+N);let P:=n=List.length c.out;let Q:=(1:Nat);let R:=(140737488355328:Nat);let S:=(P/\(n+Q)*(32:Nat)<=R);let T:=aN s c;let U:=true=T.1;let V:=s=s;let W:=(gE (5:Int) O c.pos {pos:=c.pos+N,out:=c.out,err:=c.err,fat:=c.fat:SC});let X:=n+Q=List.length T.2.out/\J;let Y:=(1:Int);let Z:=(gE Y O c.pos {pos:=c.pos+N,out:=c.out,err:=c.err,fat:=c.fat:SC});let a:=(gE G O c.pos {pos:=c.pos+N,out:=c.out,err:=c.err,fat:=c.fat:SC});let b:=false=T.1;let d:=(60:Int);let e:=(eM d c.pos {pos:=c.pos+N,out:=c.out,err:=c.err,fat:=c.fat:SC});let f:=M/\if iQ O=true then S/\J/\U/\V/\W.2.pos=T.2.pos/\W.2.out=T.2.out/\W.2.err=T.2.err/\W.2.fat=T.2.fat/\X else if aQ O=true then S/\J/\U/\V/\Z.2.pos=T.2.pos/\Z.2.out=T.2.out/\Z.2.err=T.2.err/\Z.2.fat=T.2.fat/\X else if dq O=true then S/\J/\U/\V/\a.2.pos=T.2.pos/\a.2.out=T.2.out/\a.2.err=T.2.err/\a.2.fat=T.2.fat/\X else P/\J/\b/\V/\e.2.pos=T.2.pos/\e.2.out=T.2.out/\e.2.err=T.2.err/\e.2.fat=T.2.fat/\List.length e.2.out=List.length T.2.out/\J;let g:=(↑(ae aD s c.pos):Int);let h:=cut s c.pos (c.pos+g);let i:=(↑(List.length h):Int);let j:=(gE (3:Int) h c.pos {pos:=c.pos+g,out:=c.out,err:=c.err,fat:=c.fat:SC});let k:=S/\J/\U/\V/\j.2.pos=T.2.pos/\j.2.out=T.2.out/\j.2.err=T.2.err/\j.2.fat=T.2.fat/\X;let l:=(gE (7:Int) h c.pos {pos:=c.pos+g,out:=c.out,err:=c.err,fat:=c.fat:SC});let m:=(eM d c.pos {pos:=c.pos+g,out:=c.out,err:=c.err,fat:=c.fat:SC});let o:=List.length h<=A/\if decide ((bQ h).2=C)=true then S/\J/\U/\V/\l.2.pos=T.2.pos/\l.2.out=T.2.out/\l.2.err=T.2.err/\l.2.fat=T.2.fat/\X else P/\J/\b/\V/\m.2.pos=T.2.pos/\m.2.out=T.2.out/\m.2.err=T.2.err/\m.2.fat=T.2.fat/\List.length m.2.out=List.length T.2.out/\J;let p:=cm s c;let q:=(gE (4:Int) p.1 c.pos p.2.2);let r:=(2:Nat);let t:=fH s c.pos G=false;let u:=(0:Nat);let v:=fH s c.pos Y=false;let w:=false=false;let z:=bAt s K=bAt s K/\w/\w/\w/\V/\c.pos=c.pos/\c.out=c.out/\c.err=c.err/\c.fat=c.fat/\n=n/\c.pos=c.pos/\J;let A0:=Int.toNat c.pos;let A1:=(6:Int);let A2:=eM d c.pos c;((B/\D/\F/\C<=C/\C<=G)/\SObj.box I=SObj.box I/\SObj.tail H n=SObj.tail H n/\J)/\if bq L=true then f else if bw L=true then f else if aK L=true then M/\([48,49,50,51,52,53,54,55,56,57]:Str)=oU/\if decide ((↑(List.length (lS h)):Int)=C)=true then if decide (i<=(15:Int))=true then if decide (cut s c.pos (c.pos+g)=([48]:Str))=true then k else (C<=C/\C<i)/\if (!decide ((↑(UInt8.toNat (List.getD h (Int.toNat C) (0:UInt8))):Int)=(48:Int)))=true then k else o else o else o else if decide (bAt s K=(34:Int))=true then (P/\n<=A/\B/\D/\F/\c.pos<E)/\if p.2.1=true then (List.length p.2.2.out=List.length p.2.2.out/\(List.length p.2.2.out+Q)*(32:Nat)<=R)/\J/\U/\V/\q.2.pos=T.2.pos/\q.2.out=T.2.out/\q.2.err=T.2.err/\q.2.fat=T.2.fat/\List.length p.2.2.out+Q=List.length T.2.out/\J else J/\b/\V/\p.2.2.pos=T.2.pos/\p.2.2.out=T.2.out/\p.2.2.err=T.2.err/\p.2.2.fat=T.2.fat/\List.length p.2.2.out=List.length T.2.out/\J else (∃(x:Nat),(x<=r/\(x<=Q→t)/\(x=u→v))/\G=(↑x:Int)/\z)/\∀(x:Nat),let A3:=(↑x:Int);let A4:=inR IntKind.i64 (c.pos+A3);let A5:=c.pos+A3<=E;let A6:=D/\c.pos<=c.pos+A3/\A5;let A7:=List.drop A0 (List.take (Int.toNat (c.pos+A3)) s);let A8:=(gE A1 A7 c.pos {pos:=c.pos+A3,out:=c.out,err:=c.err,fat:=c.fat:SC});let A9:=inR IntKind.i64 (A3 - Y)/\∃(y:Nat),(y<=r/\(y<=Q→t)/\(y=u→v))/\y<x/\A3 - Y=(↑y:Int)/\z;x<=r/\(x<=Q→t)/\(x=u→v)→if decide (C<A3)=true then A4/\if decide (A5)=true then A4/\A6/\if fG A7=true then A4/\A6/\S/\J/\U/\V/\A8.2.pos=T.2.pos/\A8.2.out=T.2.out/\A8.2.err=T.2.err/\A8.2.fat=T.2.fat/\X else A9 else A9 else P/\J/\b/\V/\A2.2.pos=T.2.pos/\A2.2.out=T.2.out/\A2.2.err=T.2.err/\A2.2.fat=T.2.fat/\List.length A2.2.out=List.length T.2.out/\J:=by
 conv=>zeta
 obtain ⟨ho1,ho2,ho3,ho4,ho5,ho6⟩:=ho
 have e0:c.pos+0=c.pos:=Int.add_zero _
 have hout:∀(k:Int) (t:Str) (e:Int),n+1=(gE k t c.pos (bS c e)).2.out.length:=fun k t e=>by
  show n+1=(c.out++[_]).length
  rw [List.length_append,List.length_singleton,ho1]
 have hwr:=cQ (pr:=bp) ho4 ho5
 have hwl:=cQ (pr:=aD) ho4 ho5
 simp only [e0]
 refine ⟨⟨⟨by omega,by omega,by omega,by omega,by omega⟩,(by first | rfl | trivial),(by first | rfl | trivial),trivial⟩,a6 (fun a=>?_) (fun a=>?_)⟩
 ·have hw:aN s c=tZ (cut s c.pos (c.pos+(ae bp s c.pos:Int))) (c.pos+(ae bp s c.pos:Int)) c:=by unfold aN;rw [if_pos (.inl a)]
  unfold tZ at hw
  refine ⟨⟨by omega,by omega,by omega⟩,a6 (fun h=>?_) (fun h=>?_)⟩
  ·rw [if_pos h] at hw
   rw [hw]
   refine ⟨⟨ho1,by omega⟩,trivial,?_⟩
   repeat (first | exact trivial | exact ⟨hout _ _ _,trivial⟩ | refine ⟨by first | rfl | trivial,?_⟩)
  rw [if_neg h] at hw
  refine a6 (fun i=>?_) (fun i=>?_)
  ·rw [if_pos i] at hw
   rw [hw]
   refine ⟨⟨ho1,by omega⟩,trivial,?_⟩
   repeat (first | exact trivial | exact ⟨hout _ _ _,trivial⟩ | refine ⟨by first | rfl | trivial,?_⟩)
  rw [if_neg i] at hw
  refine a6 (fun j=>?_) (fun j=>?_)
  ·rw [if_pos j] at hw
   rw [hw]
   refine ⟨⟨ho1,by omega⟩,trivial,?_⟩
   repeat (first | exact trivial | exact ⟨hout _ _ _,trivial⟩ | refine ⟨by first | rfl | trivial,?_⟩)
  rw [if_neg j] at hw
  rw [hw]
  refine ⟨ho1,trivial,?_⟩
  exact Xr
 refine a6 (fun b=>?_) (fun b=>?_)
 ·have hw:aN s c=tZ (cut s c.pos (c.pos+(ae bp s c.pos:Int))) (c.pos+(ae bp s c.pos:Int)) c:=by unfold aN;rw [if_pos (.inr b)]
  unfold tZ at hw
  refine ⟨⟨by omega,by omega,by omega⟩,a6 (fun h=>?_) (fun h=>?_)⟩
  ·rw [if_pos h] at hw
   rw [hw]
   refine ⟨⟨ho1,by omega⟩,trivial,?_⟩
   repeat (first | exact trivial | exact ⟨hout _ _ _,trivial⟩ | refine ⟨by first | rfl | trivial,?_⟩)
  rw [if_neg h] at hw
  refine a6 (fun i=>?_) (fun i=>?_)
  ·rw [if_pos i] at hw
   rw [hw]
   refine ⟨⟨ho1,by omega⟩,trivial,?_⟩
   repeat (first | exact trivial | exact ⟨hout _ _ _,trivial⟩ | refine ⟨by first | rfl | trivial,?_⟩)
  rw [if_neg i] at hw
  refine a6 (fun j=>?_) (fun j=>?_)
  ·rw [if_pos j] at hw
   rw [hw]
   refine ⟨⟨ho1,by omega⟩,trivial,?_⟩
   repeat (first | exact trivial | exact ⟨hout _ _ _,trivial⟩ | refine ⟨by first | rfl | trivial,?_⟩)
  rw [if_neg j] at hw
  rw [hw]
  refine ⟨ho1,trivial,?_⟩
  exact Xr
 have hn1:¬(bq (bAt s c.pos)=true∨bw (bAt s c.pos)=true):=fun e=>e.elim a b
 refine a6 (fun d=>?_) (fun d=>?_)
 ·have hw:aN s c=xX (cut s c.pos (c.pos+(ae aD s c.pos:Int))) (c.pos+(ae aD s c.pos:Int)) c:=by unfold aN;rw [if_neg hn1,if_pos d]
  unfold xX at hw
  have hcl:=pm (s:=s) ho4 (b:=c.pos+(ae aD s c.pos:Int)) (by omega) hwl
  have hne:=bT (pr:=aD) ho4 ho6 (by rw [jQ ho6] at d;unfold aD;rw [d,Bool.or_true];rfl)
  have htr:=sl (cut s c.pos (c.pos+(ae aD s c.pos:Int)))
  have hall:∀x:Str,(x.all fun c=>aK (bI c))=x.all dL:=fun _=>rfl
  have hnt:f7 (cut s c.pos (c.pos+(ae aD s c.pos:Int)))=((cut s c.pos (c.pos+(ae aD s c.pos:Int))).all dL && decide ((cut s c.pos (c.pos+(ae aD s c.pos:Int))).length<=15) && (decide (cut s c.pos (c.pos+(ae aD s c.pos:Int))=[48]) || !decide (bI ((cut s c.pos (c.pos+(ae aD s c.pos:Int))).getD 0 0)=48))):=rfl
  refine ⟨⟨by omega,by omega,by omega⟩,(by first | rfl | trivial),?_⟩
  have eb:∀b:UInt8,(b.toNat:Int)=bI b:=fun _=>rfl
  simp only [eb,Int.toNat_zero]
  generalize cut s c.pos (c.pos+(ae aD s c.pos:Int))=t at hw hcl htr hnt ⊢
  refine a6 (fun f=>?_) (fun f=>?_)
  ·have f1:t.all dL=true:=htr.1 (List.eq_nil_of_length_eq_zero (by have:=Xo f;omega))
   refine a6 (fun g=>?_) (fun g=>?_)
   ·have g1:=Xo g
    refine a6 (fun i=>?_) (fun i=>?_)
    ·have hnum:f7 t=true:=by rw [hnt,f1,Xd (p:=t.length<=15) (by omega),i];rfl
     rw [hnum,if_pos rfl] at hw
     rw [hw]
     refine ⟨⟨ho1,by omega⟩,trivial,?_⟩
     repeat (first | exact trivial | exact ⟨hout _ _ _,trivial⟩ | refine ⟨by first | rfl | trivial,?_⟩)
    ·rw [Bool.not_eq_true] at i
     refine ⟨⟨by omega,by omega⟩,a6 (fun j=>?_) (fun j=>?_)⟩
     ·have hnum:f7 t=true:=by rw [hnt,f1,Xd (p:=t.length<=15) (by omega),j,Bool.or_true];rfl
      rw [hnum,if_pos rfl] at hw
      rw [hw]
      refine ⟨⟨ho1,by omega⟩,trivial,?_⟩
      repeat (first | exact trivial | exact ⟨hout _ _ _,trivial⟩ | refine ⟨by first | rfl | trivial,?_⟩)
     ·rw [Bool.not_eq_true] at j
      have hnum:f7 t=false:=by rw [hnt,i,j,Bool.or_false,Bool.and_false]
      rw [hnum,if_neg Bool.false_ne_true] at hw
      refine ⟨by omega,a6 (fun z=>?_) (fun z=>?_)⟩
      ·rw [if_pos (Xo z)] at hw
       rw [hw]
       refine ⟨⟨ho1,by omega⟩,trivial,?_⟩
       repeat (first | exact trivial | exact ⟨hout _ _ _,trivial⟩ | refine ⟨by first | rfl | trivial,?_⟩)
      ·rw [if_neg (fun e=>z (Xd e))] at hw
       rw [hw]
       refine ⟨ho1,trivial,?_⟩
       exact Xr
   ·have g1:¬(t.length:Int)<=15:=fun e=>g (Xd e)
    have hnum:f7 t=false:=by rw [hnt,Xf (p:=t.length<=15) (by omega),Bool.and_false,Bool.false_and]
    rw [hnum,if_neg Bool.false_ne_true] at hw
    refine ⟨by omega,a6 (fun z=>?_) (fun z=>?_)⟩
    ·rw [if_pos (Xo z)] at hw
     rw [hw]
     refine ⟨⟨ho1,by omega⟩,trivial,?_⟩
     repeat (first | exact trivial | exact ⟨hout _ _ _,trivial⟩ | refine ⟨by first | rfl | trivial,?_⟩)
    ·rw [if_neg (fun e=>z (Xd e))] at hw
     rw [hw]
     refine ⟨ho1,trivial,?_⟩
     exact Xr
  ·have f1:t.all dL=false:=by
    rw [Bool.eq_false_iff]
    intro e
    refine f (Xd ?_)
    rw [htr.2 e]
    rfl
   have hnum:f7 t=false:=by rw [hnt,f1,Bool.false_and,Bool.false_and]
   rw [hnum,if_neg Bool.false_ne_true] at hw
   refine ⟨by omega,a6 (fun z=>?_) (fun z=>?_)⟩
   ·rw [if_pos (Xo z)] at hw
    rw [hw]
    refine ⟨⟨ho1,by omega⟩,trivial,?_⟩
    repeat (first | exact trivial | exact ⟨hout _ _ _,trivial⟩ | refine ⟨by first | rfl | trivial,?_⟩)
   ·rw [if_neg (fun e=>z (Xd e))] at hw
    rw [hw]
    refine ⟨ho1,trivial,?_⟩
    exact Xr
 refine a6 (fun q=>?_) (fun q=>?_)
 ·have q:=Xo q
  have hw:aN s c=xY c.pos (cm s c):=by unfold aN;rw [if_neg hn1,if_neg d,if_pos q]
  obtain ⟨q1,q2,q3⟩:=eX s c.pos (s.length+2) [] (bS c (c.pos+1)) (by show 0<=c.pos+1;omega) (by show c.pos+1<=_;omega)
  have q1':(cm s c).2.2.out=c.out:=q1
  unfold xY at hw
  refine ⟨⟨ho1,ho2,ho3,ho4,ho5,ho6⟩,a6 (fun r=>?_) (fun r=>?_)⟩
  ·rw [if_pos r] at hw
   rw [hw]
   refine ⟨⟨by trivial,by rw [q1'];omega⟩,trivial,?_⟩
   repeat (first | exact trivial | refine ⟨by first | rfl | trivial | (show _=(_++[_]).length;rw [List.length_append,List.length_singleton]),?_⟩)
  ·rw [if_neg r] at hw
   rw [hw]
   refine ⟨trivial,?_⟩
   exact Xr
 have q:¬bAt s c.pos=34:=fun e=>q (Xd e)
 have hw:aN s c=vF s c:=by unfold aN;rw [if_neg hn1,if_neg d,if_neg q]
 refine ⟨⟨2,⟨by omega,fun e=>by omega,fun e=>by omega⟩,?_⟩,?_⟩
 ·exact Xr
 rintro k ⟨h1,h2,h3⟩
 have hcut:∀k:Int,List.drop (Int.toNat c.pos) (List.take (Int.toNat (c.pos+k)) s)=cut s c.pos (c.pos+k):=fun _=>rfl
 simp only [hcut]
 refine a6 (fun f=>?_) (fun f=>?_)
 ·have f:=Xo f
  have hk:k=2∨k=1:=by omega
  have hsa:fH s c.pos (k:Int)=(decide (c.pos+(k:Int)<=(s.length:Int)) && fG (cut s c.pos (c.pos+(k:Int)))):=rfl
  refine ⟨an (by omega) (by omega),a6 (fun g=>?_) (fun g=>?_)⟩
  ·have g1:=Xo g
   refine ⟨an (by omega) (by omega),⟨by omega,by omega,by omega⟩,a6 (fun i=>?_) (fun i=>?_)⟩
   ·rw [g,i] at hsa
    have hw:aN s c=gE 6 (cut s c.pos (c.pos+(k:Int))) c.pos (bS c (c.pos+(k:Int))):=by
     rw [hw]
     unfold vF
     rcases hk with rfl | rfl
     ·rw [if_pos (show fH s c.pos 2=true from hsa)];rfl
     ·rw [if_neg (by rw [h2 (by omega)];exact Bool.false_ne_true),if_pos (show fH s c.pos 1=true from hsa)];rfl
    rw [hw]
    refine ⟨an (by omega) (by omega),⟨by omega,by omega,by omega⟩,⟨ho1,by omega⟩,trivial,?_⟩
    repeat (first | exact trivial | exact ⟨hout _ _ _,trivial⟩ | refine ⟨by first | rfl | trivial,?_⟩)
   ·rw [Bool.not_eq_true] at i
    have hmiss:fH s c.pos (k:Int)=false:=by rw [hsa,i,Bool.and_false]
    have hmiss:=hmiss
    ·refine ⟨an (by omega) (by omega),k - 1,⟨by omega,fun _=>?_,fun _=>?_⟩,by omega,by omega,?_⟩
     ·rcases hk with rfl | rfl
      ·exact hmiss
      ·exact h2 (by omega)
     ·have:k=1:=by omega
      subst this
      exact hmiss
     ·exact Xr
  ·have hmiss:fH s c.pos (k:Int)=false:=by rw [hsa,Xf (fun e=>g (Xd e)),Bool.false_and]
   have hmiss:=hmiss
   ·refine ⟨an (by omega) (by omega),k - 1,⟨by omega,fun _=>?_,fun _=>?_⟩,by omega,by omega,?_⟩
    ·rcases hk with rfl | rfl
     ·exact hmiss
     ·exact h2 (by omega)
    ·have:k=1:=by omega
     subst this
     exact hmiss
    ·exact Xr
 ·have hk:k=0:=by
   have:¬(0:Int) < (k:Int):=fun e=>f (Xd e)
   omega
  have hw:aN s c=eM 60 c.pos c:=by
   rw [hw]
   unfold vF
   rw [if_neg (by rw [h2 (by omega)];exact Bool.false_ne_true),if_neg (by rw [h3 hk];exact Bool.false_ne_true)]
  rw [hw]
  refine ⟨ho1,trivial,?_⟩
  exact Xr
theorem FT (s:Str) (hs:Wf .str s) :
  let A:=(↑(List.length s):Int);let B:=True;let C:=aU s;let D:=C.1=[];let E:=(0:Int);let F:=s=s;let G:=false=false;let H:=E=E/\E=E/\B;let I:=(4096:Nat);let J:=List.length s<=I;let K:=[{kind:=E,text:=[],pos:=A:Tokn}];let L:=(1:Int);if decide ((4096:Int)<A)=true then B/\D/\(3:Int)=C.2.err/\(4096:Int)=C.2.pos/\B else (∃(x:Nat × SC),((↑(List.length x.2.out):Int)<=x.2.pos/\A<x.2.pos+(↑x.1:Int)/\E<=x.2.pos/\x.2.pos<=A/\aU s=dK s x.1 x.2)/\F/\G/\F/\E=x.2.pos/\x.2.out=[]/\E=x.2.err/\E=x.2.fat/\List.length x.2.out=(0:Nat)/\H)/\∀(x:Nat × SC),let M:=E<=x.2.pos;let N:=x.2.pos<=A;let O:=List.length x.2.out=List.length x.2.out;let P:=x.2.pos+E;let Q:=x.2.pos+L;let R:=inR IntKind.i64 Q/\∃(y:Nat × SC),((↑(List.length y.2.out):Int)<=y.2.pos/\A<y.2.pos+(↑y.1:Int)/\E<=y.2.pos/\y.2.pos<=A/\aU s=dK s y.1 y.2)/\y.1<x.1/\F/\G/\F/\x.2.pos+L=y.2.pos/\x.2.out=y.2.out/\x.2.err=y.2.err/\x.2.fat=y.2.fat/\List.length x.2.out=List.length y.2.out/\H;let S:=(↑(ae bE s x.2.pos):Int);let T:=(gK s x.2.pos (x.2.pos+S) {pos:=x.2.pos+S,out:=x.2.out,err:=x.2.err,fat:=x.2.fat:SC});let U:=aN s x.2;let V:=(O/\List.length x.2.out<=I/\J/\M/\N/\x.2.pos<A)/\if (!U.1)=true then B/\D/\U.2.err=C.2.err/\U.2.fat=C.2.pos/\B else ∃(y:Nat × SC),((↑(List.length y.2.out):Int)<=y.2.pos/\A<y.2.pos+(↑y.1:Int)/\E<=y.2.pos/\y.2.pos<=A/\aU s=dK s y.1 y.2)/\y.1<x.1/\F/\G/\F/\U.2.pos=y.2.pos/\U.2.out=y.2.out/\U.2.err=y.2.err/\U.2.fat=y.2.fat/\List.length U.2.out=List.length y.2.out/\H;(↑(List.length x.2.out):Int)<=x.2.pos/\A<x.2.pos+(↑x.1:Int)/\M/\N/\aU s=dK s x.1 x.2→(J/\M/\N/\E<=E/\E<=(2:Int))/\if decide (x.2.pos=A)=true then (O/\(List.length x.2.out+List.length K)*(32:Nat)<=(140737488355328:Nat))/\B/\x.2.out++K=C.1/\E=C.2.err/\E=C.2.pos/\B else if decide (bAt s P=(32:Int))=true then R else if decide (bAt s P=(10:Int))=true then R else if decide (bAt s P=(9:Int))=true then R else if decide (bAt s P=(13:Int))=true then R else if decide (bAt s P=(45:Int))=true then (J/\M/\N/\E<=L/\L<=(2:Int))/\if decide (bAt s Q=(45:Int))=true then (J/\M/\N)/\(O/\J/\M/\x.2.pos<=x.2.pos+S/\x.2.pos+S<=A)/\if (!T.1)=true then B/\D/\T.2.err=C.2.err/\T.2.fat=C.2.pos/\B else ∃(y:Nat × SC),((↑(List.length y.2.out):Int)<=y.2.pos/\A<y.2.pos+(↑y.1:Int)/\E<=y.2.pos/\y.2.pos<=A/\aU s=dK s y.1 y.2)/\y.1<x.1/\F/\G/\F/\T.2.pos=y.2.pos/\T.2.out=y.2.out/\T.2.err=y.2.err/\T.2.fat=y.2.fat/\List.length T.2.out=List.length y.2.out/\H else V else V:=by
 conv=>zeta
 refine a6 (fun h=>?_) (fun h=>?_)
 ·have h:=Xo h
  have e:aU s=([],⟨3,4096⟩):=by unfold aU;rw [if_pos (by omega)]
  rw [e]
  exact ⟨trivial,rfl,rfl,rfl,trivial⟩
 have h:¬(4096:Int) < (s.length:Int):=fun e=>h (Xd e)
 have hs0:aU s=dK s (s.length+2) ⟨0,[],0,0⟩:=by unfold aU;rw [if_neg (by omega)]
 refine ⟨⟨(s.length+2,⟨0,[],0,0⟩),⟨by show ((0:Nat):Int)<=0;omega,by show _ < 0+((s.length+2:Nat):Int);omega,by show (0:Int)<=0;omega,by show (0:Int)<=_;omega,hs0⟩,?_⟩,?_⟩
 ·exact Xr
 rintro ⟨f,d⟩ ⟨d1,d2,d3,d4,d5⟩
 simp only at d1 d2 d3 d4 d5
 obtain ⟨f,rfl⟩:∃g,f=g+1:=⟨f - 1,by omega⟩
 rw [dK] at d5
 have e0:d.pos+0=d.pos:=Int.add_zero _
 simp only [e0]
 refine ⟨⟨by omega,by omega,by omega,by omega,by omega⟩,a6 (fun k=>?_) (fun k=>?_)⟩
 ·replace k:=Xo k
  rw [if_pos k] at d5
  rw [d5]
  refine ⟨⟨by trivial,by simp only [List.length_singleton];omega⟩,trivial,?_⟩
  exact Xr
 replace k:¬d.pos=(s.length:Int):=fun e=>k (Xd e)
 have hlt:d.pos < (s.length:Int):=by omega
 rw [if_neg k] at d5
 clear k
 refine a6 (fun k=>?_) (fun k=>?_)
 ·replace k:=Xo k
  rw [if_pos ((dJ _).2 (by omega))] at d5
  refine ⟨an (by omega) (by omega),(f,bS d (d.pos+1)),⟨by show (d.out.length:Int)<=d.pos+1;omega,by show _ < d.pos+1+(f:Int);omega,by show 0<=d.pos+1;omega,by show d.pos+1<=_;omega,d5⟩,by show f < f+1;omega,?_⟩
  exact Xr
 replace k:¬bAt s d.pos=32:=fun e=>k (Xd e)
 have k32:=k
 clear k
 refine a6 (fun k=>?_) (fun k=>?_)
 ·replace k:=Xo k
  rw [if_pos ((dJ _).2 (by omega))] at d5
  refine ⟨an (by omega) (by omega),(f,bS d (d.pos+1)),⟨by show (d.out.length:Int)<=d.pos+1;omega,by show _ < d.pos+1+(f:Int);omega,by show 0<=d.pos+1;omega,by show d.pos+1<=_;omega,d5⟩,by show f < f+1;omega,?_⟩
  exact Xr
 replace k:¬bAt s d.pos=10:=fun e=>k (Xd e)
 have k10:=k
 clear k
 refine a6 (fun k=>?_) (fun k=>?_)
 ·replace k:=Xo k
  rw [if_pos ((dJ _).2 (by omega))] at d5
  refine ⟨an (by omega) (by omega),(f,bS d (d.pos+1)),⟨by show (d.out.length:Int)<=d.pos+1;omega,by show _ < d.pos+1+(f:Int);omega,by show 0<=d.pos+1;omega,by show d.pos+1<=_;omega,d5⟩,by show f < f+1;omega,?_⟩
  exact Xr
 replace k:¬bAt s d.pos=9:=fun e=>k (Xd e)
 have k9:=k
 clear k
 refine a6 (fun k=>?_) (fun k=>?_)
 ·replace k:=Xo k
  rw [if_pos ((dJ _).2 (by omega))] at d5
  refine ⟨an (by omega) (by omega),(f,bS d (d.pos+1)),⟨by show (d.out.length:Int)<=d.pos+1;omega,by show _ < d.pos+1+(f:Int);omega,by show 0<=d.pos+1;omega,by show d.pos+1<=_;omega,d5⟩,by show f < f+1;omega,?_⟩
  exact Xr
 replace k:¬bAt s d.pos=13:=fun e=>k (Xd e)
 have k13:=k
 clear k
 have hbl:¬aE (bAt s d.pos)=true:=fun e=>by have:=(dJ _).1 e;omega
 rw [if_neg hbl] at d5
 refine a6 (fun k=>?_) (fun k=>?_)
 ·replace k:=Xo k
  refine ⟨⟨by omega,by omega,by omega,by omega,by omega⟩,a6 (fun j=>?_) (fun j=>?_)⟩
  ·replace j:=Xo j
   rw [if_pos ⟨k,j⟩] at d5
   have hw:=cQ (pr:=bE) d3 d4
   have hp:=pn (s:=s) (a:=d.pos+1) (by omega)
   have hh:=bT (pr:=bE) d3 hlt (by rw [←jQ hlt,k];rfl)
   refine ⟨⟨by omega,by omega,by omega⟩,⟨by trivial,by omega,by omega,by omega,by omega⟩,?_⟩
   unfold gK
   cases hb:cu (cut s d.pos (d.pos+(ae bE s d.pos:Int))) with
   | some q=>
    rw [hb] at d5
    simp only at d5
    rw [d5]
    refine a6 (fun _=>?_) (fun e=>absurd rfl e)
    refine ⟨trivial,?_⟩
    exact Xr
   | none=>
    rw [hb] at d5
    simp only at d5
    refine a6 (fun e=>Bool.noConfusion e) (fun _=>?_)
    refine ⟨(f,bS d (d.pos+(ae bE s d.pos:Int))),⟨by show (d.out.length:Int)<=d.pos+_;omega,by show _ < d.pos+_+(f:Int);omega,by show 0<=d.pos+_;omega,hw,d5⟩,by show f < f+1;omega,?_⟩
    exact Xr
  replace j:¬bAt s (d.pos+1)=45:=fun e=>j (Xd e)
  ·refine ⟨⟨by trivial,by omega,by omega,by omega,by omega,by omega⟩,?_⟩
   have hne:¬(bAt s d.pos=45/\bAt s (d.pos+1)=45):=by omega
   rw [if_neg hne] at d5
   cases ht:(aN s d).1 with
   | false=>
    rw [ht,if_neg Bool.false_ne_true] at d5
    refine a6 (fun _=>?_) (fun e=>absurd rfl e)
    rw [d5]
    refine ⟨trivial,?_⟩
    exact Xr
   | true=>
    rw [ht,if_pos rfl] at d5
    obtain ⟨t1,t2,t3⟩:=fJ d3 hlt ht
    refine a6 (fun e=>Bool.noConfusion e) (fun _=>?_)
    refine ⟨(f,(aN s d).2),⟨by show ((aN s d).2.out.length:Int)<=(aN s d).2.pos;omega,by show _ < (aN s d).2.pos+(f:Int);omega,by show 0<=(aN s d).2.pos;omega,t2,d5⟩,by show f < f+1;omega,?_⟩
    exact Xr
 replace k:¬bAt s d.pos=45:=fun e=>k (Xd e)
 ·refine ⟨⟨by trivial,by omega,by omega,by omega,by omega,by omega⟩,?_⟩
  have hne:¬(bAt s d.pos=45/\bAt s (d.pos+1)=45):=by omega
  rw [if_neg hne] at d5
  cases ht:(aN s d).1 with
  | false=>
   rw [ht,if_neg Bool.false_ne_true] at d5
   refine a6 (fun _=>?_) (fun e=>absurd rfl e)
   rw [d5]
   refine ⟨trivial,?_⟩
   exact Xr
  | true=>
   rw [ht,if_pos rfl] at d5
   obtain ⟨t1,t2,t3⟩:=fJ d3 hlt ht
   refine a6 (fun e=>Bool.noConfusion e) (fun _=>?_)
   refine ⟨(f,(aN s d).2),⟨by show ((aN s d).2.out.length:Int)<=(aN s d).2.pos;omega,by show _ < (aN s d).2.pos+(f:Int);omega,by show 0<=(aN s d).2.pos;omega,t2,d5⟩,by show f < f+1;omega,?_⟩
   exact Xr
theorem Eh (l:List Tokn) (a:Int) (hl:Wf (.lst (.st .token)) l) (hN:oT l) :
  let A:=bh l a;let B:=True;let C:=(0:Int);let D:=bB l a;let E:=C=D.1.kind;let F:=[]=D.1.pkg;let G:=[]=D.1.name;let H:=C=D.1.n;let I:=D.1.names=[];let J:=D.1.vars=[];let K:=D.1.shapes=[];let L:=D.1.parts=[];let M:=C=D.1.pos;let N:=C=D.2.1;let O:=(a7 (5000:Nat) A);let P:=cy (ff O.1) (ao A).pos O.2;let Q:=C=D.2.2.err/\C=D.2.2.pos/\B;let R:=if b9 P=true then B/\E/\F/\G/\H/\I/\J/\K/\L/\M/\N/\P.err=D.2.2.err/\P.fat=D.2.2.pos/\B else B/\O.1=D.1/\P.pos=D.2.1/\Q;let S:=if b9 O.2=true then B/\E/\F/\G/\H/\I/\J/\K/\L/\M/\N/\O.2.err=D.2.2.err/\O.2.fat=D.2.2.pos/\B else B/\O.1=D.1/\O.2.pos=D.2.1/\Q;if b9 A=true then B/\E/\F/\G/\H/\I/\J/\K/\L/\M/\N/\A.err=D.2.2.err/\A.fat=D.2.2.pos/\B else a8 A/\(a8 A/\rem A<(5000:Nat))/\if (!b9 O.2)=true then cC O.1=true/\if decide (ff O.1=(3:Int))=true then R else if decide (ff O.1=(91:Int))=true then R else S else S:=by
 conv=>zeta
 refine a6 (fun h=>?_) (fun h=>?_)
 ·have hG:bB l a=(nc,0,⟨(bh l a).err,(bh l a).fat⟩):=by unfold bB;rw [if_pos h]
  rw [hG]
  exact Xr
 have b':b9 (bh l a)=false:=by simpa using h
 have g:=iD hN b'
 have hG:bB l a=Ac l a (a7 5000 (bh l a)):=by unfold bB;rw [if_neg h]
 have hf:=(vW g.2.2.1 5000 (bh l a) rfl).1
 refine ⟨g,⟨g,by have:=nT g;omega⟩,?_⟩
 unfold Ac at hG
 generalize a7 5000 (bh l a)=p at hG hf ⊢
 refine a6 (fun k=>?_) (fun k=>?_)
 ·have k:b9 p.2=false:=by simpa using k
  rw [if_neg (by rw [k];exact Bool.false_ne_true)] at hG
  have fin:∀q:Par,bB l a=n9 nc (p.1,q)→if b9 q=true then True/\(0:Int)=(bB l a).1.kind/\[]=(bB l a).1.pkg/\[]=(bB l a).1.name/\(0:Int)=(bB l a).1.n/\(bB l a).1.names=[]/\(bB l a).1.vars=[]/\(bB l a).1.shapes=[]/\(bB l a).1.parts=[]/\(0:Int)=(bB l a).1.pos/\(0:Int)=(bB l a).2.1/\q.err=(bB l a).2.2.err/\q.fat=(bB l a).2.2.pos/\True
    else True/\p.1=(bB l a).1/\q.pos=(bB l a).2.1/\(0:Int)=(bB l a).2.2.err/\(0:Int)=(bB l a).2.2.pos/\True:=by
   intro q hq
   unfold n9 at hq
   refine a6 (fun j=>?_) (fun j=>?_)
   ·rw [if_pos j] at hq
    rw [hq]
    exact Xr
   ·rw [if_neg j] at hq
    rw [hq]
    exact Xr
  refine ⟨hf,a6 (fun j=>?_) (fun j=>a6 (fun i=>?_) (fun i=>?_))⟩
  ·rw [if_pos (.inl (Xo j))] at hG
   exact fin _ hG
  ·rw [if_pos (.inr (Xo i))] at hG
   exact fin _ hG
  ·rw [if_neg (fun e=>e.elim (fun e=>j (Xd e)) (fun e=>i (Xd e)))] at hG
   exact fin _ hG
 ·have k:b9 p.2=true:=by simpa using k
  rw [if_pos k] at hG
  unfold n9 at hG
  rw [if_pos k] at hG
  refine a6 (fun _=>?_) (fun j=>absurd k j)
  rw [hG]
  exact Xr
theorem w9 (s:Str)  :
  let A:=aU s;let B:=(0:Int);let C:=True;let D:=o6 s;let E:=B=D.1.kind;let F:=[]=D.1.pkg;let G:=[]=D.1.name;let H:=D.1.names=[];let I:=D.1.parts=[];let J:=gP A.1 B;let K:=dM A.1 J.2.1=D.2/\C;let L:=J.2.2=D.2/\C;if (!decide (A.2.err=B))=true then C/\E/\F/\G/\H/\I/\A.2=D.2/\C else oT A.1/\if decide (J.2.2.err=B)=true then (B<=J.2.1/\J.2.1<(↑(List.length A.1):Int))/\if (!decide ((dM A.1 J.2.1).err=B))=true then C/\E/\F/\G/\H/\I/\K else C/\J.1=D.1/\K else if (!decide (J.2.2.err=B))=true then C/\E/\F/\G/\H/\I/\L else C/\J.1=D.1/\L:=by
 conv=>zeta
 have e0:o6 s=qQ Aa (fun l=>gP l 0) s:=rfl
 unfold qQ at e0
 simp only at e0
 refine a6 (fun h=>?_) (fun h=>?_)
 ·have h:¬(aU s).2.err=0:=by simpa using h
  rw [if_neg h] at e0
  rw [e0]
  exact Xr
 have h:(aU s).2.err=0:=by simpa using h
 rw [if_pos h] at e0
 have hN:=mq h
 obtain ⟨l1,l2⟩:=qP h
 refine ⟨hN,a6 (fun k=>?_) (fun k=>?_)⟩
 ·replace k:=Xo k
  rw [if_pos k] at e0
  refine ⟨Bd hN l1 l2 k,a6 (fun j=>?_) (fun j=>?_)⟩
  ·have j:¬(dM (aU s).1 (gP (aU s).1 0).2.1).err=0:=by simpa using j
   rw [if_neg j] at e0
   rw [e0]
   exact Xr
  ·have j:(dM (aU s).1 (gP (aU s).1 0).2.1).err=0:=by simpa using j
   rw [if_pos j] at e0
   rw [e0]
   exact Xr
 ·have k:¬(gP (aU s).1 0).2.2.err=0:=fun e=>k (Xd e)
  rw [if_neg k] at e0
  refine a6 (fun _=>?_) (fun j=>absurd (by simp [k]) j)
  rw [e0]
  exact Xr
theorem wa (s:Str)  :
  let A:=aU s;let B:=(0:Int);let C:=True;let D:=iH s;let E:=B=D.1.kind;let F:=[]=D.1.pkg;let G:=[]=D.1.name;let H:=B=D.1.n;let I:=D.1.names=[];let J:=D.1.vars=[];let K:=D.1.shapes=[];let L:=D.1.parts=[];let M:=B=D.1.pos;let N:=bB A.1 B;let O:=dM A.1 N.2.1=D.2/\C;let P:=N.2.2=D.2/\C;if (!decide (A.2.err=B))=true then C/\E/\F/\G/\H/\I/\J/\K/\L/\M/\A.2=D.2/\C else oT A.1/\if decide (N.2.2.err=B)=true then (B<=N.2.1/\N.2.1<(↑(List.length A.1):Int))/\if (!decide ((dM A.1 N.2.1).err=B))=true then C/\E/\F/\G/\H/\I/\J/\K/\L/\M/\O else C/\N.1=D.1/\O else if (!decide (N.2.2.err=B))=true then C/\E/\F/\G/\H/\I/\J/\K/\L/\M/\P else C/\N.1=D.1/\P:=by
 conv=>zeta
 have e0:iH s=qQ nc (fun l=>bB l 0) s:=rfl
 unfold qQ at e0
 simp only at e0
 refine a6 (fun h=>?_) (fun h=>?_)
 ·have h:¬(aU s).2.err=0:=by simpa using h
  rw [if_neg h] at e0
  rw [e0]
  exact Xr
 have h:(aU s).2.err=0:=by simpa using h
 rw [if_pos h] at e0
 have hN:=mq h
 obtain ⟨l1,l2⟩:=qP h
 refine ⟨hN,a6 (fun k=>?_) (fun k=>?_)⟩
 ·replace k:=Xo k
  rw [if_pos k] at e0
  refine ⟨ye hN l1 l2 k,a6 (fun j=>?_) (fun j=>?_)⟩
  ·have j:¬(dM (aU s).1 (bB (aU s).1 0).2.1).err=0:=by simpa using j
   rw [if_neg j] at e0
   rw [e0]
   exact Xr
  ·have j:(dM (aU s).1 (bB (aU s).1 0).2.1).err=0:=by simpa using j
   rw [if_pos j] at e0
   rw [e0]
   exact Xr
 ·have k:¬(bB (aU s).1 0).2.2.err=0:=fun e=>k (Xd e)
  rw [if_neg k] at e0
  refine a6 (fun _=>?_) (fun j=>absurd (by simp [k]) j)
  rw [e0]
  exact Xr
end Go.AL.Seat
end
