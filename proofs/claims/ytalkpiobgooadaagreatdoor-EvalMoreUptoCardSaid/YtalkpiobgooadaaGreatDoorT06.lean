/- What the functions' conditions say, proved. No condition. -/
import Derived.Test.YtalkpiobgooadaaGreatDoorT05
set_option linter.all false
set_option maxRecDepth 100000
section
open Go Go.AL Go.Pd
namespace Go.AL.Seat
theorem Fs(n:Nat)(t:Trm)(m:Int)(hs:Wf (.st .term) t)(hz:szT t<=n+1)(h0:0<=m)(h1:m<=1000000) :
  let A:=(1:Int);let B:=(0:Int);let C:=(↑(List.length t.parts):Int);let D:=t=t/\m=m/\B=B/\B=B/\t.parts=t.parts/\C=C/\t=t/\True;let E:=countT t m;let F:=dfl (Ty.st SN.term);(∃(x:Nat×Int×Int),(x.1<=List.length t.parts/\A<=x.2.1/\x.2.1<=m+A/\B<=x.2.2/\x.2.2+A<=x.2.1/\countL (List.drop x.1 t.parts) m x.2.1 x.2.2=countL t.parts m A B)/\A=x.2.1/\B=x.2.2/\B=(↑x.1:Int)/\D)/\∀(x:Nat×Int×Int),let G:=(↑x.1:Int);let H:=inR IntKind.i64 (x.2.2+A)/\True/\x.2.1=E.1/\x.2.2+A=E.2/\True;let I:=m-x.2.1;let J:=List.getD t.parts (Int.toNat G) F;let K:=countT J I;x.1<=List.length t.parts/\A<=x.2.1/\x.2.1<=m+A/\B<=x.2.2/\x.2.2+A<=x.2.1/\countL (List.drop x.1 t.parts) m x.2.1 x.2.2=countL t.parts m A B->if decide (G<C)=true then(B<=G/\G<C)/\if decide (m<x.2.1)=true then H else inR IntKind.i64 I/\(szT J<=n/\B<=m-x.2.1/\m-x.2.1<=(1000000:Int))/\inR IntKind.i64 (x.2.1+K.1)/\inR IntKind.i64 (G+A)/\∃(y:Nat×Int×Int),(y.1<=List.length t.parts/\A<=y.2.1/\y.2.1<=m+A/\B<=y.2.2/\y.2.2+A<=y.2.1/\countL (List.drop y.1 t.parts) m y.2.1 y.2.2=countL t.parts m A B)/\List.length t.parts-y.1<List.length t.parts-x.1/\x.2.1+K.1=y.2.1/\max x.2.2 K.2=y.2.2/\G+A=(↑y.1:Int)/\D else H:=by
 conv=>zeta
 have ln:=hs.term_parts.len;rw[EU];refine⟨⟨(0,1,0),⟨N2 _,by decide,by show(1:Int)<=m+1;omega,by decide,by decide,rfl⟩,rfl,rfl,rfl,?_⟩,?_⟩
 ·exact Xr
 rintro⟨k,a,d⟩ ⟨h1,h2,h3,h4,h5,h6⟩;simp only[Nh]at h1 h2 h3 h4 h5 h6⊢;apply aa<;>intro h
 ·replace h:=Xo h;have hk:k<t.parts.length:=by omega
  rw[az t.parts k (dfl (.st .term)) hk,countL]at h6;refine⟨by omega,aa (fun c=>?_) (fun c=>?_)⟩
  ·replace c:=Xo c;rw[MT c]at h6;rw[<-h6];refine⟨aD (by omega) (by omega),?_⟩;exact Xr
  ·replace c:¬m<a:=fun e=>c (Xd e);rw[MS c]at h6;have hm:=ml (bG t.parts k (dfl (.st .term)) hk);have he:=nA t;have hb:=countT_bound (t.parts.getD k (dfl (.st .term))) (m-a) (by omega);refine⟨aD (by omega) (by omega),⟨by omega,by omega,by omega⟩,aD (by omega) (by omega),ba hk ln,(k+1,_,_),⟨by show k+1<=_;omega,?_,?_,?_,?_,h6⟩,by show _-(k+1)<_;omega,rfl,rfl,by show _=((k+1:Nat):Int);omega,?_⟩
   ·show(1:Int)<=a+_;omega
   ·show a+_<=m+1;omega
   ·show(0:Int)<=max d _;omega
   ·show max d _+1<=a+_;omega
   exact Xr
 ·replace h:¬((k:Int)<(t.parts.length:Int)):=fun e=>h (Xd e);have e:k=t.parts.length:=by omega
  subst e;rw[Nj,countL]at h6;rw[<-h6];refine⟨aD (by omega) (by omega),?_⟩;exact Xr
theorem Cg (x:Str)  :
  True/\(!ay x)=!ay x/\True:=by
 exact⟨trivial,by trivial,trivial⟩
theorem Ch (l:List Str) (hl:Wf (.lst .str) l) :
  let A:=(0:Nat);let B:=(↑(List.length l):Int);let C:=l=l/\B=B/\True;(∃(x:Nat),(x<=List.length l/\aF ay (List.drop x l) x=aF ay l A)/\(0:Int)=(↑x:Int)/\C)/\∀(x:Nat),let D:=(↑x:Int);x<=List.length l/\aF ay (List.drop x l) x=aF ay l A->if decide (D<B)=true then((0:Int)<=D/\D<B)/\if(!ay (List.getD l (Int.toNat D) (dfl Ty.str)))=true then True/\D=aF ay l A/\True else inR IntKind.i64 (D+(1:Int))/\∃(y:Nat),(y<=List.length l/\aF ay (List.drop y l) y=aF ay l A)/\List.length l-y<List.length l-x/\D+(1:Int)=(↑y:Int)/\C else True/\(-1:Int)=aF ay l A/\True:=by
 conv=>zeta
 have ln:=hl.len;simp only[Nh];refine⟨⟨0,⟨N2 _,by simp⟩,rfl,by trivial,by trivial,trivial⟩,?_⟩;rintro k ⟨h1,h2⟩;apply aa<;>intro h
 ·replace h:=Xo h;have hk:k<l.length:=by omega
  rw[az l k (dfl .str) hk,aF]at h2;refine⟨by omega,aa (fun c=>?_) (fun c=>?_)⟩
  ·have c:ay (l.getD k (dfl .str))=false:=by simpa using c
   rw[c,MS Oc]at h2;rw[<-h2];exact Xr
  ·have c:ay (l.getD k (dfl .str))=true:=by simpa using c
   rw[MT c]at h2;refine⟨ba hk ln,k+1,⟨by omega,h2⟩,by omega,by omega,by trivial,by trivial,trivial⟩
 ·replace h:¬((k:Int)<(l.length:Int)):=fun e=>h (Xd e);have e:k=l.length:=by omega
  subst e;rw[Nj,aF]at h2;rw[<-h2];exact Xr
theorem Ci (l:List Str)  :
  True/\decide ((0:Int)<=aF ay l (0:Nat))=!List.all l ay/\True:=by
 exact⟨trivial,gN ay l 0,trivial⟩
theorem Im (l:List Str)  :
  True/\(!!List.all l ay)=List.all l ay/\True:=by
 exact⟨trivial,PJ _,trivial⟩
theorem Io(l:List Str)(ho:l.length *16<=140737488355328) :
  let A:=(List.mergeSort l fun(x y:Str)=>decide (x<=y));let B:=List.all l ay&&decide (List.Nodup l);List.length l*(16:Nat)<=(140737488355328:Nat)/\if List.all l ay=true then List.length A=List.length A/\True/\decide ((↑(List.length (Lib.compact A)):Int)=(↑(List.length l):Int))=B/\True else True/\false=B/\True:=by
 conv=>zeta
 have hc:=fM l;unfold eR at hc;refine⟨ho,aa (fun h=>?_) (fun h=>?_)⟩
 ·refine⟨by trivial,trivial,?_,trivial⟩;rw[h,NH,O1,<-hc];omega
 ·have h:l.all ay=false:=by simpa using h
  exact⟨trivial,by rw[h];rfl,trivial⟩
theorem Cj(n:Nat)(x:Shape) (ho:sz x<=n) :
  sz x<=n/\True/\(!allS aI x)=!allS aI x/\True:=by
 exact⟨ho,trivial,by trivial,trivial⟩
theorem Ck(n:Nat)(l:List Shape) (hl:Wf (.lst (.st .shape)) l)(ho:∀x∈l,sz x<=n) :
  let A:=allS aI;let B:=(0:Nat);let C:=(↑(List.length l):Int);let D:=l=l/\C=C/\True;let E:=dfl (Ty.st SN.shape);(∃(x:Nat),(x<=List.length l/\aF A (List.drop x l) x=aF A l B)/\(0:Int)=(↑x:Int)/\D)/\∀(x:Nat),let F:=(↑x:Int);let G:=List.getD l (Int.toNat F) E;x<=List.length l/\aF A (List.drop x l) x=aF A l B->if decide (F<C)=true then((0:Int)<=F/\F<C)/\sz G<=n/\if(!allS aI G)=true then True/\F=aF A l B/\True else inR IntKind.i64 (F+(1:Int))/\∃(y:Nat),(y<=List.length l/\aF A (List.drop y l) y=aF A l B)/\List.length l-y<List.length l-x/\F+(1:Int)=(↑y:Int)/\D else True/\(-1:Int)=aF A l B/\True:=by
 conv=>zeta
 have ln:=hl.len;simp only[Nh];refine⟨⟨0,⟨N2 _,by simp⟩,rfl,by trivial,by trivial,trivial⟩,?_⟩;rintro k ⟨h1,h2⟩;apply aa<;>intro h
 ·replace h:=Xo h;have hk:k<l.length:=by omega
  rw[az l k (dfl (.st .shape)) hk,aF]at h2;refine⟨by omega,ho _ (bG l k _ hk),aa (fun c=>?_) (fun c=>?_)⟩
  ·have c:(allS aI) (l.getD k (dfl (.st .shape)))=false:=by simpa using c
   rw[c,MS Oc]at h2;rw[<-h2];exact Xr
  ·have c:(allS aI) (l.getD k (dfl (.st .shape)))=true:=by simpa using c
   rw[MT c]at h2;refine⟨ba hk ln,k+1,⟨by omega,h2⟩,by omega,by omega,by trivial,by trivial,trivial⟩
 ·replace h:¬((k:Int)<(l.length:Int)):=fun e=>h (Xd e);have e:k=l.length:=by omega
  subst e;rw[Nj,aF]at h2;rw[<-h2];exact Xr
theorem Cl(n:Nat)(l:List Shape) (ho:∀x∈l,sz x<=n) :
  (∀(x:Shape),x∈l->sz x<=n)/\True/\decide ((0:Int)<=aF (allS aI) l (0:Nat))=!List.all l (allS aI)/\True:=by
 exact⟨ho,trivial,gN (allS aI) l 0,trivial⟩
theorem Ip(n:Nat)(l:List Shape) (ho:∀x∈l,sz x<=n) :
  (∀(x:Shape),x∈l->sz x<=n)/\True/\(!!List.all l (allS aI))=List.all l (allS aI)/\True:=by
 exact⟨ho,trivial,PJ _,trivial⟩
theorem Ko(n:Nat)(s:Shape)(ho:sz s<=n+1) :
  if(!decide (s.kind=(10:Int)))=true then(∀(x:Shape),x∈s.parts->sz x<=n)/\True/\List.all s.parts (allS aI)=allS aI s/\True else True/\false=allS aI s/\True:=by
 have e0:allS aI s=(aI s&&s.parts.all (allS aI)):=by rw[qK,sG]
 have h0:=uZ s;have hm:∀x∈s.parts,sz x<=n:=fun x hx=>by have:=ph hx;omega
 rw[e0];apply aa<;>intro h
 ·have h:aI s=true:=h;rw[h,NH];exact⟨hm,trivial,rfl,trivial⟩
 ·have h:aI s=false:=by simpa[aI]using h
  rw[h];exact Xr
theorem Ft(s:Shape)  :
  let A:=(decide (di s=(0:Int))&&allS aI s);if decide (di s=(0:Int))=true then sz s<=(400:Nat)/\True/\allS aI s=A/\True else True/\false=A/\True:=by
 conv=>zeta
 apply aa<;>intro h
 ·have h:di s=0:=by simpa using h
  refine⟨?_,trivial,by simp[h],trivial⟩;unfold di at h;by_cases c:400<sz s
  ·rw[MT c]at h;exact absurd h (by decide)
  ·omega
 ·have h:¬di s=0:=by simpa using h
  exact⟨trivial,by simp[h],trivial⟩
theorem LY(t:Trm)  :
  let A:=(↑(List.length t.names):Int);let B:=(↑(List.length t.vars):Int);let C:=(↑(List.length t.shapes):Int);let D:=(↑(List.length t.parts):Int);True/\A=A/\B=B/\C=C/\D=D/\True:=by
 conv=>zeta
 exact Xr
theorem Iq(s:Str)(hs:Wf .str s) :
  let A:=cw s;let B:=(↑(List.length A):Int);let C:=s=s/\cw s=cw s/\B=B/\True;let D:=dfl (Ty.int IntKind.u8);let E:=(1:Int);(∃(x:Nat),(x<=List.length s/\List.all s iB=List.all (List.drop x s) iB)/\(0:Int)=(↑x:Int)/\C)/\∀(x:Nat),let F:=(↑x:Int);let G:=Int.toNat F;let H:=inR IntKind.i64 (F+E)/\∃(y:Nat),(y<=List.length s/\List.all s iB=List.all (List.drop y s) iB)/\List.length s-y<List.length s-x/\F+E=(↑y:Int)/\C;x<=List.length s/\List.all s iB=List.all (List.drop x s) iB->if decide (F<B)=true then((0:Int)<=F/\F<B)/\if decide (List.getD A G D<(32:Int))=true then if(!decide (List.getD A G D=(10:Int)))=true then if(!decide (List.getD A G D=(9:Int)))=true then True/\false=sQ s/\True else H else H else H else True/\Option.isNone (sH s)=sQ s/\True:=by
 conv=>zeta
 have ln:=hs.str;have hbl:(cw s).length=s.length:=NT _;simp only[hbl,Nh];refine⟨⟨0,⟨N2 _,rfl⟩,?_⟩,?_⟩
 ·exact Xr
 rintro k ⟨h1,h2⟩;apply aa<;>intro h
 ·have hk:k<s.length:=by have:=Xo h;omega
  rw[az s k 0 hk,Ny]at h2;have hq:=F3 (s.getD k 0);simp only[yM s k hk]
  have yes:¬(bI (s.getD k 0)<32/\bI (s.getD k 0)≠10/\bI (s.getD k 0)≠9)->s.all iB=(s.drop (k+1)).all iB:=fun e=>by
   have:iB (s.getD k 0)=true:=by
    cases hh:iB (s.getD k 0)with|true=>rfl|false=>exact absurd (hq.1 hh) e
   rw[h2,this,NH]
  refine⟨⟨by omega,by omega⟩,?_⟩
  repeat' (apply aa<;>intro _)
  all_goals (simp only[MV,Nc,Ns]at *)
  all_goals first
   |(refine⟨trivial,?_,trivial⟩;unfold sQ;rw[h2,hq.2 (by omega),Nb,Nb])
   |(refine⟨ba hk ln,k+1,⟨by omega,yes (by omega)⟩,by omega,by omega,?_⟩;exact Xr)
 ·have hk:k=s.length:=by have:¬((k:Int)<(s.length:Int)):=fun e=>h (Xd e);omega
  refine⟨trivial,?_,trivial⟩;unfold sQ;rw[h2,hk,Nj];rfl
theorem zt (x:Shape)  :
  True/\(!(decide (di x=(0:Int))&&allS aI x))=!ct x/\True:=by
 exact⟨trivial,by trivial,trivial⟩
theorem zu (l:List Shape) (hl:Wf (.lst (.st .shape)) l) :
  let A:=(0:Nat);let B:=(↑(List.length l):Int);let C:=l=l/\B=B/\True;(∃(x:Nat),(x<=List.length l/\aF ct (List.drop x l) x=aF ct l A)/\(0:Int)=(↑x:Int)/\C)/\∀(x:Nat),let D:=(↑x:Int);x<=List.length l/\aF ct (List.drop x l) x=aF ct l A->if decide (D<B)=true then((0:Int)<=D/\D<B)/\if(!ct (List.getD l (Int.toNat D) (dfl (Ty.st SN.shape))))=true then True/\D=aF ct l A/\True else inR IntKind.i64 (D+(1:Int))/\∃(y:Nat),(y<=List.length l/\aF ct (List.drop y l) y=aF ct l A)/\List.length l-y<List.length l-x/\D+(1:Int)=(↑y:Int)/\C else True/\(-1:Int)=aF ct l A/\True:=by
 conv=>zeta
 have ln:=hl.len;simp only[Nh];refine⟨⟨0,⟨N2 _,by simp⟩,rfl,by trivial,by trivial,trivial⟩,?_⟩;rintro k ⟨h1,h2⟩;apply aa<;>intro h
 ·replace h:=Xo h;have hk:k<l.length:=by omega
  rw[az l k (dfl (.st .shape)) hk,aF]at h2;refine⟨by omega,aa (fun c=>?_) (fun c=>?_)⟩
  ·have c:ct (l.getD k (dfl (.st .shape)))=false:=by simpa using c
   rw[c,MS Oc]at h2;rw[<-h2];exact Xr
  ·have c:ct (l.getD k (dfl (.st .shape)))=true:=by simpa using c
   rw[MT c]at h2;refine⟨ba hk ln,k+1,⟨by omega,h2⟩,by omega,by omega,by trivial,by trivial,trivial⟩
 ·replace h:¬((k:Int)<(l.length:Int)):=fun e=>h (Xd e);have e:k=l.length:=by omega
  subst e;rw[Nj,aF]at h2;rw[<-h2];exact Xr
theorem zw (l:List Shape)  :
  True/\decide ((0:Int)<=aF ct l (0:Nat))=!List.all l ct/\True:=by
 exact⟨trivial,gN ct l 0,trivial⟩
theorem Fu (l:List Shape)  :
  True/\(!!List.all l ct)=List.all l ct/\True:=by
 exact⟨trivial,PJ _,trivial⟩
theorem Ir(t:Trm)(ht:Wf (.st .term) t)(ho:t.names.length<=8796093022208) :
  let A:=(0:Int);let B:=(↑(List.length t.names):Int);let C:=(↑(List.length t.vars):Int);let D:=(↑(List.length t.shapes):Int);let E:=(↑(List.length t.parts):Int);let F:=True;let G:=t=t/\false=false/\t=t/\B=B/\C=C/\D=D/\E=E/\F;let H:=true=!qh t/\G;let I:=(1:Int);let J:=(!List.all t.shapes ct)=!qh t/\G;let K:=if(!decide (t.pkg=[]))=true then if(!decide (t.kind=(5:Int)))=true then H else J else J;let L:=F/\false=aV t/\F;let M:=F/\(decide (B=A)&&(decide (C=A)&&(decide (D=A)&&(decide (E=A)&&true))))=aV t/\F;let N:=if decide (t.name=[])=true then M else L;let O:=List.length t.names*(16:Nat)<=(140737488355328:Nat);let P:=decide (E=I)&&true;let Q:=decide (E=E)&&true;let R:=F/\(decide (B=A)&&(decide (C=A)&&(decide (D=A)&&P)))=aV t/\F;let S:=if ay t.name=true then R else L;let T:=inR IntKind.i64 (B+I);let U:=if dh t.name=true then R else L;(if decide (t.pos<A)=true then H else if(!decide (t.n=A))=true then if(!decide (t.kind=I))=true then H else K else K)/\if(!qh t)=true then L else if decide (t.kind=I)=true then if decide (t.name=[])=true then if decide (A<=t.n)=true then if decide (t.n<=(999999999999999:Int))=true then M else L else L else L else if decide (t.kind=(2:Int))=true then if sQ t.name=true then M else L else if decide (t.kind=(3:Int))=true then N else if decide (t.kind=(4:Int))=true then N else if decide (t.kind=(5:Int))=true then if ay t.name=true then if decide (t.pkg=[])=true then M else if ay t.pkg=true then M else L else L else if decide (t.kind=(6:Int))=true then if decide (t.name=[])=true then if decide (B<=(4096:Int))=true then O/\if(List.all t.names ay&&decide (List.Nodup t.names))=true then F/\(decide (B=B)&&(decide (C=A)&&(decide (D=B)&&P)))=aV t/\F else L else L else L else if decide (t.kind=(7:Int))=true then if decide (t.name=[])=true then if decide (A<E)=true then F/\(decide (B=A)&&(decide (C=A)&&(decide (D=A)&&Q)))=aV t/\F else L else L else if decide (t.kind=(8:Int))=true then if decide (t.name=[])=true then O/\if(List.all t.names ay&&decide (List.Nodup t.names))=true then F/\(decide (B=B)&&(decide (C=A)&&(decide (D=A)&&(decide (E=B)&&true))))=aV t/\F else L else L else if decide (t.kind=(9:Int))=true then S else if decide (t.kind=(10:Int))=true then S else if decide (t.kind=(11:Int))=true then if decide (t.name=[])=true then F/\(decide (B=A)&&(decide (C=A)&&(decide (D=I)&&Q)))=aV t/\F else L else if decide (t.kind=(12:Int))=true then if decide (t.name=[])=true then F/\(decide (B=A)&&(decide (C=A)&&(decide (D=I)&&(decide (E=(3:Int))&&true))))=aV t/\F else L else if decide (t.kind=(13:Int))=true then if decide (t.name=[])=true then O/\if(List.all t.names ay&&decide (List.Nodup t.names))=true then if List.all t.vars ay=true then T/\T/\F/\(decide (B=B)&&(decide (C=B)&&(decide (D=B+I)&&(decide (E=B+I)&&true))))=aV t/\F else L else L else L else if decide (t.kind=(14:Int))=true then if ay t.name=true then F/\(decide (B=A)&&(decide (C=A)&&(decide (D=A)&&(decide (E=(2:Int))&&true))))=aV t/\F else L else if decide (t.kind=(15:Int))=true then if decide (t.name=[])=true then F/\(decide (B=A)&&(decide (C=A)&&(decide (D=I)&&P)))=aV t/\F else L else if decide (t.kind=(16:Int))=true then U else if decide (t.kind=(17:Int))=true then U else L:=by
 conv=>zeta
 refine⟨?_,aa (fun h=>?_) (fun h=>?_)⟩
 ·unfold qh
  repeat' (apply aa<;>intro _)
  all_goals simp_all
 ·have h:qh t=false:=by simpa using h
  unfold aV;rw[h];exact Xr
 have h:qh t=true:=by simpa using h
 have e0:aV t=vd t:=by unfold aV;rw[h,NH]
 rw[e0];clear h e0;unfold vd fS j8;simp only[dnZ,dn1,dn2,dn3,dnN,dnS,dnL,dnP];generalize t.names.all ay=na;generalize t.vars.all ay=va
 repeat' (first|apply aa<;>intro _|refine⟨by omega,?_⟩|refine⟨aD (by omega) (by omega),?_⟩|fail)
 all_goals (refine⟨trivial,?_,trivial⟩;try simp_all)
 all_goals first|(simp only[Bool.and_assoc];done)|(intros;omega)
theorem zx(n:Nat)(x:Trm) (ho:szT x<=n/\bR x=true) :
  (szT x<=n/\bR x=true)/\True/\(!allT aV x)=!allT aV x/\True:=by
 exact⟨ho,trivial,by trivial,trivial⟩
theorem zy(n:Nat)(l:List Trm) (hl:Wf (.lst (.st .term)) l)(ho:∀x∈l,szT x<=n/\bR x=true) :
  let A:=allT aV;let B:=(0:Nat);let C:=(↑(List.length l):Int);let D:=l=l/\C=C/\True;let E:=dfl (Ty.st SN.term);(∃(x:Nat),(x<=List.length l/\aF A (List.drop x l) x=aF A l B)/\(0:Int)=(↑x:Int)/\D)/\∀(x:Nat),let F:=(↑x:Int);let G:=List.getD l (Int.toNat F) E;x<=List.length l/\aF A (List.drop x l) x=aF A l B->if decide (F<C)=true then((0:Int)<=F/\F<C)/\(szT G<=n/\bR G=true)/\if(!allT aV G)=true then True/\F=aF A l B/\True else inR IntKind.i64 (F+(1:Int))/\∃(y:Nat),(y<=List.length l/\aF A (List.drop y l) y=aF A l B)/\List.length l-y<List.length l-x/\F+(1:Int)=(↑y:Int)/\D else True/\(-1:Int)=aF A l B/\True:=by
 conv=>zeta
 have ln:=hl.len;simp only[Nh];refine⟨⟨0,⟨N2 _,by simp⟩,rfl,by trivial,by trivial,trivial⟩,?_⟩;rintro k ⟨h1,h2⟩;apply aa<;>intro h
 ·replace h:=Xo h;have hk:k<l.length:=by omega
  rw[az l k (dfl (.st .term)) hk,aF]at h2;refine⟨by omega,ho _ (bG l k _ hk),aa (fun c=>?_) (fun c=>?_)⟩
  ·have c:(allT aV) (l.getD k (dfl (.st .term)))=false:=by simpa using c
   rw[c,MS Oc]at h2;rw[<-h2];exact Xr
  ·have c:(allT aV) (l.getD k (dfl (.st .term)))=true:=by simpa using c
   rw[MT c]at h2;refine⟨ba hk ln,k+1,⟨by omega,h2⟩,by omega,by omega,by trivial,by trivial,trivial⟩
 ·replace h:¬((k:Int)<(l.length:Int)):=fun e=>h (Xd e);have e:k=l.length:=by omega
  subst e;rw[Nj,aF]at h2;rw[<-h2];exact Xr
theorem zA(n:Nat)(l:List Trm) (ho:∀x∈l,szT x<=n/\bR x=true) :
  (∀(x:Trm),x∈l->szT x<=n/\bR x=true)/\True/\decide ((0:Int)<=aF (allT aV) l (0:Nat))=!List.all l (allT aV)/\True:=by
 exact⟨ho,trivial,gN (allT aV) l 0,trivial⟩
theorem Fv(n:Nat)(l:List Trm) (ho:∀x∈l,szT x<=n/\bR x=true) :
  (∀(x:Trm),x∈l->szT x<=n/\bR x=true)/\True/\(!!List.all l (allT aV))=List.all l (allT aV)/\True:=by
 exact⟨ho,trivial,PJ _,trivial⟩
theorem Fw(n:Nat)(t:Trm)(ho:szT t<=n+1/\bR t=true) :
  List.length t.names<=(8796093022208:Nat)/\if aV t=true then(∀(x:Trm),x∈t.parts->szT x<=n/\bR x=true)/\True/\List.all t.parts (allT aV)=allT aV t/\True else True/\false=allT aV t/\True:=by
 obtain⟨h1,h2⟩:=ho;have e0:allT aV t=(aV t&&t.parts.all (allT aV)):=by rw[allT_eq,allTL_all]
 have h0:=nA t;rw[e0];refine⟨BM h2,aa (fun h=>?_) (fun h=>?_)⟩
 ·rw[h,NH];exact⟨fun x hx=>⟨by have:=ml hx;omega,F2 h2 hx⟩,trivial,rfl,trivial⟩
 ·have h:aV t=false:=by simpa using h
  rw[h];exact Xr
theorem Fx(x:Trm)(ho:bR x=true) :
  let A:=szT x<=szT x;let B:=(4096:Int);let C:=True;(A/\(0:Int)<=B/\B<=(1000000:Int))/\if decide (B<(countT x B).1)=true then C/\(3:Int)=cY x/\C else if decide ((40:Int)<(countT x B).2)=true then C/\(91:Int)=cY x/\C else(A/\bR x=true)/\if(!allT aV x)=true then C/\(80:Int)=cY x/\C else C/\(0:Int)=cY x/\C:=by
 conv=>zeta
 refine⟨⟨N8 _,by omega,by omega⟩,aa (fun h=>?_) (fun h=>?_)⟩
 ·replace h:=Xo h;unfold cY;rw[MT h];exact Xr
 have h:¬_:=fun e=>h (Xd e);have e1:cY x=if 40<(countT x 4096).2 then 91 else if allT aV x=true then 0 else 80:=by unfold cY;rw[MS h]
 apply aa<;>intro k
 ·rw[MT (Xo k)]at e1;rw[e1];exact Xr
 rw[MS (fun e=>k (Xd e))]at e1;refine⟨⟨N8 _,ho⟩,aa (fun j=>?_) (fun j=>?_)⟩
 ·have j:allT aV x=false:=by simpa using j
  rw[j,MS Oc]at e1;rw[e1];exact Xr
 ·have j:allT aV x=true:=by simpa using j
  rw[MT j]at e1;rw[e1];exact Xr
theorem Is(n:Nat)(s:Trm)(m:Int)(hs:Wf (.st .term) s)(ho:szT s<=n+1/\0<=m/\m<=1000000) :
  let A:=(1:Int);let B:=(0:Int);let C:=s=s/\m=m/\B=B/\s=s/\True;let D:=(↑(List.length s.parts):Int);let E:=dfl (Ty.st SN.term);(∃(x:Nat×Int),(x.1<=List.length s.parts/\A<=x.2/\x.2<=m+A/\sizeTL (List.drop x.1 s.parts) x.2 m=dI s m)/\A=x.2/\B=(↑x.1:Int)/\C)/\∀(x:Nat×Int),let F:=(↑x.1:Int);let G:=m-x.2;let H:=List.getD s.parts (Int.toNat F) E;let I:=True/\x.2=dI s m/\True;x.1<=List.length s.parts/\A<=x.2/\x.2<=m+A/\sizeTL (List.drop x.1 s.parts) x.2 m=dI s m->if decide (F<D)=true then if decide (x.2<=m)=true then(B<=F/\F<D)/\inR IntKind.i64 G/\(szT H<=n/\B<=m-x.2/\m-x.2<=(1000000:Int))/\inR IntKind.i64 (x.2+dI H G)/\inR IntKind.i64 (F+A)/\∃(y:Nat×Int),(y.1<=List.length s.parts/\A<=y.2/\y.2<=m+A/\sizeTL (List.drop y.1 s.parts) y.2 m=dI s m)/\List.length s.parts-y.1<List.length s.parts-x.1/\x.2+dI H G=y.2/\F+A=(↑y.1:Int)/\C else I else I:=by
 conv=>zeta
 have ln:=hs.term_parts.len;have hz:=nA s;obtain⟨ho1,ho2,ho3⟩:=ho;have h0:sizeTL s.parts 1 m=dI s m:=by cases s;rw[dI]
 simp only[Nh,PI,O9,NP];refine⟨⟨(0,1),⟨N2 _,by omega,by omega,h0⟩,rfl,rfl⟩,?_⟩;rintro⟨k,c⟩ ⟨h1,h2,h3,h4⟩;simp only at h1 h2 h3 h4⊢;apply aa<;>intro hk
 ·replace hk:=Xo hk;have hk:k<s.parts.length:=by omega
  have hm:=ml (bG s.parts k (dfl (.st .term)) hk);rw[az s.parts k (dfl (.st .term)) hk]at h4;simp only[sizeTL]at h4;apply aa<;>intro hc
  ·replace hc:=Xo hc;rw[MT hc]at h4;have hb:=sizeT_bd (s.parts.getD k (dfl (.st .term))) (m-c) (by omega);exact⟨by omega,aD (by omega) (by omega),by omega,aD (by omega) (by omega),ba hk ln,(k+1,_),⟨by omega,by simp only;omega,by simp only;omega,h4⟩,by simp only;omega,rfl,rfl⟩
  ·rw[MS (fun e=>hc (Xd e))]at h4;exact h4
 ·replace hk:¬((k:Int)<(s.parts.length:Int)):=fun e=>hk (Xd e);have e:k=s.parts.length:=by omega
  subst e;rw[Nj]at h4;simp only[sizeTL]at h4;exact h4
theorem Cm(s:Str)  :
  if(!decide (s=[]))=true then([48,49,50,51,52,53,54,55,56,57]:Str)=qq/\True/\decide (mP s=[])=bZ s/\True else True/\false=bZ s/\True:=by
 have e:∀l:Str,(l.all mO)=l.all fun c=>gQ (bI c):=fun _=>rfl;apply aa<;>intro h
 ·refine⟨rfl,trivial,?_,trivial⟩;unfold bZ;rw[h,NH,<-e];exact Bool.eq_iff_iff.2 (decide_eq_true_iff.trans (EV s))
 ·refine⟨trivial,?_,trivial⟩;unfold bZ;rw[PO]at h;rw[h,Nb]
theorem It(s:Str)(hs:Wf .str s) :
  let A:=True/\false=fR s/\True;let B:=(0:Int);let C:=(↑(List.length s):Int);let D:=(0:UInt8);let E:=(List.all s fun(c:UInt8)=>iM (bI c));let F:=s=s/\false=false/\C=C/\True;let G:=(1:Int);let H:=(65:Int);let I:=(90:Int);let J:=(45:Int);let K:=(∃(x:Nat),(x<=List.length s/\E=List.all (List.drop x s) fun(c:UInt8)=>iM (bI c))/\B=(↑x:Int)/\F)/\∀(x:Nat),let L:=(↑x:Int);let M:=(↑(UInt8.toNat (List.getD s (Int.toNat L) D)):Int);let N:=inR IntKind.i64 (L+G)/\∃(y:Nat),(y<=List.length s/\E=List.all (List.drop y s) fun(c:UInt8)=>iM (bI c))/\List.length s-y<List.length s-x/\L+G=(↑y:Int)/\F;let O:=if(!decide (M=J))=true then A else N;let P:=if decide (H<=M)=true then if decide (M<=I)=true then N else O else O;let Q:=if decide ((97:Int)<=M)=true then if decide (M<=(122:Int))=true then N else P else P;(x<=List.length s/\E=List.all (List.drop x s) fun(c:UInt8)=>iM (bI c))->if decide (L<C)=true then(B<=L/\L<C)/\if decide ((48:Int)<=M)=true then if decide (M<=(57:Int))=true then N else Q else Q else True/\true=fR s/\True;if decide (s=[])=true then A else if bZ s=true then(B<=B/\B<C)/\if decide ((↑(UInt8.toNat (List.getD s (Int.toNat B) D)):Int)=(48:Int))=true then if(!decide (s=([48]:Str)))=true then A else K else K else K:=by
 conv=>zeta
 apply aa<;>intro h
 ·replace h:=Xo h;subst h;exact Xr
 have hne:s≠[]:=fun e=>h (Xd e);have hpos:=Oo.2 hne;apply aa<;>intro h1
 ·refine⟨⟨by omega,by omega⟩,aa (fun h2=>?_) (fun h2=>?_)⟩
  ·apply aa<;>intro h3
   ·refine⟨trivial,?_,trivial⟩;have e:decide (bI (s.getD 0 0)=48)=true:=h2;unfold fR;rw[h1,e,h3];simp
   ·have hz:(bZ s&&decide (bI (s.getD 0 0)=48)&&!decide (s=[48]))=false:=by rw[PO]at h3;rw[h3,NM]
    refine⟨⟨0,⟨N2 _,rfl⟩,rfl,rfl,rfl,rfl,trivial⟩,?_⟩;rintro k ⟨h1,h2⟩;simp only[Nh];apply aa<;>intro h
    ·have hk:k<s.length:=by have:=Xo h;omega
     rw[az s k 0 hk,Ny]at h2;have eb:((s.getD k 0).toNat:Int)=bI (s.getD k 0):=rfl;refine⟨⟨by omega,by omega⟩,?_⟩;simp only[eb];have hp:=sI (bI (s.getD k 0));have yes:iM (bI (s.getD k 0))=true->(s.all fun c=>iM (bI c))=(s.drop (k+1)).all fun c=>iM (bI c):=fun e=>by rw[h2,e,NH]
     have no:¬iM (bI (s.getD k 0))=true->false=fR s:=fun e=>by rw[jo hne hz,h2,Og.2 e,Nb]
     generalize bI (s.getD k 0)=c at hp yes no⊢
     repeat' (apply aa<;>intro _)
     all_goals (simp only[MV,Nc,Ns]at *)
     all_goals first
      |exact⟨trivial,no (fun e=>by have:=hp.1 e;omega),trivial⟩
      |exact⟨ba hk hs.str,k+1,⟨by omega,yes (hp.2 (by omega))⟩,by omega,by omega,(by first|rfl|trivial),(by first|rfl|trivial),(by first|rfl|trivial),trivial⟩
    ·have hk:k=s.length:=by have:¬((k:Int)<(s.length:Int)):=fun e=>h (Xd e);omega
     refine⟨trivial,?_,trivial⟩;rw[jo hne hz,h2,hk,Nj];rfl
  ·have hz:(bZ s&&decide (bI (s.getD 0 0)=48)&&!decide (s=[48]))=false:=by
    have e:decide (bI (s.getD 0 0)=48)=false:=by rw[PO]at h2;exact h2
    rw[e,NM,Nb]
   refine⟨⟨0,⟨N2 _,rfl⟩,rfl,rfl,rfl,rfl,trivial⟩,?_⟩;rintro k ⟨h1,h2⟩;simp only[Nh];apply aa<;>intro h
   ·have hk:k<s.length:=by have:=Xo h;omega
    rw[az s k 0 hk,Ny]at h2;have eb:((s.getD k 0).toNat:Int)=bI (s.getD k 0):=rfl;refine⟨⟨by omega,by omega⟩,?_⟩;simp only[eb];have hp:=sI (bI (s.getD k 0));have yes:iM (bI (s.getD k 0))=true->(s.all fun c=>iM (bI c))=(s.drop (k+1)).all fun c=>iM (bI c):=fun e=>by rw[h2,e,NH]
    have no:¬iM (bI (s.getD k 0))=true->false=fR s:=fun e=>by rw[jo hne hz,h2,Og.2 e,Nb]
    generalize bI (s.getD k 0)=c at hp yes no⊢
    repeat' (apply aa<;>intro _)
    all_goals (simp only[MV,Nc,Ns]at *)
    all_goals first
     |exact⟨trivial,no (fun e=>by have:=hp.1 e;omega),trivial⟩
     |exact⟨ba hk hs.str,k+1,⟨by omega,yes (hp.2 (by omega))⟩,by omega,by omega,(by first|rfl|trivial),(by first|rfl|trivial),(by first|rfl|trivial),trivial⟩
   ·have hk:k=s.length:=by have:¬((k:Int)<(s.length:Int)):=fun e=>h (Xd e);omega
    refine⟨trivial,?_,trivial⟩;rw[jo hne hz,h2,hk,Nj];rfl
 ·have hz:(bZ s&&decide (bI (s.getD 0 0)=48)&&!decide (s=[48]))=false:=by rw[PO]at h1;rw[h1,Nb,Nb]
  refine⟨⟨0,⟨N2 _,rfl⟩,rfl,rfl,rfl,rfl,trivial⟩,?_⟩;rintro k ⟨h1,h2⟩;simp only[Nh];apply aa<;>intro h
  ·have hk:k<s.length:=by have:=Xo h;omega
   rw[az s k 0 hk,Ny]at h2;have eb:((s.getD k 0).toNat:Int)=bI (s.getD k 0):=rfl;refine⟨⟨by omega,by omega⟩,?_⟩;simp only[eb];have hp:=sI (bI (s.getD k 0));have yes:iM (bI (s.getD k 0))=true->(s.all fun c=>iM (bI c))=(s.drop (k+1)).all fun c=>iM (bI c):=fun e=>by rw[h2,e,NH]
   have no:¬iM (bI (s.getD k 0))=true->false=fR s:=fun e=>by rw[jo hne hz,h2,Og.2 e,Nb]
   generalize bI (s.getD k 0)=c at hp yes no⊢
   repeat' (apply aa<;>intro _)
   all_goals (simp only[MV,Nc,Ns]at *)
   all_goals first
    |exact⟨trivial,no (fun e=>by have:=hp.1 e;omega),trivial⟩
    |exact⟨ba hk hs.str,k+1,⟨by omega,yes (hp.2 (by omega))⟩,by omega,by omega,(by first|rfl|trivial),(by first|rfl|trivial),(by first|rfl|trivial),trivial⟩
  ·have hk:k=s.length:=by have:¬((k:Int)<(s.length:Int)):=fun e=>h (Xd e);omega
   refine⟨trivial,?_,trivial⟩;rw[jo hne hz,h2,hk,Nj];rfl
theorem Fy(v:Vers)(hv:Wf (.st .version) v) :
  let A:=(3:Nat);let B:=[v.major,v.minor,v.patch];let C:=(0:Int);let D:=(↑(List.length B):Int);let E:=v=v/\List.length B=List.length B/\True;let F:=v=v/\B=B/\D=D/\E;let G:=dfl (Ty.int IntKind.i64);let H:=True/\(40:Int)=dx v/\True;let I:=(1:Int);let J:=(46:UInt8);let K:=splitB J v.pre;let L:=(↑(List.length K):Int);let M:=v=v/\B=B/\D=D/\false=false/\false=false/\true=true/\splitB J v.pre=splitB J v.pre/\L=L/\E;let N:=True/\C=dx v/\True;(∃(x:Nat),(x<=A/\List.all (List.take x B) qt=true)/\C=(↑x:Int)/\F)/\∀(x:Nat),let O:=(↑x:Int);x<=A/\List.all (List.take x B) qt=true->if decide (O<D)=true then(C<=O/\O<D)/\if decide (List.getD B (Int.toNat O) G<C)=true then H else if decide ((999999:Int)<List.getD B (Int.toNat O) G)=true then H else inR IntKind.i64 (O+I)/\∃(y:Nat),(y<=A/\List.all (List.take y B) qt=true)/\A-y<A-x/\O+I=(↑y:Int)/\F else if decide ((24:Int)<(↑(List.length v.pre):Int))=true then H else if(!decide (v.pre=[]))=true then(([46]:Str)=([46]:Str)/\List.length v.pre<(4294967281:Nat))/\(∃(x_1:Nat),(x_1<=List.length K/\List.all (List.take x_1 K) fR=true)/\C=(↑x_1:Int)/\O=O/\M)/\∀(x_1:Nat),let P:=(↑x_1:Int);x_1<=List.length K/\List.all (List.take x_1 K) fR=true->if decide (P<L)=true then(C<=P/\P<L)/\if(!fR (List.getD K (Int.toNat P) (dfl Ty.str)))=true then H else inR IntKind.i64 (P+I)/\∃(y:Nat),(y<=List.length K/\List.all (List.take y K) fR=true)/\List.length K-y<List.length K-x_1/\P+I=(↑y:Int)/\O=O/\M else N else N:=by
 conv=>zeta
 have bad:∀k:Nat,k<3->qt ([v.major,v.minor,v.patch].getD k (dfl (.int .i64)))=false->True/\(40:Int)=dx v/\True:=fun k hk e=>
  ⟨trivial,(BJ (yB (l:=[v.major,v.minor,v.patch]) (dfl (.int .i64)) hk e)).symm,trivial⟩
 refine⟨⟨0,⟨by omega,rfl⟩,?_⟩,?_⟩
 ·exact Xr
 rintro k ⟨h1,h2⟩;have l3:[v.major,v.minor,v.patch].length=3:=rfl;simp only[Nh,l3];apply aa<;>intro h
 ·have hk:k<3:=by have:=Xo h;omega
  have bk:=bad k hk;have gk:=mS (l:=[v.major,v.minor,v.patch]) (dfl (.int .i64)) hk h2;refine⟨⟨by omega,by omega⟩,?_⟩;refine aa (fun a=>bk ?_) (fun a=>aa (fun b=>bk ?_) (fun b=>?_))
  ·have:=Xo a;have e:¬0<=[v.major,v.minor,v.patch].getD k (dfl (.int .i64)):=by omega
   unfold qt;rw[Xf e,Nb]
  ·have:=Xo b;have e:¬[v.major,v.minor,v.patch].getD k (dfl (.int .i64))<=999999:=by omega
   unfold qt;rw[Xf e,NM]
  ·have a:¬[v.major,v.minor,v.patch].getD k (dfl (.int .i64))<0:=fun e=>a (Xd e);have b:¬999999<[v.major,v.minor,v.patch].getD k (dfl (.int .i64)):=fun e=>b (Xd e);have a':0<=[v.major,v.minor,v.patch].getD k (dfl (.int .i64)):=by omega
   have b':[v.major,v.minor,v.patch].getD k (dfl (.int .i64))<=999999:=by omega
   refine⟨aD (by omega) (by omega),k+1,⟨by omega,gk ?_⟩,by omega,by omega,?_⟩
   ·unfold qt;rw[Xd a',Xd b'];rfl
   ·exact Xr
 ·have hk:k=3:=by have:¬((k:Int)<((3:Nat):Int)):=fun e=>h (Xd e);omega
  subst hk;have hg:=yC h2;apply aa<;>intro a
  ·have:=Xo a;rw[MT (by omega)]at hg;rw[hg];exact Xr
  have a:¬(24:Int)<(v.pre.length:Int):=fun e=>a (Xd e);have hl:=eU 46 v.pre;rw[MS (by omega)]at hg;apply aa<;>intro b
  ·have b:¬v.pre=[]:=by simpa using b
   rw[MS b]at hg;refine⟨⟨(by first|rfl|trivial),by omega⟩,⟨0,⟨by omega,rfl⟩,?_⟩,?_⟩
   ·exact Xr
   rintro j ⟨j1,j2⟩;apply aa<;>intro c
   ·have hj:j<(splitB 46 v.pre).length:=by have:=Xo c;omega
    refine⟨⟨by omega,by omega⟩,aa (fun d=>?_) (fun d=>?_)⟩
    ·have d:fR ((splitB 46 v.pre).getD j (dfl .str))=false:=by simpa using d
     rw[yB (dfl .str) hj d,MS Oc]at hg;rw[hg];exact Xr
    ·have d:fR ((splitB 46 v.pre).getD j (dfl .str))=true:=by simpa using d
     refine⟨aD (by omega) (by omega),j+1,⟨by omega,mS (dfl .str) hj j2 d⟩,by omega,by omega,?_⟩;exact Xr
   ·have hj:(splitB 46 v.pre).length<=j:=by have:¬((j:Int)<((splitB 46 v.pre).length:Int)):=fun e=>c (Xd e);omega
    rw[Hk hj]at j2;rw[MT j2]at hg;rw[hg];exact Xr
  ·have b:v.pre=[]:=by simpa using b
   rw[MT b]at hg;rw[hg];exact Xr
theorem Fz(s:Str)(c:Int)(hs:Wf .str s)(ho:c=48) :
  let A:=c=c/\oc UInt8=oc UInt8/\True;let B:=(0:Int);let C:=(1:Int);(∃(x:Nat),(x<=List.length s/\cG s=cG (List.drop x s))/\s=List.drop x s/\A)/\∀(x:Nat),let D:=List.drop x s;let E:=(↑(List.length D):Int);let F:=True/\List.drop x s=cG s/\True;x<=List.length s/\cG s=cG D->if decide (B<E)=true then(B<=B/\B<E)/\if decide ((↑(UInt8.toNat (List.getD D (Int.toNat B) (0:UInt8))):Int)=c)=true then(B<=C/\C<=E/\E<=E)/\∃(y:Nat),(y<=List.length s/\cG s=cG (List.drop y s))/\List.length s-y<List.length s-x/\List.drop (Int.toNat C) (List.take (Int.toNat E) D)=List.drop y s/\A else F else F:=by
 conv=>zeta
 subst ho;simp only[Nh];refine⟨⟨0,⟨N2 _,rfl⟩,(by repeat' (first|exact trivial|rfl|apply And.intro))⟩,?_⟩;rintro k ⟨h1,h2⟩;apply aa<;>intro h
 ·have h:=Xo h;rw[P8]at h;have hk:k<s.length:=by omega
  have hd:=az s k 0 hk;simp only[hd]at h2⊢;refine⟨⟨by omega,by simp only[Ni];omega⟩,aa (fun c=>?_) (fun c=>?_)⟩
  ·have c:((s.getD k 0).toNat:Int)=48:=Xo c;have c:s.getD k 0=48:=UInt8.toNat_inj.1 (by show _=48;omega);rw[BO c]at h2;refine⟨⟨by omega,by simp only[Ni];omega,NA _⟩,k+1,⟨by omega,h2⟩,by omega,?_,(by repeat' (first|exact trivial|rfl|apply And.intro))⟩;rw[Ob];rfl
  ·have c:¬((s.getD k 0).toNat:Int)=48:=fun e=>c (Xd e);have c:¬s.getD k 0=48:=fun e=>c (by rw[e];rfl);rw[BP c]at h2;exact⟨trivial,h2.symm,trivial⟩
 ·have e:s.drop k=[]:=by have:¬(0:Int)<((s.drop k).length:Int):=fun e=>h (Xd e);exact N5 (by omega)
  rw[e]at h2⊢;exact⟨trivial,h2.symm,trivial⟩
theorem zB(s t:Str)(ho:t=[48]) :
  let A:=True/\s=cG s/\True;let B:=(↑(List.length t):Int);let C:=(0:Int);let D:=C<=C/\C<B;let E:=(↑(UInt8.toNat (List.getD t (Int.toNat C) (0:UInt8))):Int);if decide (s=[])=true then A else if decide (t=[])=true then A else if decide (B=(1:Int))=true then D/\if decide (E<(128:Int))=true then D/\E=(48:Int)/\True/\cG s=cG s/\True else False else False:=by
 conv=>zeta
 subst ho;refine aa (fun h=>?_) (fun _=>aa (fun h=>absurd h (by decide)) (fun _=>aa (fun _=>⟨by decide,aa (fun _=>⟨by decide,by decide,trivial,(by repeat' (first|exact trivial|rfl|apply And.intro))⟩) (fun h=>absurd (by decide) h)⟩) (fun h=>absurd (by decide) h)));rw[Xo h];exact⟨trivial,(by repeat' (first|exact trivial|rfl|apply And.intro))⟩
theorem Kp(a:Int)  :
  True/\(!decide (a=a))=false/\True:=by
 exact⟨trivial,by simp,trivial⟩
theorem FA(a b:Int)  :
  let A:=True;if decide (a<b)=true then A/\(-1:Int)=dW a b/\A else if decide (b<a)=true then A/\(1:Int)=dW a b/\A else A/\(0:Int)=dW a b/\A:=by
 conv=>zeta
 unfold dW;refine aa (fun h=>?_) (fun h=>aa (fun k=>?_) (fun k=>?_))
 ·exact⟨trivial,(MT (Xo h)).symm,trivial⟩
 ·have h:¬a<b:=fun e=>h (Xd e);exact⟨trivial,by rw[MS h,MT (Xo k)],trivial⟩
 ·have h:¬a<b:=fun e=>h (Xd e);have k:¬b<a:=fun e=>k (Xd e);exact⟨trivial,by rw[MS h,MS k],trivial⟩
theorem LZ(l:List Int)(hl:Wf (.lst (.int .i64)) l) :
  let A:=(0:Int);let B:=(↑(List.length l):Int);let C:=l=l/\A=A/\l=l/\B=B/\True;let D:=dfl (Ty.int IntKind.i64);(∃(x:Nat),(x<=List.length l/\orI l=orI (List.drop x l))/\A=(↑x:Int)/\C)/\∀(x:Nat),let E:=(↑x:Int);x<=List.length l/\orI l=orI (List.drop x l)->if decide (E<B)=true then(A<=E/\E<B)/\if(!decide (List.getD l (Int.toNat E) D=A))=true then True/\List.getD l (Int.toNat E) D=orI l/\True else inR IntKind.i64 (E+(1:Int))/\∃(y:Nat),(y<=List.length l/\orI l=orI (List.drop y l))/\List.length l-y<List.length l-x/\E+(1:Int)=(↑y:Int)/\C else True/\A=orI l/\True:=by
 conv=>zeta
 have ln:=hl.len;simp only[Nh];refine⟨⟨0,⟨N2 _,rfl⟩,(by repeat' (first|exact trivial|rfl|apply And.intro))⟩,?_⟩;rintro k ⟨h1,h2⟩;apply aa<;>intro h
 ·have h:=Xo h;have hk:k<l.length:=by omega
  rw[az l k (dfl (.int .i64)) hk,orI]at h2;refine⟨by omega,aa (fun c=>?_) (fun c=>?_)⟩
  ·have c:¬l.getD k (dfl (.int .i64))=0:=by simpa using c
   rw[MS c]at h2;exact⟨trivial,h2.symm,trivial⟩
  ·have c:l.getD k (dfl (.int .i64))=0:=by simpa using c
   rw[MT c]at h2;exact⟨ba hk ln,k+1,⟨by omega,h2⟩,by omega,by omega,(by repeat' (first|exact trivial|rfl|apply And.intro))⟩
 ·have e:k=l.length:=by have:¬((k:Int)<(l.length:Int)):=fun e=>h (Xd e);omega
  subst e;rw[Nj]at h2;exact⟨trivial,h2.symm,trivial⟩
theorem Cn(a b:Str)  :
  let A:=([48]:Str)=([48]:Str);A/\A/\True/\orI [dW (↑(List.length (cG a)):Int) (↑(List.length (cG b)):Int),ki (cG a) (cG b)]=F4 a b/\True:=by
 conv=>zeta
 refine⟨rfl,rfl,trivial,?_,trivial⟩;unfold F4;simp only[orI];by_cases h:ki (cG a) (cG b)=0<;>simp[h]
theorem FC(a b:Str)  :
  let A:=True;let B:=if bZ a=true then A/\(-1:Int)=mC a b/\A else if bZ b=true then A/\(1:Int)=mC a b/\A else A/\ki a b=mC a b/\A;if bZ a=true then if bZ b=true then A/\F4 a b=mC a b/\A else B else B:=by
 conv=>zeta
 unfold mC;by_cases h:bZ a=true<;>by_cases k:bZ b=true<;>simp[h,k]
theorem Kq(a b:Vers)(ho:(a.pre.length<=4096/\b.pre.length<=4096)) :
  let A:=True;let B:=(0:Int);let C:=A/\A;let D:=[dW a.major b.major,dW a.minor b.minor,dW a.patch b.patch];let E:=(1:Int);let F:=([46]:Str)=([46]:Str);let G:=(4294967281:Nat);let H:=(46:UInt8);let I:=splitB H a.pre;let J:=splitB H b.pre;let K:=false=false;let L:=(↑(List.length I):Int);let M:=(↑(List.length J):Int);let N:=a=a/\b=b/\K/\orI D=orI D/\K/\K/\K/\splitB H a.pre=splitB H a.pre/\splitB H b.pre=splitB H b.pre/\min L M=min L M/\a=a/\b=b/\List.length D=List.length D/\A;let O:=dfl Ty.str;if(decide (a.major=b.major)&&(decide (a.minor=b.minor)&&(decide (a.patch=b.patch)&&(decide (a.pre=b.pre)&&true))))=true then A/\B=lD a b/\A else C/\C/\C/\C/\if(!decide (orI D=B))=true then A/\orI D=lD a b/\A else if decide (a.pre=[])=true then A/\E=lD a b/\A else if decide (b.pre=[])=true then A/\(-1:Int)=lD a b/\A else((F/\List.length a.pre<G)/\A)/\((F/\List.length b.pre<G)/\A)/\(∃(x:Nat),(x<=List.length I/\x<=List.length J/\kj I J=kj (List.drop x I) (List.drop x J))/\B=(↑x:Int)/\N)/\∀(x:Nat),let P:=(↑x:Int);let Q:=List.getD I (Int.toNat P) O;let R:=List.getD J (Int.toNat P) O;x<=List.length I/\x<=List.length J/\kj I J=kj (List.drop x I) (List.drop x J)->if decide (P<min L M)=true then(B<=P/\P<L)/\(B<=P/\P<M)/\C/\if(!decide (mC Q R=B))=true then A/\mC Q R=lD a b/\A else inR IntKind.i64 (P+E)/\∃(y:Nat),(y<=List.length I/\y<=List.length J/\kj I J=kj (List.drop y I) (List.drop y J))/\List.length I-y<List.length I-x/\P+E=(↑y:Int)/\N else A/\dW L M=lD a b/\A:=by
 conv=>zeta
 have hv:=JW a b;apply aa<;>intro h
 ·have e:a=b:=by simp only[MR,MV]at h;obtain⟨h1,h2,h3,h4,_⟩:=h;cases a;cases b;simp only at h1 h2 h3 h4;rw[h1,h2,h3,h4]
  rw[e];exact⟨trivial,(F6 b).symm,trivial⟩
 ·refine⟨⟨trivial,trivial⟩,⟨trivial,trivial⟩,⟨trivial,trivial⟩,⟨trivial,trivial⟩,aa (fun c=>?_) (fun c=>?_)⟩
  ·have c:¬qi a b=0:=by simpa[qi]using c
   rw[MT c]at hv;exact⟨trivial,hv.symm,trivial⟩
  ·have c:qi a b=0:=by simpa[qi]using c
   rw[MS (fun e=>e c)]at hv;refine aa (fun p=>?_) (fun p=>aa (fun q=>?_) (fun q=>?_))
   ·have p:=Xo p
    have q:¬b.pre=[]:=fun q=>h (by
     rw[Hv c (p.trans q.symm)];simp)
    rw[MT p,MS q]at hv;exact⟨trivial,hv.symm,trivial⟩
   ·have p:¬a.pre=[]:=fun e=>p (Xd e);have q:=Xo q;rw[MS p,MT q]at hv;exact⟨trivial,hv.symm,trivial⟩
   ·have p:¬a.pre=[]:=fun e=>p (Xd e);have q:¬b.pre=[]:=fun e=>q (Xd e);rw[MS p,MS q]at hv;have la:=eU 46 a.pre;have lb:=eU 46 b.pre;generalize splitB 46 a.pre=x at hv la⊢;generalize splitB 46 b.pre=y at hv lb⊢;refine⟨⟨⟨rfl,by omega⟩,trivial⟩,⟨⟨rfl,by omega⟩,trivial⟩,⟨0,⟨N2 _,N2 _,rfl⟩,(by repeat' (first|exact trivial|rfl|apply And.intro))⟩,?_⟩;rintro k ⟨h1,h2,h3⟩;simp only[Nh];apply aa<;>intro d
    ·have d:=Xo d;have k1:k<x.length:=by omega
     have k2:k<y.length:=by omega
     have hs:=F7 k1 k2;refine⟨by omega,by omega,⟨trivial,trivial⟩,aa (fun e=>?_) (fun e=>?_)⟩
     ·have e:¬mC (x.getD k (dfl .str)) (y.getD k (dfl .str))=0:=by simpa using e
      rw[MS e]at hs;exact⟨trivial,by rw[hv,h3,hs],trivial⟩
     ·have e:mC (x.getD k (dfl .str)) (y.getD k (dfl .str))=0:=by simpa using e
      rw[MT e]at hs;exact⟨aD (by omega) (by omega),k+1,⟨by omega,by omega,by rw[h3,hs]⟩,by omega,by omega,(by repeat' (first|exact trivial|rfl|apply And.intro))⟩
    ·have d:¬((k:Int)<min (x.length:Int) (y.length:Int)):=fun e=>d (Xd e);exact⟨trivial,by rw[hv,h3,Hs h1 h2 (by omega)],trivial⟩
theorem Iu(n:Int)  :
  let A:=True;if decide (n=(1:Int))=true then A/\([60]:Str)=sS n/\A else if decide (n=(2:Int))=true then A/\([60,61]:Str)=sS n/\A else if decide (n=(3:Int))=true then A/\([61]:Str)=sS n/\A else if decide (n=(4:Int))=true then A/\([62,61]:Str)=sS n/\A else if decide (n=(5:Int))=true then A/\([62]:Str)=sS n/\A else A/\[]=sS n/\A:=by
 conv=>zeta
 unfold sS
 repeat' (apply aa<;>intro h)
 all_goals (refine⟨trivial,?_,trivial⟩;simp only[MV]at *;simp[*])
theorem FD(l:List Bnd)(hl:Wf (.lst (.st .bound)) l) :
  let A:=(↑(List.length l):Int);let B:=True/\(50:Int)=mD l/\True;let C:=(0:Int);let D:=l=l/\false=false/\l=l/\A=A/\True;let E:=dfl (Ty.st SN.bound);if decide ((20:Int)<A)=true then B else(∃(x:Nat),(x<=List.length l/\List.all l lE=List.all (List.drop x l) lE)/\C=(↑x:Int)/\D)/\∀(x:Nat),let F:=(↑x:Int);let G:=List.getD l (Int.toNat F) E;x<=List.length l/\List.all l lE=List.all (List.drop x l) lE->if decide (F<A)=true then(C<=F/\F<A)/\if decide (sS G.op=[])=true then B else if(!decide (dx G.v=C))=true then B else inR IntKind.i64 (F+(1:Int))/\∃(y:Nat),(y<=List.length l/\List.all l lE=List.all (List.drop y l) lE)/\List.length l-y<List.length l-x/\F+(1:Int)=(↑y:Int)/\D else True/\C=mD l/\True:=by
 conv=>zeta
 have ln:=hl.len;refine aa (fun h=>?_) (fun h0=>?_)
 ·have h:=Xo h;refine⟨trivial,?_,trivial⟩;unfold mD;rw[MT (by omega)]
 have h0:¬20<l.length:=fun e=>h0 (Xd (by omega));simp only[Nh];refine⟨⟨0,⟨N2 _,rfl⟩,(by repeat' (first|exact trivial|rfl|apply And.intro))⟩,?_⟩;rintro k ⟨h1,h2⟩;apply aa<;>intro h
 ·have h:=Xo h;have hk:k<l.length:=by omega
  rw[az l k (dfl (.st .bound)) hk,Ny]at h2;have no:lE (l.getD k (dfl (.st .bound)))=false->True/\(50:Int)=mD l/\True:=fun e=>⟨trivial,JX (by rw[h2,e];rfl),trivial⟩;have yes:lE (l.getD k (dfl (.st .bound)))=true->l.all lE=(l.drop (k+1)).all lE:=fun e=>by rw[h2,e,NH]
  unfold lE at no yes;have hs:=Ht (l.getD k (dfl (.st .bound))).op;refine⟨by omega,aa (fun c=>no ?_) (fun c=>aa (fun d=>no ?_) (fun d=>?_))⟩
  ·rw[Xf (hs.1 (Xo c)),Nb]
  ·have d:¬dx (l.getD k (dfl (.st .bound))).v=0:=by simpa using d
   rw[Xf d,NM]
  ·have c:1<=(l.getD k (dfl (.st .bound))).op/\(l.getD k (dfl (.st .bound))).op<=5:=Decidable.not_not.1 (fun e=>c (Xd (hs.2 e)));have d:dx (l.getD k (dfl (.st .bound))).v=0:=by simpa using d
   exact⟨ba hk ln,k+1,⟨by omega,yes (by rw[Xd c,Xd d];rfl)⟩,by omega,by omega,(by repeat' (first|exact trivial|rfl|apply And.intro))⟩
 ·have e:k=l.length:=by have:¬((k:Int)<(l.length:Int)):=fun e=>h (Xd e);omega
  subst e;rw[Nj]at h2;exact⟨trivial,Hw h0 h2,trivial⟩
theorem FE(v:Vers)(l:List Bnd)(hl:Wf (.lst (.st .bound)) l)(ho:(v.pre.length<=4096/\∀b∈l,b.v.pre.length<=4096)) :
  let A:=(0:Int);let B:=(↑(List.length l):Int);let C:=v=v/\l=l/\l=l/\B=B/\v=v/\True;let D:=dfl (Ty.st SN.bound);let E:=(1:Int);let F:=True/\false=dj v l/\True;(∃(x:Nat),(x<=List.length l/\dj v l=dj v (List.drop x l))/\A=(↑x:Int)/\C)/\∀(x:Nat),let G:=(↑x:Int);let H:=List.getD l (Int.toNat G) D;let I:=inR IntKind.i64 (G+E)/\∃(y:Nat),(y<=List.length l/\dj v l=dj v (List.drop y l))/\List.length l-y<List.length l-x/\G+E=(↑y:Int)/\C;x<=List.length l/\dj v l=dj v (List.drop x l)->if decide (G<B)=true then(A<=G/\G<B)/\(List.length v.pre<=(4096:Nat)/\List.length H.v.pre<=(4096:Nat))/\if decide (H.op=E)=true then if decide (A<=lD v H.v)=true then F else I else if decide (H.op=(2:Int))=true then if decide (A<lD v H.v)=true then F else I else if decide (H.op=(3:Int))=true then if(!decide (lD v H.v=A))=true then F else I else if decide (H.op=(4:Int))=true then if decide (lD v H.v<A)=true then F else I else if decide (H.op=(5:Int))=true then if decide (lD v H.v<=A)=true then F else I else F else True/\true=dj v l/\True:=by
 conv=>zeta
 have ln:=hl.len;simp only[Nh];refine⟨⟨0,⟨N2 _,rfl⟩,(by repeat' (first|exact trivial|rfl|apply And.intro))⟩,?_⟩;rintro k ⟨h1,h2⟩;apply aa<;>intro h
 ·have h:=Xo h;have hk:k<l.length:=by omega
  rw[az l k (dfl (.st .bound)) hk,show ∀(x:Bnd)(r:List Bnd),dj v (x::r)=(JV v x&&dj v r)from fun _ _=>rfl]at h2;have hi:=ba hk ln;have no:JV v (l.getD k (dfl (.st .bound)))=false->false=dj v l:=fun e=>by rw[h2,e];rfl
  have yes:JV v (l.getD k (dfl (.st .bound)))=true->dj v l=dj v (l.drop (k+1)):=fun e=>by rw[h2,e,NH]
  refine⟨by omega,⟨ho.1,ho.2 _ (bG l k _ hk)⟩,?_⟩;exact BN _ _ (fun e=>⟨trivial,no e,trivial⟩) (fun e=>⟨hi,k+1,⟨by omega,yes e⟩,by omega,by omega,(by repeat' (first|exact trivial|rfl|apply And.intro))⟩)
 ·have e:k=l.length:=by have:¬((k:Int)<(l.length:Int)):=fun e=>h (Xd e);omega
  subst e;rw[Nj]at h2;exact⟨trivial,h2.symm,trivial⟩
theorem Co(n:Nat)(x:Shape)(ho:sz x<=n) :
  sz x<=n/\True/\(!allS aI x)=!allS aI x/\True:=by
 exact⟨ho,trivial,rfl,trivial⟩
theorem Cp(n:Nat)(l:List Shape)(hl:Wf (.lst (.st .shape)) l)(ho:∀x∈l,sz x<=n) :
  let A:=allS aI;let B:=(0:Nat);let C:=(↑(List.length l):Int);let D:=l=l/\C=C/\True;let E:=dfl (Ty.st SN.shape);(∃(x:Nat),(x<=List.length l/\aF A (List.drop x l) x=aF A l B)/\(0:Int)=(↑x:Int)/\D)/\∀(x:Nat),let F:=(↑x:Int);let G:=List.getD l (Int.toNat F) E;x<=List.length l/\aF A (List.drop x l) x=aF A l B->if decide (F<C)=true then((0:Int)<=F/\F<C)/\sz G<=n/\if(!allS aI G)=true then True/\F=aF A l B/\True else inR IntKind.i64 (F+(1:Int))/\∃(y:Nat),(y<=List.length l/\aF A (List.drop y l) y=aF A l B)/\List.length l-y<List.length l-x/\F+(1:Int)=(↑y:Int)/\D else True/\(-1:Int)=aF A l B/\True:=by
 conv=>zeta
 have ln:=hl.len;simp only[Nh];refine⟨⟨0,⟨N2 _,by simp⟩,(by repeat' (first|exact trivial|rfl|apply And.intro))⟩,?_⟩;rintro k ⟨h1,h2⟩;apply aa<;>intro h
 ·replace h:=Xo h;have hk:k<l.length:=by omega
  rw[az l k (dfl (.st .shape)) hk,aF]at h2;refine⟨by omega,ho _ (bG l k _ hk),aa (fun c=>?_) (fun c=>?_)⟩
  ·have c:allS aI (l.getD k (dfl (.st .shape)))=false:=by simpa using c
   rw[c,MS Oc]at h2;rw[<-h2];exact Xr
  ·have c:allS aI (l.getD k (dfl (.st .shape)))=true:=by simpa using c
   rw[MT c]at h2;exact⟨ba hk ln,k+1,⟨by omega,h2⟩,by omega,by omega,(by repeat' (first|exact trivial|rfl|apply And.intro))⟩
 ·replace h:¬((k:Int)<(l.length:Int)):=fun e=>h (Xd e);have e:k=l.length:=by omega
  subst e;rw[Nj,aF]at h2;rw[<-h2];exact Xr
theorem Cq(n:Nat)(l:List Shape)(hl:Wf (.lst (.st .shape)) l)(ho:∀x∈l,sz x<=n) :
  (∀(x:Shape),x∈l->sz x<=n)/\True/\decide ((0:Int)<=aF (allS aI) l (0:Nat))=!List.all l (allS aI)/\True:=by
 exact⟨ho,trivial,gN (allS aI) l 0,trivial⟩
theorem Iv(n:Nat)(s:Shape)(ho:sz s<=n+1) :
  if(!decide (s.kind=(10:Int)))=true then(∀(x:Shape),x∈s.parts->sz x<=n)/\True/\(!!List.all s.parts (allS aI))=allS aI s/\True else True/\false=allS aI s/\True:=by
 have e0:allS aI s=(aI s&&s.parts.all (allS aI)):=by rw[qK,sG]
 have h0:=uZ s;have hm:∀x∈s.parts,sz x<=n:=fun x hx=>by have:=ph hx;omega
 rw[e0];apply aa<;>intro h
 ·have h:aI s=true:=h;rw[h,NH];exact⟨hm,trivial,by simp,trivial⟩
 ·have h:aI s=false:=by simpa[aI]using h
  rw[h];exact Xr
theorem FF(l:List Str)(ho:l.length *16<=140737488355328) :
  let A:=(List.mergeSort l fun(x y:Str)=>decide (x<=y));List.length l*(16:Nat)<=(140737488355328:Nat)/\List.length A=List.length A/\True/\decide ((↑(List.length (Lib.compact A)):Int)=(↑(List.length l):Int))=decide (List.Nodup l)/\True:=by
 conv=>zeta
 have hc:=fM l;unfold eR at hc;refine⟨ho,rfl,trivial,?_,trivial⟩;rw[O1,<-hc];omega
theorem Iw(d:Dcl)(ho:aW d=true) :
  let A:=(0:Int);let B:=(↑(List.length d.shape.names):Int);let C:=(↑(List.length d.shape.parts):Int);let D:=True;let E:=d=d/\false=false/\d=d/\D;let F:=false=noS d.shape/\E;let G:=(↑(List.length d.term.names):Int);let H:=(↑(List.length d.term.vars):Int);let I:=(↑(List.length d.term.shapes):Int);let J:=(↑(List.length d.term.parts):Int);let K:=noS d.shape=noS d.shape/\d=d/\false=false/\d=d/\d.term=d.term/\D;let L:=false=noT d.term/\K;let M:=D/\false=gX d/\D;let N:=if dh d.name=true then if decide (di d.shape=A)=true then sz d.shape<=(400:Nat)/\if allS aI d.shape=true then D/\noT d.term=gX d/\D else M else M else M;(if decide (d.shape.kind=A)=true then if decide (d.shape.pkg=[])=true then if decide (d.shape.name=[])=true then inR IntKind.i64 (B+C)/\decide (B+C=A)=noS d.shape/\E else F else F else F)/\(if decide (d.term.kind=A)=true then if decide (d.term.pkg=[])=true then if decide (d.term.name=[])=true then if decide (d.term.n=A)=true then if decide (d.term.pos=A)=true then inR IntKind.i64 (G+H)/\inR IntKind.i64 (G+H+I)/\inR IntKind.i64 (G+H+I+J)/\decide (G+H+I+J=A)=noT d.term/\K else L else L else L else L else L)/\if decide (d.kind=(1:Int))=true then N else if decide (d.kind=(2:Int))=true then N else if decide (d.kind=(3:Int))=true then if ay d.name=true then bR d.term=true/\if decide (cY d.term=A)=true then D/\noS d.shape=gX d/\D else M else M else M:=by
 conv=>zeta
 obtain⟨o4,o5⟩:=za ho;obtain⟨s1,s2,s3,s4,s5,s6⟩:=HU ho;have dS:decide ((d.shape.names.length:Int)+(d.shape.parts.length:Int)=0)=decide (d.shape.names.length+d.shape.parts.length=0):=O1.2 (by omega);have dT:decide ((d.term.names.length:Int)+(d.term.vars.length:Int)+(d.term.shapes.length:Int)+(d.term.parts.length:Int)=0)=decide (d.term.names.length+d.term.vars.length+d.term.shapes.length+d.term.parts.length=0):=O1.2 (by omega);have i1:inR .i64 ((d.shape.names.length:Int)+(d.shape.parts.length:Int)):=aD (by omega) (by omega);have i2:inR .i64 ((d.term.names.length:Int)+(d.term.vars.length:Int)):=aD (by omega) (by omega);have i3:inR .i64 ((d.term.names.length:Int)+(d.term.vars.length:Int)+(d.term.shapes.length:Int)):=aD (by omega) (by omega);have i4:inR .i64 ((d.term.names.length:Int)+(d.term.vars.length:Int)+(d.term.shapes.length:Int)+(d.term.parts.length:Int)):=aD (by omega) (by omega);have nS:noS d.shape=(decide (d.shape.kind=0)&&decide (d.shape.pkg=[])&&decide (d.shape.name=[])&&decide (d.shape.names.length+d.shape.parts.length=0)):=rfl;have nT:noT d.term=(decide (d.term.kind=0)&&decide (d.term.pkg=[])&&decide (d.term.name=[])&&decide (d.term.n=0)&&decide (d.term.pos=0)&&decide (d.term.names.length+d.term.vars.length+d.term.shapes.length+d.term.parts.length=0)):=rfl;refine⟨?_,?_,?_⟩
 ·rw[nS,dS];refine aa (fun a=>aa (fun b=>aa (fun c=>⟨i1,?_,(by repeat' (first|exact trivial|rfl|apply And.intro))⟩) (fun c=>⟨?_,(by repeat' (first|exact trivial|rfl|apply And.intro))⟩)) (fun b=>⟨?_,(by repeat' (first|exact trivial|rfl|apply And.intro))⟩)) (fun a=>⟨?_,(by repeat' (first|exact trivial|rfl|apply And.intro))⟩)
  ·rw[a,b,c];rfl
  ·rw[bF c,NM,Nb]
  ·rw[bF b,NM,Nb,Nb]
  ·rw[bF a,Nb,Nb,Nb]
 ·rw[nT,dT];refine aa (fun a=>aa (fun b=>aa (fun c=>aa (fun e=>aa (fun f=>⟨i2,i3,i4,?_,(by repeat' (first|exact trivial|rfl|apply And.intro))⟩) (fun f=>⟨?_,(by repeat' (first|exact trivial|rfl|apply And.intro))⟩)) (fun e=>⟨?_,(by repeat' (first|exact trivial|rfl|apply And.intro))⟩)) (fun c=>⟨?_,(by repeat' (first|exact trivial|rfl|apply And.intro))⟩)) (fun b=>⟨?_,(by repeat' (first|exact trivial|rfl|apply And.intro))⟩)) (fun a=>⟨?_,(by repeat' (first|exact trivial|rfl|apply And.intro))⟩)
  ·rw[a,b,c,e,f];rfl
  ·rw[bF f,NM,Nb]
  ·rw[bF e,NM,Nb,Nb]
  ·rw[bF c,NM,Nb,Nb,Nb]
  ·rw[bF b,NM,Nb,Nb,Nb,Nb]
  ·rw[bF a,Nb,Nb,Nb,Nb,Nb]
 clear nS nT dS dT
 have ty:d.kind=1∨d.kind=2->(if dh d.name=true then if decide (di d.shape=0)=true then sz d.shape<=400/\if allS aI d.shape=true then True/\noT d.term=gX d/\True else True/\false=gX d/\True else True/\false=gX d/\True else True/\false=gX d/\True):=by
  intro k;unfold gX;rw[MT k];refine aa (fun a=>aa (fun b=>⟨(yw (Xo b)).1,aa (fun c=>⟨trivial,?_,trivial⟩) (fun c=>⟨trivial,?_,trivial⟩)⟩) (fun b=>⟨trivial,?_,trivial⟩)) (fun a=>⟨trivial,?_,trivial⟩)
  ·rw[a,b,c];rfl
  ·rw[bF c,NM,Nb]
  ·rw[bF b,NM,Nb,Nb]
  ·rw[bF a,Nb,Nb,Nb]
 refine aa (fun k=>ty (.inl (Xo k))) (fun k1=>aa (fun k=>ty (.inr (Xo k))) (fun k2=>?_));have k1:¬d.kind=1:=fun e=>k1 (Xd e);have k2:¬d.kind=2:=fun e=>k2 (Xd e);have dk:gX d=if d.kind=3 then ay d.name&&decide (cY d.term=0)&&noS d.shape else false:=by unfold gX;exact MS (fun e=>e.elim k1 k2)
 rw[dk];refine aa (fun k=>?_) (fun k=>⟨trivial,(MS (fun e=>k (Xd e))).symm,trivial⟩);rw[MT (Xo k)];refine aa (fun a=>⟨o5,aa (fun b=>⟨trivial,?_,trivial⟩) (fun b=>⟨trivial,?_,trivial⟩)⟩) (fun a=>⟨trivial,?_,trivial⟩)
 ·rw[a,b];rfl
 ·rw[bF b,NM,Nb]
 ·rw[bF a,Nb,Nb]
theorem FH(m:Modu)(hm:Wf (.st .modu) m)(ho:(m.decls.all aW=true/\m.decls.length<=1000000)) :
  let A:=True/\(100:Int)=cd m/\True;let B:=(↑(List.length m.imports):Int);let C:=(↑(List.length m.exports):Int);let D:=(0:Int);let E:=(fun(x:Impt)=>x.name);let F:=m=m;let G:=false=false;let H:=m.imports=m.imports;let I:=B=B;let J:=F/\True;let K:=dfl (Ty.st SN.imp);let L:=(16:Nat);let M:=(140737488355328:Nat);let N:=(1:Int);let O:=[([73,110,116]:Str),([66,111,111,108]:Str),([84,101,120,116]:Str),([65,110,121]:Str)];let P:=(fun(x:Dcl)=>x.name);let Q:=m.decls=m.decls;let R:=(↑(List.length m.decls):Int);let S:=R=R;let T:=dfl (Ty.st SN.decl);let U:=m.exports=m.exports;if(!ay m.name)=true then A else if decide ((8:Int)<B)=true then A else if decide ((60:Int)<C)=true then A else if decide (m.pos<D)=true then A else(∃(x:Nat),let V:=List.take x m.imports;(x<=List.length m.imports/\List.all m.imports nD=List.all (List.drop x m.imports) nD)/\[m.name]=m.name::List.map E V/\D=(↑x:Int)/\F/\G/\H/\I/\List.length [m.name]=List.length (m.name::List.map E V)/\J)/\∀(x:Nat),let V:=(↑x:Int);let W:=List.getD m.imports (Int.toNat V) K;let X:=List.take x m.imports;let Y:=(m.name::List.map E X);let Z:=List.length Y=List.length Y;let a:=[W.name];let c:=m.name::List.map E X=m.name::List.map E X;let d:=V=V;let e:=Z/\J;x<=List.length m.imports/\List.all m.imports nD=List.all (List.drop x m.imports) nD->if decide (V<B)=true then(D<=V/\V<B)/\if(!ay W.name)=true then A else if(!decide (dx W.pin=D))=true then A else if(!decide (mD W.range=D))=true then A else(List.length W.pin.pre<=(4096:Nat)/\∀(b:Bnd),b∈W.range->List.length b.v.pre<=(4096:Nat))/\if(!dj W.pin W.range)=true then A else if decide (W.pos<D)=true then A else(Z/\(List.length Y+List.length a)*L<=M)/\inR IntKind.i64 (V+N)/\∃(y:Nat),let f:=List.take y m.imports;(y<=List.length m.imports/\List.all m.imports nD=List.all (List.drop y m.imports) nD)/\List.length m.imports-y<List.length m.imports-x/\m.name::List.map E X++a=m.name::List.map E f/\V+N=(↑y:Int)/\F/\G/\H/\I/\List.length (m.name::List.map E X++a)=List.length (m.name::List.map E f)/\J else(∃(x_1:Nat),let f:=List.take x_1 m.decls;(x_1<=List.length m.decls/\List.all m.decls mE=List.all (List.drop x_1 m.decls) mE)/\O=kO++List.map P f/\D=(↑x_1:Int)/\c/\d/\F/\G/\H/\I/\G/\Q/\S/\List.length O=List.length (kO++List.map P f)/\e)/\∀(x_1:Nat),let f:=(↑x_1:Int);let g:=List.getD m.decls (Int.toNat f) T;let h:=List.take x_1 m.decls;let i:=kO++List.map P h;let j:=List.length i=List.length i;let k:=[g.name];let l:=kO++List.map P h=kO++List.map P h/\f=f/\c/\d/\F/\G/\H/\I/\G/\Q/\S/\G/\U/\C=C/\j/\e;x_1<=List.length m.decls/\List.all m.decls mE=List.all (List.drop x_1 m.decls) mE->if decide (f<R)=true then(D<=f/\f<R)/\aW g=true/\if(!gX g)=true then A else if decide (g.pos<D)=true then A else(j/\(List.length i+List.length k)*L<=M)/\inR IntKind.i64 (f+N)/\∃(y:Nat),let n:=List.take y m.decls;(y<=List.length m.decls/\List.all m.decls mE=List.all (List.drop y m.decls) mE)/\List.length m.decls-y<List.length m.decls-x_1/\kO++List.map P h++k=kO++List.map P n/\f+N=(↑y:Int)/\c/\d/\F/\G/\H/\I/\G/\Q/\S/\List.length (kO++List.map P h++k)=List.length (kO++List.map P n)/\e else(∃(x_2:Nat),(x_2<=List.length m.exports/\List.all m.exports lP=List.all (List.drop x_2 m.exports) lP)/\D=(↑x_2:Int)/\l)/\∀(x_2:Nat),let n:=(↑x_2:Int);let o:=List.getD m.exports (Int.toNat n) (dfl Ty.str);let p:=inR IntKind.i64 (n+N)/\∃(y:Nat),(y<=List.length m.exports/\List.all m.exports lP=List.all (List.drop y m.exports) lP)/\List.length m.exports-y<List.length m.exports-x_2/\n+N=(↑y:Int)/\l;x_2<=List.length m.exports/\List.all m.exports lP=List.all (List.drop x_2 m.exports) lP->if decide (n<C)=true then(D<=n/\n<C)/\if(!ay o)=true then if(!dh o)=true then A else p else p else List.length Y*L<=M/\if(!decide (List.Nodup Y))=true then A else List.length i*L<=M/\if(!decide (List.Nodup i))=true then A else List.length m.exports*L<=M/\if(!decide (List.Nodup m.exports))=true then A else True/\D=cd m/\True:=by
 conv=>zeta
 have bad:okM m=false->True/\(100:Int)=cd m/\True:=fun e=>⟨trivial,C6 e,trivial⟩;have hb:(ay m.name=true/\m.imports.length<=8/\m.exports.length<=60/\0<=m.pos->False)->True/\(100:Int)=cd m/\True:=fun e=>bad (zc (bF (fun k=>e (zd.1 k))));obtain⟨o1,o2⟩:=ho;rw[N6]at o1;refine aa (fun a=>hb (fun e=>nbN a e.1)) (fun a1=>aa (fun a=>hb (fun e=>by have:=Xo a;omega)) (fun a2=>aa (fun a=>hb (fun e=>by have:=Xo a;omega)) (fun a3=>aa (fun a=>hb (fun e=>by have:=Xo a;omega)) (fun a4=>?_))));have a2:¬(8:Int)<m.imports.length:=fun e=>a2 (Xd e);have a3:¬(60:Int)<m.exports.length:=fun e=>a3 (Xd e);have a4:¬m.pos<0:=fun e=>a4 (Xd e);have hH:vk m=true:=zd.2 ⟨nbP a1,by omega,by omega,by omega⟩;clear hb a1;simp only[Nh];refine⟨⟨0,⟨N2 _,rfl⟩,(by repeat' (first|exact trivial|rfl|apply And.intro))⟩,?_⟩;rintro k ⟨k1,k2⟩;have lk:(m.name::(m.imports.take k).map (·.name)).length=k+1:=by rw[Ni,NT,Oj];omega
 apply aa<;>intro h
 ·have h:=Xo h;have hk:k<m.imports.length:=by omega
  rw[az m.imports k (dfl (.st .imp)) hk,Ny]at k2;have he:(m.name::(m.imports.take k).map (·.name))++[(m.imports.getD k (dfl (.st .imp))).name]=m.name::(m.imports.take (k+1)).map (·.name):=by rw[eh m.imports k (dfl (.st .imp)) hk,Pc];rfl
  have no:(ay (m.imports.getD k (dfl (.st .imp))).name=true/\dx (m.imports.getD k (dfl (.st .imp))).pin=0/\mD (m.imports.getD k (dfl (.st .imp))).range=0/\dj (m.imports.getD k (dfl (.st .imp))).pin (m.imports.getD k (dfl (.st .imp))).range=true/\0<=(m.imports.getD k (dfl (.st .imp))).pos->False)->True/\(100:Int)=cd m/\True:=fun e=>bad (C7 (by rw[k2,bF (fun q=>e (DW.1 q))];rfl));refine⟨by omega,aa (fun c=>no (fun e=>nbN c e.1)) (fun c1=>aa (fun c=>no (fun e=>ndN c e.2.1)) (fun c2=>aa (fun c=>no (fun e=>ndN c e.2.2.1)) (fun c3=>?_)))⟩;have c2:dx (m.imports.getD k (dfl (.st .imp))).pin=0:=ndP c2;have c3:mD (m.imports.getD k (dfl (.st .imp))).range=0:=ndP c3;refine⟨⟨NZ (sT c2) (by decide),fun b hb=>NZ (HV c3 b hb) (by decide)⟩,aa (fun c=>no (fun e=>nbN c e.2.2.2.1)) (fun c4=>aa (fun c=>no (fun e=>by have:=Xo c;omega)) (fun c5=>?_))⟩;have c5:¬(m.imports.getD k (dfl (.st .imp))).pos<0:=fun e=>c5 (Xd e);have yes:nD (m.imports.getD k (dfl (.st .imp)))=true:=DW.2 ⟨nbP c1,c2,c3,nbP c4,by omega⟩;rw[yes,NH]at k2;refine⟨⟨by first|rfl|trivial,by rw[lk,NJ];omega⟩,aD (by omega) (by omega),k+1,⟨by omega,k2⟩,by omega,he,by omega,(by repeat' (first|exact trivial|rfl|exact Oz List.length he|apply And.intro))⟩
 have ek:k=m.imports.length:=by have:¬((k:Int)<(m.imports.length:Int)):=fun e=>h (Xd e);omega
 subst ek;rw[Nj]at k2;have kI:m.imports.all nD=true:=k2;clear k2;simp only[Ob];refine⟨⟨0,⟨N2 _,rfl⟩,(by repeat' (first|exact trivial|rfl|apply And.intro))⟩,?_⟩;rintro j ⟨j1,j2⟩;have lj:(kO++(m.decls.take j).map (·.name)).length=j+4:=by rw[NK,NT,Oj];show 4+_=_;omega
 apply aa<;>intro h
 ·have h:=Xo h;have hj:j<m.decls.length:=by omega
  rw[az m.decls j (dfl (.st .decl)) hj,Ny]at j2;have he:(kO++(m.decls.take j).map (·.name))++[(m.decls.getD j (dfl (.st .decl))).name]=kO++(m.decls.take (j+1)).map (·.name):=by rw[eh m.decls j (dfl (.st .decl)) hj,Pc,NF];rfl
  have no:(gX (m.decls.getD j (dfl (.st .decl)))=true/\0<=(m.decls.getD j (dfl (.st .decl))).pos->False)->True/\(100:Int)=cd m/\True:=fun e=>bad (C8 (by rw[j2,bF (fun q=>e (DX.1 q))];rfl));refine⟨by omega,o1 _ (bG m.decls j _ hj),aa (fun c=>no (fun e=>nbN c e.1)) (fun c1=>aa (fun c=>no (fun e=>by have:=Xo c;omega)) (fun c2=>?_))⟩;have c2:¬(m.decls.getD j (dfl (.st .decl))).pos<0:=fun e=>c2 (Xd e);have yes:mE (m.decls.getD j (dfl (.st .decl)))=true:=DX.2 ⟨nbP c1,by omega⟩;rw[yes,NH]at j2;refine⟨⟨by first|rfl|trivial,by rw[lj,NJ];omega⟩,aD (by omega) (by omega),j+1,⟨by omega,j2⟩,by omega,he,by omega,(by repeat' (first|exact trivial|rfl|exact Oz List.length he|apply And.intro))⟩
 have ej:j=m.decls.length:=by have:¬((j:Int)<(m.decls.length:Int)):=fun e=>h (Xd e);omega
 subst ej;rw[Nj]at j2;have kD:m.decls.all mE=true:=j2;clear j2;simp only[Ob]at lj lk⊢;refine⟨⟨0,⟨N2 _,rfl⟩,(by repeat' (first|exact trivial|rfl|apply And.intro))⟩,?_⟩;rintro i ⟨i1,i2⟩;apply aa<;>intro h
 ·have h:=Xo h;have hi:i<m.exports.length:=by omega
  rw[az m.exports i (dfl .str) hi,Ny]at i2;have yes:lP (m.exports.getD i (dfl .str))=true->inR .i64 ((i:Int)+1)/\m.exports.all lP=(m.exports.drop (i+1)).all lP:=fun e=>⟨aD (by omega) (by omega),by rw[i2,e,NH]⟩;refine⟨by omega,aa (fun c=>aa (fun c2=>?_) (fun c2=>?_)) (fun c=>?_)⟩
  ·have no:lP (m.exports.getD i (dfl .str))=false:=bF (fun q=>by
    rcases wR.1 q with e|e
    ·exact nbN c e
    ·exact nbN c2 e)
   exact bad (C9 (by rw[i2,no];rfl))
  ·obtain⟨y1,y2⟩:=yes (wR.2 (.inr (nbP c2)));exact⟨y1,i+1,⟨by omega,y2⟩,by omega,by omega,(by repeat' (first|exact trivial|rfl|apply And.intro))⟩
  ·obtain⟨y1,y2⟩:=yes (wR.2 (.inl (nbP c)));exact⟨y1,i+1,⟨by omega,y2⟩,by omega,by omega,(by repeat' (first|exact trivial|rfl|apply And.intro))⟩
 have ei:i=m.exports.length:=by have:¬((i:Int)<(m.exports.length:Int)):=fun e=>h (Xd e);omega
 subst ei;rw[Nj]at i2;have hE:=LP hH kI kD i2;have e1:LO m=m.name::m.imports.map (·.name):=rfl;have e2:K6 m=kO++m.decls.map (·.name):=rfl;rw[e1,e2]at hE;refine⟨by rw[lk];omega,aa (fun c=>bad ?_) (fun c=>⟨by rw[lj];omega,aa (fun d=>bad ?_) (fun d=>⟨by omega,aa (fun e=>bad ?_) (fun e=>⟨trivial,zb ?_,trivial⟩)⟩)⟩)⟩
 ·have c:decide (m.name::m.imports.map (·.name)).Nodup=false:=by simpa only[Nc]using c
  rw[hE,c,Nb,Nb]
 ·have d:decide (kO++m.decls.map (·.name)).Nodup=false:=by simpa only[Nc]using d
  rw[hE,d,NM,Nb]
 ·have e:decide m.exports.Nodup=false:=by simpa only[Nc]using e
  rw[hE,e,NM]
 ·have c:decide (m.name::m.imports.map (·.name)).Nodup=true:=by simpa only[Nc,Qh]using c
  have d:decide (kO++m.decls.map (·.name)).Nodup=true:=by simpa only[Nc,Qh]using d
  have e:decide m.exports.Nodup=true:=by simpa only[Nc,Qh]using e
  rw[hE,c,d,e];rfl
theorem Ix(n:Nat)(v:Vlu)(l c:Int)(hs:Wf (.st .val) v)(hn:szV v<=n+1)(hc:0<=c/\c<=2000/\1<=l/\l<=c+1) :
  let A:=(1:Int);let B:=(2000:Int);let C:=(↑(szV v):Int);let D:=decide (B<c+C)=true;let E:=(2001:Int);let F:=l+A;let G:=(0:Int);let H:=v.parts=v.parts;let I:=(↑(List.length v.parts):Int);let J:=v=v/\True;let K:=dfl (Ty.st SN.val);inR IntKind.i64 (c+A)/\if decide (B<c+A)=true then D/\c+A=E/\True else(∃(x:Nat×Int),let L:=(↑(szVL (List.take x.1 v.parts)):Int);(x.1<=List.length v.parts/\c+A+L<=B/\deepVL (List.drop x.1 v.parts) F x.2=deepV v l)/\l=x.2/\G=(↑x.1:Int)/\v=v/\l=l/\G=G/\false=false/\H/\I=I/\c+A=c+A+L/\J)/\∀(x:Nat×Int),let L:=(↑(szVL (List.take x.1 v.parts)):Int);let M:=c+A+L<=B;let N:=(↑x.1:Int);let O:=List.getD v.parts (Int.toNat N) K;let P:=(↑(szV O):Int);x.1<=List.length v.parts/\M/\deepVL (List.drop x.1 v.parts) F x.2=deepV v l->if decide (N<I)=true then(G<=N/\N<I)/\inR IntKind.i64 F/\(szV O<=n/\G<=c+A+L/\M/\A<=l+A/\l+A<=c+A+L+A)/\if decide (B<c+A+L+P)=true then D/\E=E/\True else inR IntKind.i64 (N+A)/\∃(y:Nat×Int),let Q:=(↑(szVL (List.take y.1 v.parts)):Int);(y.1<=List.length v.parts/\c+A+Q<=B/\deepVL (List.drop y.1 v.parts) F y.2=deepV v l)/\List.length v.parts-y.1<List.length v.parts-x.1/\max x.2 (deepV O F)=y.2/\N+A=(↑y.1:Int)/\v=v/\l=l/\G=G/\false=false/\H/\I=I/\c+A+L+P=c+A+Q/\J else decide (B<c+C)=false/\x.2=deepV v l/\c+A+L=c+C/\True:=by
 conv=>zeta
 have ln:=hs.val_parts.len;have hz:=wI v;refine⟨aD (by omega) (by omega),aa (fun h=>?_) (fun h=>?_)⟩
 ·replace h:=Xo h;have:=qN v;exact⟨Xd (by omega),by omega,by trivial⟩
 replace h:¬(2000:Int)<c+1:=fun e=>h (Xd e);have hd0:deepVL v.parts (l+1) l=deepV v l:=by cases v;rfl
 refine⟨⟨(0,l),⟨N2 _,by simp[szVL];omega,by simpa using hd0⟩,rfl,rfl,rfl,by simp[szVL],by repeat' (first|exact trivial|rfl|(show _=c+1+((szVL (List.take 0 v.parts):Nat):Int);simp only[OI,szVL];omega)|apply And.intro)⟩,?_⟩;rintro⟨k,d⟩ ⟨h1,h2,h3⟩;simp only[Nh]at h1 h2 h3⊢;have hc0:(0:Int)<=(szVL (v.parts.take k):Int):=by omega
 apply aa<;>intro hk
 ·replace hk:=Xo hk;have hk:k<v.parts.length:=by omega
  have hs1:=lK v.parts k (dfl (.st .val)) hk;have hm:=qO (bG v.parts k (dfl (.st .val)) hk);rw[az v.parts k (dfl (.st .val)) hk]at h3;simp only[deepVL]at h3;have ht:=wJ v.parts (k+1);refine⟨by omega,aD (by omega) (by omega),⟨by omega,by omega,h2,by omega,by omega⟩,aa (fun h=>?_) (fun h=>?_)⟩
  ·replace h:=Xo h;exact⟨Xd (by omega),by repeat' (first|exact trivial|rfl|apply And.intro)⟩
  ·replace h:=fun e=>h (Xd e);replace h:¬(2000:Int)<c+1+(szVL (v.parts.take k):Int)+(szV (v.parts.getD k (dfl (.st .val))):Int):=h;exact⟨ba hk ln,(k+1,_),⟨by omega,by simp only;omega,h3⟩,by simp only;omega,by repeat' (first|exact trivial|rfl|(simp only;omega)|omega|apply And.intro)⟩
 ·replace hk:¬((k:Int)<(v.parts.length:Int)):=fun e=>hk (Xd e);have e:k=v.parts.length:=by omega
  subst e;rw[Ob]at h2⊢;rw[Nj]at h3;exact⟨Xf (by omega),h3,by omega,trivial⟩
theorem FI(v:Vlu)(hs:Wf (.st .val) v) :
  let A:=(0:Int);let B:=(1:Int);let C:=(↑(szV v):Int);let D:=if szV v<=(2000:Nat)then C else(2001:Int);let E:=if szV v<=(2000:Nat)then deepV v B else A;(szV v<=szV v/\A<=A/\A<=(2000:Int)/\B<=B/\B<=A+B)/\if decide ((2000:Int)<A+C)=true then((2001:Int)=D)/\(A=E)/\false=decide (szV v<=(2000:Nat))/\True else(A+C=D)/\(deepV v B=E)/\true=decide (szV v<=(2000:Nat))/\True:=by
 conv=>zeta
 refine⟨by simp,aa (fun h=>?_) (fun h=>?_)⟩
 ·replace h:=Xo h;have h':¬szV v<=2000:=by omega
  rw[MS h',MS h'];exact⟨rfl,rfl,by simp[h'],trivial⟩
 ·replace h:¬(2000:Int)<0+(szV v:Int):=fun e=>h (Xd e);have h':szV v<=2000:=by omega
  rw[MT h',MT h'];exact⟨by omega,by trivial,by simp[h'],trivial⟩
theorem Cr (x:Str)  :
  True/\(!ay x)=!ay x/\True:=by
 exact⟨trivial,by trivial,trivial⟩
theorem Cs (l:List Str) (hl:Wf (.lst .str) l) :
  let A:=(0:Nat);let B:=(↑(List.length l):Int);let C:=l=l/\B=B/\True;(∃(x:Nat),(x<=List.length l/\aF ay (List.drop x l) x=aF ay l A)/\(0:Int)=(↑x:Int)/\C)/\∀(x:Nat),let D:=(↑x:Int);x<=List.length l/\aF ay (List.drop x l) x=aF ay l A->if decide (D<B)=true then((0:Int)<=D/\D<B)/\if(!ay (List.getD l (Int.toNat D) (dfl Ty.str)))=true then True/\D=aF ay l A/\True else inR IntKind.i64 (D+(1:Int))/\∃(y:Nat),(y<=List.length l/\aF ay (List.drop y l) y=aF ay l A)/\List.length l-y<List.length l-x/\D+(1:Int)=(↑y:Int)/\C else True/\(-1:Int)=aF ay l A/\True:=by
 conv=>zeta
 have ln:=hl.len;simp only[Nh];refine⟨⟨0,⟨N2 _,by simp⟩,rfl,by trivial,by trivial,trivial⟩,?_⟩;rintro k ⟨h1,h2⟩;apply aa<;>intro h
 ·replace h:=Xo h;have hk:k<l.length:=by omega
  rw[az l k (dfl .str) hk,aF]at h2;refine⟨by omega,aa (fun c=>?_) (fun c=>?_)⟩
  ·have c:ay (l.getD k (dfl .str))=false:=by simpa using c
   rw[c,MS Oc]at h2;rw[<-h2];exact Xr
  ·have c:ay (l.getD k (dfl .str))=true:=by simpa using c
   rw[MT c]at h2;refine⟨ba hk ln,k+1,⟨by omega,h2⟩,by omega,by omega,by trivial,by trivial,trivial⟩
 ·replace h:¬((k:Int)<(l.length:Int)):=fun e=>h (Xd e);have e:k=l.length:=by omega
  subst e;rw[Nj,aF]at h2;rw[<-h2];exact Xr
theorem Ct (l:List Str)  :
  True/\decide ((0:Int)<=aF ay l (0:Nat))=!List.all l ay/\True:=by
 exact⟨trivial,gN ay l 0,trivial⟩
theorem Iy (l:List Str)  :
  True/\(!!List.all l ay)=List.all l ay/\True:=by
 exact⟨trivial,PJ _,trivial⟩
theorem FJ(l:List Str)(ho:l.length *16<=140737488355328) :
  let A:=(List.mergeSort l fun(x y:Str)=>decide (x<=y));List.length l*(16:Nat)<=(140737488355328:Nat)/\if List.all l ay=true then List.length A=List.length A/\True/\decide ((↑(List.length (Lib.compact A)):Int)=(↑(List.length l):Int))=j8 l/\True else True/\false=j8 l/\True:=by
 conv=>zeta
 have hc:=fM l;unfold eR at hc;unfold j8;refine⟨ho,aa (fun h=>?_) (fun h=>?_)⟩
 ·refine⟨by trivial,trivial,?_,trivial⟩;rw[h,NH,O1,<-hc];omega
 ·have h:l.all ay=false:=by simpa using h
  exact⟨trivial,by rw[h];rfl,trivial⟩
theorem Iz(v:Vlu)(hs:Wf (.st .val) v)(ho:v.names.length *16<=140737488355328) :
  let A:=(1:Int);let B:=(↑(List.length v.names):Int);let C:=(0:Int);let D:=True;let E:=(↑(List.length v.parts):Int);let F:=D/\false=bf v/\D;let G:=if decide (B=C)=true then D/\decide (E=C)=bf v/\D else F;let H:=if decide (v.pkg=[])=true then if decide (v.n=C)=true then G else F else F;let I:=if decide (v.pkg=[])=true then if decide (v.text=[])=true then if decide (v.n=C)=true then List.length v.names*(16:Nat)<=(140737488355328:Nat)/\if j8 v.names=true then D/\decide (B=E)=bf v/\D else F else F else F else F;let J:=D/\decide (E=A)=bf v/\D;let K:=if decide (v.pkg=[])=true then if decide (v.n=C)=true then if decide (B=C)=true then if ay v.text=true then J else F else F else F else F;let L:=if ay v.pkg=true then if dh v.text=true then if decide (v.n=C)=true then if decide (B=C)=true then J else F else F else F else F;let M:=if decide (v.kind=A)=true then F else if decide (v.kind=(2:Int))=true then H else if decide (v.kind=(3:Int))=true then F else if decide (v.kind=(4:Int))=true then F else if decide (v.kind=(5:Int))=true then I else if decide (v.kind=(6:Int))=true then K else if decide (v.kind=(7:Int))=true then L else if decide (v.kind=(8:Int))=true then F else F;if decide (v.pkg=[])=true then if decide (v.text=[])=true then if decide (v.kind=A)=true then G else if decide (v.kind=(2:Int))=true then H else if decide (v.kind=(3:Int))=true then if decide (B=C)=true then if decide (E=C)=true then if decide (v.n=C)=true then D/\true=bf v/\D else D/\decide (v.n=A)=bf v/\D else F else F else if decide (v.kind=(4:Int))=true then if decide (B=C)=true then D/\decide (v.n=C)=bf v/\D else F else if decide (v.kind=(5:Int))=true then I else if decide (v.kind=(6:Int))=true then K else if decide (v.kind=(7:Int))=true then L else if decide (v.kind=(8:Int))=true then if decide (B=C)=true then if decide (E=C)=true then if decide (C<=v.n)=true then D/\decide (v.n<=(1000:Int))=bf v/\D else F else F else F else F else M else M:=by
 conv=>zeta
 unfold bf yP sY
 repeat' (first|exact aa (fun _=>?_) (fun _=>?_)|apply aa<;>intro _)
 all_goals (try refine⟨by first|exact trivial|omega,?_⟩)
 all_goals simp_all
 all_goals omega
theorem Cu(n:Nat)(x:Vlu) (ho:szV x<=n/\cA x=true) :
  (szV x<=n/\cA x=true)/\True/\(!allV bf x)=!allV bf x/\True:=by
 exact⟨ho,trivial,by trivial,trivial⟩
theorem Cv(n:Nat)(l:List Vlu) (hl:Wf (.lst (.st .val)) l)(ho:∀x∈l,szV x<=n/\cA x=true) :
  let A:=allV bf;let B:=(0:Nat);let C:=(↑(List.length l):Int);let D:=l=l/\C=C/\True;let E:=dfl (Ty.st SN.val);(∃(x:Nat),(x<=List.length l/\aF A (List.drop x l) x=aF A l B)/\(0:Int)=(↑x:Int)/\D)/\∀(x:Nat),let F:=(↑x:Int);let G:=List.getD l (Int.toNat F) E;x<=List.length l/\aF A (List.drop x l) x=aF A l B->if decide (F<C)=true then((0:Int)<=F/\F<C)/\(szV G<=n/\cA G=true)/\if(!allV bf G)=true then True/\F=aF A l B/\True else inR IntKind.i64 (F+(1:Int))/\∃(y:Nat),(y<=List.length l/\aF A (List.drop y l) y=aF A l B)/\List.length l-y<List.length l-x/\F+(1:Int)=(↑y:Int)/\D else True/\(-1:Int)=aF A l B/\True:=by
 conv=>zeta
 have ln:=hl.len;simp only[Nh];refine⟨⟨0,⟨N2 _,by simp⟩,rfl,by trivial,by trivial,trivial⟩,?_⟩;rintro k ⟨h1,h2⟩;apply aa<;>intro h
 ·replace h:=Xo h;have hk:k<l.length:=by omega
  rw[az l k (dfl (.st .val)) hk,aF]at h2;refine⟨by omega,ho _ (bG l k _ hk),aa (fun c=>?_) (fun c=>?_)⟩
  ·have c:(allV bf) (l.getD k (dfl (.st .val)))=false:=by simpa using c
   rw[c,MS Oc]at h2;rw[<-h2];exact Xr
  ·have c:(allV bf) (l.getD k (dfl (.st .val)))=true:=by simpa using c
   rw[MT c]at h2;refine⟨ba hk ln,k+1,⟨by omega,h2⟩,by omega,by omega,by trivial,by trivial,trivial⟩
 ·replace h:¬((k:Int)<(l.length:Int)):=fun e=>h (Xd e);have e:k=l.length:=by omega
  subst e;rw[Nj,aF]at h2;rw[<-h2];exact Xr
theorem Cw(n:Nat)(l:List Vlu) (ho:∀x∈l,szV x<=n/\cA x=true) :
  (∀(x:Vlu),x∈l->szV x<=n/\cA x=true)/\True/\decide ((0:Int)<=aF (allV bf) l (0:Nat))=!List.all l (allV bf)/\True:=by
 exact⟨ho,trivial,gN (allV bf) l 0,trivial⟩
theorem IA(n:Nat)(l:List Vlu) (ho:∀x∈l,szV x<=n/\cA x=true) :
  (∀(x:Vlu),x∈l->szV x<=n/\cA x=true)/\True/\(!!List.all l (allV bf))=List.all l (allV bf)/\True:=by
 exact⟨ho,trivial,PJ _,trivial⟩
theorem Cx(n:Nat)(v:Vlu)(hs:Wf (.st .val) v)(ho:szV v<=n+1/\cA v=true) :
  List.length v.names*(16:Nat)<=(140737488355328:Nat)/\if bf v=true then(∀(x:Vlu),x∈v.parts->szV x<=n/\cA x=true)/\True/\List.all v.parts (allV bf)=allV bf v/\True else True/\false=allV bf v/\True:=by
 obtain⟨h1,h2⟩:=ho;have hz:=wI v;have e1:=wK bf v;unfold cA at h2;rw[wK,MR,N6]at h2;have h3:=Xo h2.1;rw[e1];refine⟨by omega,aa (fun h=>?_) (fun h=>?_)⟩
 ·rw[h,NH];exact⟨fun x hx=>⟨by have:=qO hx;omega,h2.2 x hx⟩,by repeat' (first|exact trivial|rfl|apply And.intro)⟩
 ·have h:bf v=false:=by simpa using h
  rw[h]
  repeat' (first|exact trivial|rfl|apply And.intro)
theorem FK(v:Vlu)(hs:Wf (.st .val) v)(ho:cA v=true) :
  let A:=True;if(!decide (szV v<=(2000:Nat)))=true then A/\(3:Int)=ow v/\A else if decide ((40:Int)<if szV v<=(2000:Nat)then deepV v (1:Int)else(0:Int))=true then A/\(91:Int)=ow v/\A else(szV v<=(2000:Nat)/\cA v=true)/\if(!allV bf v)=true then A/\(290:Int)=ow v/\A else A/\(0:Int)=ow v/\A:=by
 conv=>zeta
 unfold ow;by_cases h1:szV v<=2000
 ·rw[MS (by simp[h1]),MT h1,MS (show ¬2000<szV v by omega)];by_cases h2:(40:Int)<deepV v 1
  ·rw[MT (by simp[h2]),MT h2];exact Xr
  ·rw[MS (by simp[h2]),MS h2];refine⟨⟨h1,ho⟩,?_⟩;cases allV bf v<;>simp
 ·rw[MT (by simp[h1]),MT (show 2000<szV v by omega)];exact Xr
theorem Kr(s:Option Scp)(o n:Str)(w:Thg)(hs:Wf (.pt .scope) s)(ho:Wf .str o)(hn:Wf .str n) :
  True/\some (Scp.mk o n (Thg.mk (Thg.kind w) (Thg.n w) (Thg.pkg w) (Thg.text w) (Thg.names w) (Thg.parts w) (Thg.fn w)) s)=eC s o n w/\True:=by
 cases w;exact Xr
theorem Ks(s:Option Scp)(o n:Str)(hs:Wf (.pt .scope) s)(ho:Wf .str o)(hn:Wf .str n) :
  let A:=o=o/\n=n/\True;let B:=dfl (Ty.st SN.scope);(∃(x:Option Scp),findF x o n=findF s o n/\s=x/\A)/\∀(x:Option Scp),let C:=Option.getD x B;let D:=Option.isSome x=true/\∃(y:Option Scp),findF y o n=findF s o n/\BR y<BR x/\Scp.rest C=y/\A;let E:=True/\x=findF s o n/\True;findF x o n=findF s o n->if Option.isSome x=true then Option.isSome x=true/\if(!decide (Scp.pkg C=o))=true then D else Option.isSome x=true/\if(!decide (Scp.name C=n))=true then D else E else E:=by
 conv=>zeta
 refine⟨⟨s,rfl,rfl,rfl,rfl,trivial⟩,?_⟩;intro x hx;apply aa<;>intro h
 ·obtain⟨y,rfl⟩:=Nz.1 h;obtain⟨p,m,w,r⟩:=y;refine⟨rfl,aa (fun h1=>?_) (fun h1=>?_)⟩
  ·have h1:¬p=o:=ep h1;refine⟨rfl,r,?_,by rw[vi];exact Nat.lt_succ_self _,rfl,rfl,rfl,trivial⟩;rw[<-hx,km];exact(MS fun q=>h1 q.1).symm
  ·have h1:p=o:=fx h1;refine⟨rfl,aa (fun h2=>?_) (fun h2=>?_)⟩
   ·have h2:¬m=n:=ep h2;refine⟨rfl,r,?_,by rw[vi];exact Nat.lt_succ_self _,rfl,rfl,rfl,trivial⟩;rw[<-hx,km];exact(MS fun q=>h2 q.2).symm
   ·have h2:m=n:=fx h2;refine⟨trivial,?_,trivial⟩;rw[<-hx,km];exact(MT ⟨h1,h2⟩).symm
 ·have hn:x=none:=by simpa using h
  subst hn;exact⟨trivial,by rw[<-hx,BS],trivial⟩
theorem IB(b:Bool)  :
  let A:=(3:Int)=(3:Int);let B:=if b=true then(1:Int)else(0:Int);let C:=oc UInt8=oc UInt8;let D:=C/\C/\oc Str=oc Str/\oc Thg=oc Thg/\(none:Option Fnc)=none/\True;if b=true then True/\A/\((1:Int)=B)/\D else True/\A/\((0:Int)=B)/\D:=by
 conv=>zeta
 apply aa<;>intro h
 ·exact⟨trivial,rfl,(MT h).symm,rfl,rfl,rfl,rfl,rfl,trivial⟩
 ·exact⟨trivial,rfl,(MS h).symm,rfl,rfl,rfl,rfl,rfl,trivial⟩
theorem Kt(e a:Int)  :
  true=true/\e=e/\a=a/\True:=by
 exact Xr
theorem Ku(k:Int)(l:List Thg)(a:Int)(hl:Wf (.lst (.st .thing)) l) :
  let A:=(↑(List.length l):Int);let B:=k=k/\l=l/\a=a/\l=l/\A=A/\True;(∃(x:Nat),(x<=List.length l/\eH k (List.take x l)=true)/\(0:Int)=(↑x:Int)/\B)/\∀(x:Nat),let C:=(↑x:Int);x<=List.length l/\eH k (List.take x l)=true->if decide (C<A)=true then((0:Int)<=C/\C<A)/\if(!decide (Thg.kind (List.getD l (Int.toNat C) (dfl (Ty.st SN.thing)))=k))=true then(!eH k l)=true/\(291:Int)=(291:Int)/\a=a/\True else inR IntKind.i64 (C+(1:Int))/\∃(y:Nat),(y<=List.length l/\eH k (List.take y l)=true)/\List.length l-y<List.length l-x/\C+(1:Int)=(↑y:Int)/\B else(!eH k l)=false/\True:=by
 conv=>zeta
 have ln:=hl.len;refine⟨⟨0,⟨N2 _,rfl⟩,(by repeat' (first|exact trivial|rfl|apply And.intro))⟩,?_⟩;rintro x ⟨h1,h2⟩;simp only[Nh];apply aa<;>intro h
 ·have hx:x<l.length:=by have:=Xo h;omega
  refine⟨by omega,aa (fun hk=>?_) (fun hk=>?_)⟩
  ·have hk:¬(l.getD x (dfl (Ty.st SN.thing))).kind=k:=by simpa using hk
   refine⟨?_,(by repeat' (first|exact trivial|rfl|apply And.intro))⟩
   cases hq:eH k l with|false=>rfl|true=>exact absurd (Xo (N6.1 hq _ (bG l x (dfl (Ty.st SN.thing)) hx))) hk
  ·have hk:(l.getD x (dfl (Ty.st SN.thing))).kind=k:=by simpa using hk
   refine⟨ba hx ln,x+1,⟨by omega,?_⟩,by omega,by omega,(by repeat' (first|exact trivial|rfl|apply And.intro))⟩;rw[eh l x (dfl (Ty.st SN.thing)) hx];unfold eH at h2⊢;rw[List.all_append,h2];simp only[Ny,Q3,Ql,NH];exact Xd hk
 ·have e:x=l.length:=by have q:¬_:=fun q=>h (Xd q);omega
  subst e;rw[Ob]at h2;exact⟨by rw[h2];rfl,trivial⟩
theorem IC(nm:Str)(l:List Thg)(a:Int)(hnm:Wf .str nm)(hl:Wf (.lst (.st .thing)) l)(ha:Wf (.int .i64) a)(ho:(gj nm l a).isSome=true) :
  let A:=dy (gj nm l a);let B:=(0:Int);let C:=!decide (A.f.err=B);let D:=True;let E:=a=A.f.pos/\D;let F:=C=true/\(291:Int)=A.f.err/\E;let G:=(↑(List.length l):Int);let H:=B<=B/\B<G;let I:=C=false;let J:=dfl (Ty.st SN.thing);let K:=List.getD l (Int.toNat B) J;let L:=(1:Int);let M:=B<=L/\L<G;let N:=List.getD l (Int.toNat L) J;let O:=Thg.n K+Thg.n N;let P:=(2:Int);let Q:=if(!eH (3:Int) l)=true then F else if decide (nm=([110,111,116]:Str))=true then H/\I/\pw (decide (Thg.n K=B))=A.v/\D else H/\M/\I/\pw (decide (IntKind.wrap IntKind.i64 O=P))=A.v/\D;let R:=L=Thg.kind A.v;let S:=(↑(List.length (Thg.text K)):Int);let T:=[]=Thg.pkg A.v;let U:=Thg.names A.v=[]/\Thg.parts A.v=[]/\Thg.fn A.v=none/\D;let V:=T/\[]=Thg.text A.v/\U;let W:=(↑(List.length (Thg.text N)):Int);let X:=P=Thg.kind A.v;let Y:=if(!eH P l)=true then F else if decide (nm=([115,105,122,101]:Str))=true then H/\I/\R/\S=Thg.n A.v/\V else H/\M/\inR IntKind.i64 (S+W)/\if decide ((4096:Int)<S+W)=true then C=true/\(3:Int)=A.f.err/\E else H/\M/\List.length (Thg.text K)+List.length (Thg.text N)<=(9223372036854775807:Nat)/\I/\X/\B=Thg.n A.v/\T/\Thg.text K++Thg.text N=Thg.text A.v/\U;if decide (nm=([110,111,116]:Str))=true then Q else if decide (nm=([98,111,116,104]:Str))=true then Q else if decide (nm=([99,97,116]:Str))=true then Y else if decide (nm=([115,105,122,101]:Str))=true then Y else if(!eH L l)=true then F else H/\if decide (nm=([115,104,111,119]:Str))=true then((10:Int)=(10:Int)/\List.length (Lib.itoa (Thg.n K))<=(1000:Nat))/\I/\X/\B=Thg.n A.v/\T/\Lib.itoa (Thg.n K)=Thg.text A.v/\U else M/\if decide (nm=([97,100,100]:Str))=true then I/\R/\IntKind.wrap IntKind.i64 O=Thg.n A.v/\V else if decide (nm=([115,117,98]:Str))=true then I/\R/\IntKind.wrap IntKind.i64 (Thg.n K-Thg.n N)=Thg.n A.v/\V else if decide (nm=([109,117,108]:Str))=true then I/\R/\IntKind.wrap IntKind.i64 (Thg.n K*Thg.n N)=Thg.n A.v/\V else if decide (nm=([108,101,115,115]:Str))=true then I/\pw (decide (Thg.n K<Thg.n N))=A.v/\D else I/\pw (decide (Thg.n K=Thg.n N))=A.v/\D:=by
 conv=>zeta
 obtain⟨e,he⟩:=Nz.1 ho;simp only[he,dy];have hne:l≠[]:=by rintro rfl;simp[gj]at he
 have h0:(0:Int)<(l.length:Int):=by have:=Oo.2 hne;omega
 unfold gj at he;rw[MS hne]at he;apply aa<;>intro h
 ·rw[MT (Xo h)]at he;apply aa<;>intro hk
  ·cases lH he hk;exact Xr
  refine aa (fun _=>?_) (fun h'=>absurd h h');cases cZ (jv he hk);exact⟨⟨by omega,h0⟩,rfl,rfl,trivial⟩
 have hn:=h;rw[MS (fun q=>h (Xd q))]at he;apply aa<;>intro h
 ·rw[MT (Xo h)]at he;apply aa<;>intro hk
  ·cases lH he hk;exact Xr
  refine aa (fun h'=>absurd h' hn) (fun _=>?_);obtain⟨q,h2⟩:=wH (jv he hk);cases cZ q;exact⟨⟨by omega,h0⟩,⟨by omega,h2⟩,rfl,rfl,trivial⟩
 rw[MS (fun q=>h (Xd q))]at he;have size:∀{r:Option Ev},(ju 2 l a (okE (BQ (tH0 l).length) 0)=some e)->nm=[115,105,122,101]->True:=fun _ _=>trivial;apply aa<;>intro h
 ·rw[MT (Xo h)]at he;apply aa<;>intro hk
  ·cases lH he hk;exact Xr
  refine aa (fun h'=>?_) (fun _=>?_)
  ·have e1:=Xo h;rw[e1]at h';exact absurd (Xo h') (by decide)
  obtain⟨q,h2⟩:=wH (jv he hk);unfold LB at q;split at q
  ·cases q
  rename_i hb;have b1:(tH0 l).length<=1000000000000000000:=by omega
  have b2:(tH1 l).length<=1000000000000000000:=by omega
  refine⟨⟨by omega,h0⟩,⟨by omega,h2⟩,aD (by show(-9223372036854775808:Int)<=((tH0 l).length:Int)+((tH1 l).length:Int);omega) (by show((tH0 l).length:Int)+((tH1 l).length:Int)<=9223372036854775807;omega),aa (fun hc=>?_) (fun hc=>?_)⟩
  ·have hc:(4096:Int)<((tH0 l).length:Int)+((tH1 l).length:Int):=Xo hc;rw[MT (by omega)]at q;cases cH q;exact Xr
  ·have hc:¬(4096:Int)<((tH0 l).length:Int)+((tH1 l).length:Int):=fun x=>hc (Xd x);rw[MS (by omega)]at q;cases cZ q;exact⟨⟨by omega,h0⟩,⟨by omega,h2⟩,(by show(tH0 l).length+(tH1 l).length<=_;omega),rfl,rfl,rfl,rfl,rfl,rfl,rfl,rfl,trivial⟩
 rw[MS (fun q=>h (Xd q))]at he;apply aa<;>intro h
 ·rw[MT (Xo h)]at he;apply aa<;>intro hk
  ·cases lH he hk;exact Xr
  refine aa (fun _=>?_) (fun h'=>absurd h h');cases cZ (jv he hk);exact⟨⟨by omega,h0⟩,rfl,rfl,rfl,rfl,rfl,rfl,rfl,rfl,trivial⟩
 rw[MS (fun q=>h (Xd q))]at he;apply aa<;>intro hk
 ·cases lH he hk;exact Xr
 have q:=jv he hk;unfold K0 at q;refine⟨⟨by omega,h0⟩,aa (fun h=>?_) (fun h=>?_)⟩
 ·rw[MT (Xo h)]at q;split at q
  ·cases q
  rename_i hb;cases cZ q;exact⟨⟨trivial,by show(Lib.itoa (nH0 l)).length<=1000;omega⟩,rfl,rfl,rfl,rfl,rfl,rfl,rfl,rfl,trivial⟩
 rw[MS (fun x=>h (Xd x))]at q;obtain⟨q,h2⟩:=wH q;refine⟨⟨by omega,h2⟩,?_⟩;have q:=cZ q;apply aa<;>intro h
 ·rw[MT (Xo h)]at q;cases q;exact Xr
 rw[MS (fun x=>h (Xd x))]at q;apply aa<;>intro h
 ·rw[MT (Xo h)]at q;cases q;exact Xr
 rw[MS (fun x=>h (Xd x))]at q;apply aa<;>intro h
 ·rw[MT (Xo h)]at q;cases q;exact Xr
 rw[MS (fun x=>h (Xd x))]at q;apply aa<;>intro h
 ·rw[MT (Xo h)]at q;cases q;exact Xr
 rw[MS (fun x=>h (Xd x))]at q;cases q;exact Xr
theorem Kv(n:Nat)(l:List Trm)(p:Plc)(st mo:Int)(hl:Wf (.lst (.st .term)) l)(hp:Wf (.st .plc) p)(ho:(bn (fun x=>ao mo n x p) l st).isSome=true) :
  let A:=(0:Int);let B:=(↑(List.length l):Int);let C:=(fun(y:Trm)=>ao mo n y p);let D:=mo=mo/\p=p/\True;let E:=dfl (Ty.st SN.term);let F:=Fa (bn C l st);let G:=!decide (F.f.err=A);let H:=mo=mo/\True;(A<=B/\B*(↑(104:Nat):Int)<=(140737488355328:Int))/\(∃(x:Nat×List Thg×Int),(x.1<=List.length l/\List.length x.2.1=x.1/\gS C (List.drop x.1 l) x.2.1 x.2.2=bn C l st)/\A=(↑x.1:Int)/\[]=x.2.1/\l=l/\p=p/\B=B/\(0:Nat)=List.length x.2.1/\st=x.2.2/\D)/\∀(x:Nat×List Thg×Int),let I:=(↑x.1:Int);let J:=List.getD l (Int.toNat I) E;let K:=ao mo n J p x.2.2;let L:=dy K;x.1<=List.length l/\List.length x.2.1=x.1/\gS C (List.drop x.1 l) x.2.1 x.2.2=bn C l st->if decide (I<B)=true then(A<=I/\I<B)/\(Option.isSome (some J)=true/\Option.isSome K=true)/\if(!decide (L.f.err=A))=true then G=true/\L.f.err=F.f.err/\L.f.pos=F.f.pos/\L.st=F.st/\H else(List.length x.2.1=List.length x.2.1/\(List.length x.2.1+List.length [L.v])*(104:Nat)<=(140737488355328:Nat))/\inR IntKind.i64 (I+(1:Int))/\∃(y:Nat×List Thg×Int),(y.1<=List.length l/\List.length y.2.1=y.1/\gS C (List.drop y.1 l) y.2.1 y.2.2=bn C l st)/\List.length l-y.1<List.length l-x.1/\I+(1:Int)=(↑y.1:Int)/\x.2.1++[L.v]=y.2.1/\l=l/\p=p/\B=B/\List.length (x.2.1++[L.v])=List.length y.2.1/\L.st=y.2.2/\D else G=false/\x.2.1=F.vs/\x.2.2=F.st/\H:=by
 conv=>zeta
 have ln:=hl.len;obtain⟨e,he⟩:=Nz.1 ho
 have hb:l.length<=1000000:=by
  unfold bn at he;split at he
  ·cases he
  ·omega
 have hp0:gS (fun x=>ao mo n x p) l [] st=some e:=by unfold bn at he;rw[MS (by omega)]at he;exact he
 simp only[he,Fa,Nh];refine⟨⟨by omega,by omega⟩,⟨(0,[],st),⟨N2 _,rfl,by rw[Ot];exact hp0⟩,(by repeat' (first|exact trivial|rfl|apply And.intro))⟩,?_⟩;rintro⟨k,out,s'⟩ ⟨h1,h2,h3⟩;simp only at h1 h2 h3⊢;apply aa<;>intro h
 ·have hk:k<l.length:=by have:=Xo h;omega
  rw[az l k (dfl (Ty.st SN.term)) hk]at h3;simp only[gS]at h3
  obtain⟨v,hv⟩:∃v,ao mo n (l.getD k (dfl (Ty.st SN.term))) p s'=some v:=by
   cases q:ao mo n (l.getD k (dfl (Ty.st SN.term))) p s' with
   |none=>rw[q]at h3;cases h3
   |some v=>exact⟨v,rfl⟩
  ·rw[hv]at h3;simp only at h3;simp only[hv,dy];refine⟨⟨by omega,by omega⟩,⟨rfl,rfl⟩,aa (fun hc=>?_) (fun hc=>?_)⟩
   ·have hc':¬v.f.err=0:=by simpa using hc
    rw[MS hc']at h3;cases h3;exact⟨hc,(by repeat' (first|exact trivial|rfl|apply And.intro))⟩
   ·have hc':v.f.err=0:=by simpa using hc
    rw[MT hc']at h3;refine⟨⟨trivial,by simp only[NJ];omega⟩,ba hk ln,(k+1,out++[v.v],v.st),⟨by omega,by simp[h2],h3⟩,by simp only;omega,by simp only;omega,(by repeat' (first|exact trivial|rfl|apply And.intro))⟩
 ·have e1:k=l.length:=by have q:¬_:=fun q=>h (Xd q);omega
  subst e1;rw[Nj]at h3;simp only[gS]at h3;cases h3;exact(by repeat' (first|exact trivial|rfl|apply And.intro))
theorem ID(n:Nat)(t:Trm)(l:List Thg)(st mo:Int)(ht:Wf (.st .term) t)(hl:Wf (.lst (.st .thing)) l)(ho:(fO (ao mo n) mo t.pos l st).isSome=true) :
  let A:=(0:Int);let B:=(↑(List.length l):Int);let C:=Option.isSome (some t)=true;let D:=dy (fO (ao mo n) mo t.pos l st);let E:=!decide (D.f.err=A);let F:=E=true;let G:=mo=mo/\True;let H:=t.pos=D.f.pos/\st=D.st/\G;let I:=C/\F/\(291:Int)=D.f.err/\H;let J:=BT l=true;let K:=(1:Int);let L:=fcn l;let M:=st+K;let N:=Fnc.body L;let O:=gj (Fnc.basic L) (List.drop (Int.toNat K) (List.take (Int.toNat B) l)) t.pos;let P:=dy O;let Q:=st+K=D.st/\G;let R:=Fnc.names L;let S:=(1:Nat);let T:=Fnc.scp L;let U:=List.drop S l;let V:=some t=some t;let W:=dfl (Ty.st SN.thing);let X:=List.getD l (Int.toNat A) W;let Y:=Thg.fn X=Thg.fn X;let Z:=false=false;let a:=Fnc.names L=Fnc.names L;let b:=(↑(List.length R):Int);let c:=oc UInt8=oc UInt8;let d:=Fnc.self L=Fnc.self L/\st+K=st+K/\mo=mo/\A=A/\A=A/\c/\c/\True;let e:=Option.getD N default;(A<=A/\A<B)/\if Hy l=true then I else J/\inR IntKind.i64 (B-K)/\if(!decide (Fnc.args L=B-K))=true then I else if decide (st=mo)=true then C/\F/\(292:Int)=D.f.err/\H else inR IntKind.i64 M/\J/\if Option.isNone N=true then J/\(A<=K/\K<=B/\B<=B)/\C/\Option.isSome O=true/\if(!decide (P.f.err=A))=true then F/\P.f.err=D.f.err/\P.f.pos=D.f.pos/\Q else E=false/\P.v=D.v/\Q else J/\J/\(∃(x:Nat×Option Scp),(x.1<=List.length R/\da x.2 (List.drop x.1 R) (List.drop (x.1+S) l)=da T R U)/\A=(↑x.1:Int)/\V/\l=l/\Y/\Z/\Z/\Z/\a/\b=b/\Fnc.scp L=x.2/\d)/\∀(x:Nat×Option Scp),let g:=(↑x.1:Int);let h:=inR IntKind.i64 (g+K);let i:=(ao mo n e {scp:=x.2,self:=Fnc.self L:Plc} M);let j:=dy i;let k:=j.st=D.st/\G;x.1<=List.length R/\da x.2 (List.drop x.1 R) (List.drop (x.1+S) l)=da T R U->if decide (g<b)=true then(A<=g/\g<b)/\h/\(A<=g+K/\g+K<B)/\h/\∃(y:Nat×Option Scp),(y.1<=List.length R/\da y.2 (List.drop y.1 R) (List.drop (y.1+S) l)=da T R U)/\List.length R-y.1<List.length R-x.1/\g+K=(↑y.1:Int)/\V/\l=l/\Y/\Z/\Z/\Z/\a/\b=b/\eC x.2 [] (List.getD R (Int.toNat g) (dfl Ty.str)) (List.getD l (Int.toNat (g+K)) W)=y.2/\d else J/\(Option.isSome N=true/\Option.isSome i=true)/\if(!decide (j.f.err=A))=true then F/\j.f.err=D.f.err/\j.f.pos=D.f.pos/\k else E=false/\j.v=D.v/\k:=by
 conv=>zeta
 have ln:=hl.len;obtain⟨e,he⟩:=Nz.1 ho;have e1:List.drop (Int.toNat (1:Int)) (List.take (Int.toNat (l.length:Int)) l)=l.drop 1:=by simp
 simp only[he,bV,e1];unfold fO at he;split at he
 ·cases he
 rename_i h0
 have hst:nC mo st:=by
  by_cases q:nC mo st
  ·exact q
  ·exact absurd (.inl q) h0
 obtain⟨s0,s1,s2⟩:=hst
 have hlen:0<l.length:=by
  rcases Ox l.length with q|q
  ·exact absurd (.inr (.inl q)) h0
  ·exact q
 have hbig:l.length<=1000000:=by
  rcases MY 1000000 l.length with q|q
  ·exact absurd (.inr (.inr q)) h0
  ·exact q
 refine⟨⟨by omega,by omega⟩,aa (fun hf=>?_) (fun hf=>?_)⟩
 ·rw[MS (fun q=>by rw[LC hf]at q;exact absurd q.1 (by decide))]at he;cases cH he;exact(by repeat' (first|exact trivial|rfl|apply And.intro))
 have hF:=LD hf;refine⟨hF,aD (by omega) (by omega),aa (fun hc=>?_) (fun hc=>?_)⟩
 ·rw[MS (fun q=>ep hc q.2)]at he;cases cH he;exact(by repeat' (first|exact trivial|rfl|apply And.intro))
 rw[MT ⟨hF,fx hc⟩]at he;apply aa<;>intro hs
 ·rw[MT (Xo hs)]at he;cases cH he;exact(by repeat' (first|exact trivial|rfl|apply And.intro))
 have hs':¬st=mo:=fun q=>hs (Xd q);rw[MS hs']at he;unfold kG at he;refine⟨aD (by omega) (by omega),hF,aa (fun hb=>?_) (fun hb=>?_)⟩
 ·have hb:(fcn l).body=none:=by simpa using hb
  rw[hb]at he;simp only at he;obtain⟨v,hv⟩:=eZ (r:=gj (fcn l).basic (l.drop 1) t.pos) (fun q=>by rw[q]at he;cases he);rw[hv]at he;cases he;simp only[hv,bV];refine⟨hF,⟨by omega,by omega,by omega⟩,rfl,rfl,aa (fun q=>?_) (fun q=>?_)⟩
  ·exact⟨q,(by repeat' (first|exact trivial|rfl|apply And.intro))⟩
  ·exact⟨by simpa using q,(by repeat' (first|exact trivial|rfl|apply And.intro))⟩
 obtain⟨b,hb⟩:=eZ (r:=(fcn l).body) (fun q=>hb (by rw[q];rfl));rw[hb]at he;simp only at he;obtain⟨sc,hsc⟩:=eZ (r:=da (fcn l).scp (fcn l).names (l.drop 1)) (fun q=>by rw[q]at he;cases he);rw[hsc]at he;simp only at he;simp only[hsc,Nh];refine⟨hF,hF,⟨(0,(fcn l).scp),⟨N2 _,by rw[Ot];exact hsc⟩,(by repeat' (first|exact trivial|rfl|apply And.intro))⟩,?_⟩;rintro⟨k,s'⟩ ⟨h1,h2⟩;simp only at h1 h2⊢
 have hkl:∀k s',da s' ((fcn l).names.drop k) (l.drop (k+1))=some sc->k<(fcn l).names.length->k+1<l.length/\da (eC s' [] ((fcn l).names.getD k (dfl Ty.str)) (l.getD (k+1) (dfl (Ty.st SN.thing)))) ((fcn l).names.drop (k+1)) (l.drop (k+2))=some sc:=by
  intro k s' h hk;rw[az (fcn l).names k (dfl Ty.str) hk]at h
  have hl2:k+1<l.length:=by
   rcases MY (k+1) l.length with q|q
   ·exact q
   ·rw[PE q]at h;cases h
  refine⟨hl2,?_⟩;rw[az l (k+1) (dfl (Ty.st SN.thing)) hl2]at h;exact h
 apply aa<;>intro h
 ·have hk:k<(fcn l).names.length:=by have:=Xo h;omega
  obtain⟨g1,g2⟩:=hkl k s' h2 hk;have e2:Int.toNat ((k:Int)+1)=k+1:=by omega
  simp only[e2];exact⟨⟨by omega,by omega⟩,aD (by omega) (by omega),⟨by omega,by omega⟩,aD (by omega) (by omega),(k+1,eC s' [] ((fcn l).names.getD k (dfl Ty.str)) (l.getD (k+1) (dfl (Ty.st SN.thing)))),⟨by simp only;omega,g2⟩,by simp only;omega,by simp only;omega,(by repeat' (first|exact trivial|rfl|apply And.intro))⟩
 ·have e1:k=(fcn l).names.length:=by have q:¬_:=fun q=>h (Xd q);omega
  subst e1;rw[Nj]at h2;have h2:s'=sc:=Nk h2;subst h2;have hb2:Option.getD (some b) default=b:=rfl;simp only[hb,hb2,he,bV];exact⟨hF,⟨rfl,rfl⟩,aa (fun q=>⟨q,(by repeat' (first|exact trivial|rfl|apply And.intro))⟩) (fun q=>⟨by simpa using q,(by repeat' (first|exact trivial|rfl|apply And.intro))⟩)⟩
theorem Cy(n:Nat)(t:Trm)(p:Plc)(st mo:Int)(ht:Wf (.st .term) t)(hp:Wf (.st .plc) p)(ho:(gr (ao mo n) t p st).isSome=true) :
  let A:=Option.isSome (some t)=true;let B:=(0:Int);let C:=(↑(List.length t.parts):Int);let D:=Int.toNat B;let E:=dfl (Ty.st SN.term);let F:=List.getD t.parts D E;let G:=ao mo n F p st;let H:=dy G;let I:=dy (gr (ao mo n) t p st);let J:=!decide (I.f.err=B);let K:=J=true;let L:=mo=mo/\True;let M:=H.st=I.st/\L;let N:=A/\K/\(291:Int)=I.f.err/\t.pos=I.f.pos/\M;let O:=Thg.names H.v;let P:=Thg.parts H.v;let Q:=(↑(List.length P):Int);let R:=J=false;let S:=dfl (Ty.st SN.thing);let T:=(2:Int);let U:=T-Thg.n H.v;let V:=List.getD t.parts (Int.toNat U) E;let W:=ao mo n V p H.st;let X:=dy W;let Y:=X.st=I.st/\L;let Z:=Thg.text H.v;let a:=(1:Int);let b:=bj t.names Z B+a;let c:=B<=B/\B<Q;let d:=List.getD t.parts (Int.toNat b) E;let e:=(ao mo n d {scp:=eC p.scp [] (List.getD t.vars (Int.toNat (bj t.names Z B)) (dfl Ty.str)) (List.getD P D S),self:=p.self:Plc} H.st);let g:=dy e;let h:=g.st=I.st/\L;A/\(B<=B/\B<C)/\(Option.isSome (some F)=true/\Option.isSome G=true)/\if(!decide (H.f.err=B))=true then K/\H.f.err=I.f.err/\H.f.pos=I.f.pos/\M else A/\if decide (t.kind=(9:Int))=true then A/\if(!decide (Thg.kind H.v=(5:Int)))=true then N else if decide (bj O t.name B<B)=true then N else(B<=bj O t.name B/\bj O t.name B<Q)/\R/\List.getD P (Int.toNat (bj O t.name B)) S=I.v/\M else if decide (t.kind=(12:Int))=true then if(!decide (Thg.kind H.v=(3:Int)))=true then N else A/\inR IntKind.i64 U/\(B<=T-Thg.n H.v/\T-Thg.n H.v<C)/\(Option.isSome (some V)=true/\Option.isSome W=true)/\if(!decide (X.f.err=B))=true then K/\X.f.err=I.f.err/\X.f.pos=I.f.pos/\Y else R/\X.v=I.v/\Y else if decide (t.kind=(13:Int))=true then A/\if(!decide (Thg.kind H.v=(6:Int)))=true then N else if decide (bj t.names Z B<B)=true then N else A/\inR IntKind.i64 b/\(B<=bj t.names Z B+a/\bj t.names Z B+a<C)/\A/\(B<=bj t.names Z B/\bj t.names Z B<(↑(List.length t.vars):Int))/\c/\(Option.isSome (some d)=true/\Option.isSome e=true)/\if(!decide (g.f.err=B))=true then K/\g.f.err=I.f.err/\g.f.pos=I.f.pos/\h else R/\g.v=I.v/\h else if(!decide (Thg.kind H.v=(7:Int)))=true then N else if(!decide (Thg.pkg H.v=p.self))=true then N else A/\if(!decide (Thg.text H.v=t.name))=true then N else c/\R/\List.getD P D S=I.v/\M:=by
 conv=>zeta
 have lp:=(Wf.term_parts ht).len;obtain⟨e,he⟩:=Nz.1 ho;simp only[he,bV];unfold gr fT at he;split at he
 ·cases he
 rename_i hl;obtain⟨x,hx⟩:=eZ (r:=ao mo n (lI t 0) p st) (fun q=>by rw[q]at he;cases he);rw[hx]at he;simp only[oq]at he;have hx':ao mo n (List.getD t.parts (Int.toNat (0:Int)) (dfl (Ty.st SN.term))) p st=some x:=hx;simp only[hx',bV];refine⟨rfl,⟨by omega,by omega⟩,⟨rfl,rfl⟩,aa (fun hc=>?_) (fun hc=>?_)⟩
 ·rw[MS (ep hc)]at he;cases he;exact⟨hc,(by repeat' (first|exact trivial|rfl|apply And.intro))⟩
 rw[MT (fx hc)]at he;unfold lJ at he;refine⟨rfl,aa (fun hk=>?_) (fun hk=>?_)⟩
 ·rw[MT (Xo hk)]at he;unfold sV at he;refine⟨rfl,aa (fun h1=>?_) (fun h1=>?_)⟩
  ·rw[MS (fun q=>ep h1 q.1)]at he;cases cH he;exact(by repeat' (first|exact trivial|rfl|apply And.intro))
  apply aa<;>intro h2
  ·have h2:=Xo h2;rw[MS (fun q=>by have:=q.2;omega)]at he;cases cH he;exact(by repeat' (first|exact trivial|rfl|apply And.intro))
  have h2:¬bj x.v.names t.name 0<0:=fun q=>h2 (Xd q);rw[MT ⟨fx h1,by omega⟩]at he;split at he
  ·cases he
  cases cZ he;exact⟨⟨by omega,by omega⟩,(by repeat' (first|exact trivial|rfl|apply And.intro))⟩
 rw[MS (fun q=>hk (Xd q))]at he;apply aa<;>intro hk
 ·rw[MT (Xo hk)]at he;unfold ifE at he;apply aa<;>intro h1
  ·rw[MS (ep h1)]at he;cases cH he;exact(by repeat' (first|exact trivial|rfl|apply And.intro))
  rw[MT (fx h1)]at he;split at he
  case isFalse=>cases he
  rename_i h2;unfold fT at he;split at he
  ·cases he
  have he':ao mo n (List.getD t.parts (Int.toNat (2-x.v.n)) (dfl (Ty.st SN.term))) p x.st=some e:=he;simp only[he',bV];exact⟨rfl,aD (by omega) (by omega),⟨by omega,by omega⟩,⟨rfl,rfl⟩,aa (fun q=>⟨q,(by repeat' (first|exact trivial|rfl|apply And.intro))⟩) (fun q=>⟨by simpa using q,(by repeat' (first|exact trivial|rfl|apply And.intro))⟩)⟩
 rw[MS (fun q=>hk (Xd q))]at he;apply aa<;>intro hk
 ·rw[MT (Xo hk)]at he;unfold sX at he;refine⟨rfl,aa (fun h1=>?_) (fun h1=>?_)⟩
  ·rw[MS (fun q=>ep h1 q.1)]at he;cases cH he;exact(by repeat' (first|exact trivial|rfl|apply And.intro))
  apply aa<;>intro h2
  ·have h2:=Xo h2;rw[MS (fun q=>by have:=q.2;omega)]at he;cases cH he;exact(by repeat' (first|exact trivial|rfl|apply And.intro))
  have h2:¬bj t.names x.v.text 0<0:=fun q=>h2 (Xd q);rw[MT ⟨fx h1,by omega⟩]at he;unfold sW at he;split at he
  ·cases he
  rename_i h3;unfold fT at he;split at he
  ·cases he
  have e2:Int.toNat (bj t.names x.v.text 0+1)=(bj t.names x.v.text 0).toNat+1:=by omega
  have he':ao mo n (List.getD t.parts ((bj t.names x.v.text 0).toNat+1) (dfl (Ty.st SN.term))) ⟨eC p.scp [] (List.getD t.vars (bj t.names x.v.text 0).toNat (dfl Ty.str)) (List.getD x.v.parts (Int.toNat (0:Int)) (dfl (Ty.st SN.thing))),p.self⟩ x.st=some e:=he;simp only[e2,he',bV];exact⟨rfl,aD (by omega) (by omega),⟨by omega,by omega⟩,rfl,⟨by omega,by omega⟩,⟨by omega,by omega⟩,⟨rfl,rfl⟩,aa (fun q=>⟨q,(by repeat' (first|exact trivial|rfl|apply And.intro))⟩) (fun q=>⟨by simpa using q,(by repeat' (first|exact trivial|rfl|apply And.intro))⟩)⟩
 rw[MS (fun q=>hk (Xd q))]at he;unfold Hz at he;apply aa<;>intro h1
 ·rw[MS (fun q=>ep h1 q.1)]at he;cases cH he;exact(by repeat' (first|exact trivial|rfl|apply And.intro))
 apply aa<;>intro h2
 ·rw[MS (fun q=>ep h2 q.2.1)]at he;cases cH he;exact(by repeat' (first|exact trivial|rfl|apply And.intro))
 refine⟨rfl,aa (fun h3=>?_) (fun h3=>?_)⟩
 ·rw[MS (fun q=>ep h3 q.2.2)]at he;cases cH he;exact(by repeat' (first|exact trivial|rfl|apply And.intro))
 rw[MT ⟨fx h1,fx h2,fx h3⟩]at he;split at he
 ·cases he
 cases cZ he;exact⟨⟨by omega,by omega⟩,(by repeat' (first|exact trivial|rfl|apply And.intro))⟩
theorem IE(n:Nat)(t:Trm)(p:Plc)(st mo:Int)(ht:Wf (.st .term) t)(hp:Wf (.st .plc) p)(ho:(ao mo (n+1) t p st).isSome=true) :
  let A:=Option.isSome (some t)=true;let B:=(1:Int);let C:=(dy (ao mo (n+(1:Nat)) t p st));let D:=(0:Int);let E:=!decide (C.f.err=D);let F:=E=false;let G:=[]=Thg.pkg C.v;let H:=[]=Thg.text C.v;let I:=Thg.names C.v=[];let J:=Thg.parts C.v=[];let K:=Thg.fn C.v=none;let L:=mo=mo/\True;let M:=st=C.st/\L;let N:=I/\J/\K/\M;let O:=D=Thg.n C.v;let P:=t.name=Thg.text C.v;let Q:=A/\F/\pw (decide (t.kind=(3:Int)))=C.v/\M;let R:=findF p.scp t.pkg t.name;let S:=E=true;let T:=(↑(List.length t.parts):Int);let U:=D<=D/\D<T;let V:=dfl (Ty.st SN.term);let W:=List.getD t.parts (Int.toNat D) V;let X:=(bn (fun(x:Trm)=>ao mo n x p) t.parts st);let Y:=Option.isSome X=true;let Z:=Fa X;let a:=Z.st=C.st/\L;let b:=S/\Z.f.err=C.f.err/\Z.f.pos=C.f.pos/\a;let c:=fO (ao mo n) mo t.pos Z.vs Z.st;let d:=dy c;let e:=d.st=C.st/\L;let g:=Z.vs=Thg.parts C.v/\K/\a;let h:=ao mo n W p st;let i:=Option.isSome (some W)=true/\Option.isSome h=true;let j:=dy h;let k:=j.st=C.st/\L;let l:=S/\j.f.err=C.f.err/\j.f.pos=C.f.pos/\k;let m:=List.getD t.parts (Int.toNat B) V;let o:=(ao mo n m {scp:=eC p.scp [] t.name j.v,self:=p.self:Plc} j.st);let q:=dy o;let r:=q.st=C.st/\L;let s:=gr (ao mo n) t p st;let u:=dy s;let w:=u.st=C.st/\L;A/\if decide (t.kind=B)=true then A/\F/\B=Thg.kind C.v/\t.n=Thg.n C.v/\G/\H/\N else if decide (t.kind=(2:Int))=true then A/\F/\(2:Int)=Thg.kind C.v/\O/\G/\P/\N else if decide (t.kind=(3:Int))=true then Q else if decide (t.kind=(4:Int))=true then Q else if decide (t.kind=(5:Int))=true then A/\A/\if Option.isNone R=true then A/\S/\(110:Int)=C.f.err/\t.pos=C.f.pos/\M else Option.isSome R=true/\F/\Scp.what (Option.getD R (dfl (Ty.st SN.scope)))=C.v/\M else if decide (t.kind=(6:Int))=true then A/\A/\U/\A/\F/\(8:Int)=Thg.kind C.v/\O/\G/\H/\I/\J/\some (Fnc.mk p.scp p.self t.names (some W) [] (↑(List.length t.names):Int))=Thg.fn C.v/\M else if decide (t.kind=(7:Int))=true then A/\Y/\if(!decide (Z.f.err=D))=true then b else Option.isSome c=true/\if(!decide (d.f.err=D))=true then S/\d.f.err=C.f.err/\d.f.pos=C.f.pos/\e else F/\d.v=C.v/\e else if decide (t.kind=(8:Int))=true then A/\A/\Y/\if(!decide (Z.f.err=D))=true then b else F/\(5:Int)=Thg.kind C.v/\O/\G/\H/\t.names=Thg.names C.v/\g else if decide (t.kind=(10:Int))=true then A/\A/\Y/\if(!decide (Z.f.err=D))=true then b else F/\(6:Int)=Thg.kind C.v/\O/\G/\P/\I/\g else if decide (t.kind=(11:Int))=true then A/\Y/\if(!decide (Z.f.err=D))=true then b else F/\(4:Int)=Thg.kind C.v/\O/\G/\H/\I/\g else if decide (t.kind=(15:Int))=true then A/\U/\i/\if(!decide (j.f.err=D))=true then l else F/\j.v=C.v/\k else if decide (t.kind=(16:Int))=true then A/\A/\Y/\if(!decide (Z.f.err=D))=true then b else F/\(7:Int)=Thg.kind C.v/\O/\p.self=Thg.pkg C.v/\P/\I/\g else if decide (t.kind=(14:Int))=true then A/\U/\i/\if(!decide (j.f.err=D))=true then l else A/\(D<=B/\B<T)/\A/\(Option.isSome (some m)=true/\Option.isSome o=true)/\if(!decide (q.f.err=D))=true then S/\q.f.err=C.f.err/\q.f.pos=C.f.pos/\r else F/\q.v=C.v/\r else(A/\Option.isSome s=true)/\if(!decide (u.f.err=D))=true then S/\u.f.err=C.f.err/\u.f.pos=C.f.pos/\w else F/\u.v=C.v/\w:=by
 conv=>zeta
 have lp:=(Wf.term_parts ht).len;obtain⟨e,he⟩:=Nz.1 ho;simp only[he,bV];simp only[ao]at he;split at he
 case isFalse=>cases he
 unfold ot at he;refine⟨rfl,?_⟩;apply aa<;>intro hk
 ·rw[MT (Xo hk)]at he;cases cZ he;exact(by repeat' (first|exact trivial|rfl|apply And.intro))
 rw[MS (fun q=>hk (Xd q))]at he;apply aa<;>intro hk
 ·rw[MT (Xo hk)]at he;cases cZ he;exact(by repeat' (first|exact trivial|rfl|apply And.intro))
 rw[MS (fun q=>hk (Xd q))]at he;have h34:t.kind=3∨t.kind=4->okE (pw (decide (t.kind=3))) st=some e:=fun q=>by rw[MT q]at he;exact he
 apply aa<;>intro hk
 ·cases cZ (h34 (.inl (Xo hk)));exact(by repeat' (first|exact trivial|rfl|apply And.intro))
 refine aa (fun hk'=>?_) (fun hk'=>?_)
 ·cases cZ (h34 (.inr (Xo hk')));exact(by repeat' (first|exact trivial|rfl|apply And.intro))
 rw[MS (fun q=>q.elim (fun q=>hk (Xd q)) (fun q=>hk' (Xd q)))]at he;clear h34 hk hk';apply aa<;>intro hk
 ·rw[MT (Xo hk)]at he;unfold HB HA at he;refine⟨rfl,rfl,aa (fun h=>?_) (fun h=>?_)⟩
  ·rw[MS (by cases q:findF p.scp t.pkg t.name<;>simp_all)]at he;cases cH he;exact(by repeat' (first|exact trivial|rfl|apply And.intro))
  ·have h:(findF p.scp t.pkg t.name).isSome=true:=by cases q:findF p.scp t.pkg t.name<;>simp_all
   rw[MT h]at he;cases cZ he;exact⟨h,(by repeat' (first|exact trivial|rfl|apply And.intro))⟩
 rw[MS (fun q=>hk (Xd q))]at he;apply aa<;>intro hk
 ·rw[MT (Xo hk)]at he;unfold funE fT at he;split at he
  ·cases he
  cases cZ he;exact⟨rfl,rfl,⟨by omega,by omega⟩,(by repeat' (first|exact trivial|rfl|apply And.intro))⟩
 rw[MS (fun q=>hk (Xd q))]at he;apply aa<;>intro hk
 ·rw[MT (Xo hk)]at he;obtain⟨y,hy⟩:=eZ (r:=bn (fun x=>ao mo n x p) t.parts st) (fun q=>by rw[q]at he;cases he);rw[hy]at he;simp only[jt]at he;simp only[hy,jw];refine⟨rfl,rfl,aa (fun hc=>?_) (fun hc=>?_)⟩
  ·rw[MS (ep hc)]at he;cases he;exact⟨hc,(by repeat' (first|exact trivial|rfl|apply And.intro))⟩
  rw[MT (fx hc)]at he;simp only[he,bV];exact⟨rfl,aa (fun q=>⟨q,(by repeat' (first|exact trivial|rfl|apply And.intro))⟩) (fun q=>⟨by simpa using q,(by repeat' (first|exact trivial|rfl|apply And.intro))⟩)⟩
 rw[MS (fun q=>hk (Xd q))]at he;apply aa<;>intro hk
 ·rw[MT (Xo hk)]at he;obtain⟨y,hy⟩:=eZ (r:=bn (fun x=>ao mo n x p) t.parts st) (fun q=>by rw[q]at he;cases he);rw[hy]at he;simp only[jt]at he;simp only[hy,jw];refine⟨rfl,rfl,rfl,aa (fun hc=>?_) (fun hc=>?_)⟩
  ·rw[MS (ep hc)]at he;cases he;exact⟨hc,(by repeat' (first|exact trivial|rfl|apply And.intro))⟩
  rw[MT (fx hc)]at he;cases cZ he;exact(by repeat' (first|exact trivial|rfl|apply And.intro))
 rw[MS (fun q=>hk (Xd q))]at he;apply aa<;>intro hk
 ·rw[MT (Xo hk)]at he;obtain⟨y,hy⟩:=eZ (r:=bn (fun x=>ao mo n x p) t.parts st) (fun q=>by rw[q]at he;cases he);rw[hy]at he;simp only[jt]at he;simp only[hy,jw];refine⟨rfl,rfl,rfl,aa (fun hc=>?_) (fun hc=>?_)⟩
  ·rw[MS (ep hc)]at he;cases he;exact⟨hc,(by repeat' (first|exact trivial|rfl|apply And.intro))⟩
  rw[MT (fx hc)]at he;cases cZ he;exact(by repeat' (first|exact trivial|rfl|apply And.intro))
 rw[MS (fun q=>hk (Xd q))]at he;apply aa<;>intro hk
 ·rw[MT (Xo hk)]at he;obtain⟨y,hy⟩:=eZ (r:=bn (fun x=>ao mo n x p) t.parts st) (fun q=>by rw[q]at he;cases he);rw[hy]at he;simp only[jt]at he;simp only[hy,jw];refine⟨rfl,rfl,aa (fun hc=>?_) (fun hc=>?_)⟩
  ·rw[MS (ep hc)]at he;cases he;exact⟨hc,(by repeat' (first|exact trivial|rfl|apply And.intro))⟩
  rw[MT (fx hc)]at he;cases cZ he;exact(by repeat' (first|exact trivial|rfl|apply And.intro))
 rw[MS (fun q=>hk (Xd q))]at he;apply aa<;>intro hk
 ·rw[MT (Xo hk)]at he;unfold L1 fT at he;split at he
  ·cases he
  have he':ao mo n (List.getD t.parts (Int.toNat (0:Int)) (dfl (Ty.st SN.term))) p st=some e:=he;simp only[he',bV];exact⟨rfl,⟨by omega,by omega⟩,⟨rfl,rfl⟩,aa (fun q=>⟨q,(by repeat' (first|exact trivial|rfl|apply And.intro))⟩) (fun q=>⟨by simpa using q,(by repeat' (first|exact trivial|rfl|apply And.intro))⟩)⟩
 rw[MS (fun q=>hk (Xd q))]at he;apply aa<;>intro hk
 ·rw[MT (Xo hk)]at he;obtain⟨y,hy⟩:=eZ (r:=bn (fun x=>ao mo n x p) t.parts st) (fun q=>by rw[q]at he;cases he);rw[hy]at he;simp only[jt]at he;simp only[hy,jw];refine⟨rfl,rfl,rfl,aa (fun hc=>?_) (fun hc=>?_)⟩
  ·rw[MS (ep hc)]at he;cases he;exact⟨hc,(by repeat' (first|exact trivial|rfl|apply And.intro))⟩
  rw[MT (fx hc)]at he;cases cZ he;exact(by repeat' (first|exact trivial|rfl|apply And.intro))
 rw[MS (fun q=>hk (Xd q))]at he;apply aa<;>intro hk
 ·rw[MT (Xo hk)]at he;unfold letE fT at he;split at he
  ·cases he
  obtain⟨x,hx⟩:=eZ (r:=ao mo n (lI t 0) p st) (fun q=>by rw[q]at he;cases he);rw[hx]at he;simp only[oq]at he;have hx':ao mo n (List.getD t.parts (Int.toNat (0:Int)) (dfl (Ty.st SN.term))) p st=some x:=hx;simp only[hx',bV];refine⟨rfl,⟨by omega,by omega⟩,⟨rfl,rfl⟩,aa (fun hc=>?_) (fun hc=>?_)⟩
  ·rw[MS (ep hc)]at he;cases he;exact⟨hc,(by repeat' (first|exact trivial|rfl|apply And.intro))⟩
  rw[MT (fx hc)]at he;have he':ao mo n (List.getD t.parts (Int.toNat (1:Int)) (dfl (Ty.st SN.term))) ⟨eC p.scp [] t.name x.v,p.self⟩ x.st=some e:=he;simp only[he',bV];exact⟨rfl,⟨by omega,by omega⟩,rfl,⟨rfl,rfl⟩,aa (fun q=>⟨q,(by repeat' (first|exact trivial|rfl|apply And.intro))⟩) (fun q=>⟨by simpa using q,(by repeat' (first|exact trivial|rfl|apply And.intro))⟩)⟩
 rw[MS (fun q=>hk (Xd q))]at he;simp only[he,bV];exact⟨⟨rfl,rfl⟩,aa (fun q=>⟨q,(by repeat' (first|exact trivial|rfl|apply And.intro))⟩) (fun q=>⟨by simpa using q,(by repeat' (first|exact trivial|rfl|apply And.intro))⟩)⟩
theorem FL   :
  let A:=(7:Nat);let B:=(0:Int);let C:=(kF (2:Int));let D:=[([97,100,100]:Str),([115,117,98]:Str),([109,117,108]:Str),([108,101,115,115]:Str),([115,97,109,101]:Str),([98,111,116,104]:Str),([99,97,116]:Str)];let E:=(↑(List.length D):Int);let F:=List.length D=List.length D;let G:=D=D/\E=E/\F/\True;let H:=(1:Int);let I:=dfl Ty.str;let J:=(3:Nat);let K:=kF H;let L:=List.foldl C none two;let M:=[([110,111,116]:Str),([115,105,122,101]:Str),([115,104,111,119]:Str)];let N:=(↑(List.length M):Int);let O:=D=D/\E=E/\false=false/\M=M/\N=N/\F/\List.length M=List.length M/\True;(∃(x:Nat),x<=A/\B=(↑x:Int)/\List.foldl C none (List.take x two)=none/\G)/\∀(x:Nat),let P:=(↑x:Int);let Q:=List.take x two;let R:=List.getD D (Int.toNat P) I;x<=A->if decide (P<E)=true then(B<=P/\P<E)/\inR IntKind.i64 (P+H)/\∃(y:Nat),y<=A/\A-y<A-x/\P+H=(↑y:Int)/\eC (List.foldl C none Q) [] R (Thg.mk (8:Int) B [] [] [] [] (some (Fnc.mk none [] [] none R (2:Int))))=List.foldl C none (List.take y two)/\G else(∃(x_1:Nat),x_1<=J/\B=(↑x_1:Int)/\List.foldl C none Q=List.foldl K L (List.take x_1 js)/\P=P/\O)/\∀(x_1:Nat),let S:=(↑x_1:Int);let T:=List.take x_1 js;let U:=List.getD M (Int.toNat S) I;x_1<=J->if decide (S<N)=true then(B<=S/\S<N)/\inR IntKind.i64 (S+H)/\∃(y:Nat),y<=J/\J-y<J-x_1/\S+H=(↑y:Int)/\eC (List.foldl K L T) [] U (Thg.mk (8:Int) B [] [] [] [] (some (Fnc.mk none [] [] none U H)))=List.foldl K L (List.take y js)/\P=P/\O else True/\List.foldl K L T=bN/\True:=by
 conv=>zeta
 have suc:∀(k:Int)(l:List Str)(s:Option Scp)(x:Nat),x<l.length->eC (List.foldl (kF k) s (List.take x l)) [] (l.getD x []) (Thg.mk 8 0 [] [] [] [] (some (Fnc.mk none [] [] none (l.getD x []) k)))=List.foldl (kF k) s (List.take (x+1) l):=by
  intro k l
  induction l with
  |nil=>intro s x h;cases h
  |cons a r ih=>
   intro s x h
   cases x with|zero=>rfl|succ x=>exact ih (kF k s a) x (by simpa using h)
 rw[show([[97,100,100],[115,117,98],[109,117,108],[108,101,115,115],[115,97,109,101],[98,111,116,104],[99,97,116]]:List Str)=two from rfl,show([[110,111,116],[115,105,122,101],[115,104,111,119]]:List Str)=js from rfl];refine⟨⟨0,by omega,rfl,rfl,(by repeat' (first|exact trivial|rfl|apply And.intro))⟩,?_⟩;intro x hx;apply aa<;>intro h
 ·have h:x<two.length:=by have:=Xo h;omega
  exact⟨⟨by omega,by omega⟩,aD (by omega) (by have:two.length=7:=rfl;omega),x+1,(show x+1<=two.length from h),by have:two.length=7:=rfl;omega,rfl,suc 2 two none x h,(by repeat' (first|exact trivial|rfl|apply And.intro))⟩
 ·have e:x=7:=by have h:¬x<two.length:=fun q=>h (Xd (by omega));have:two.length=7:=rfl;omega
  subst e;refine⟨⟨0,by omega,rfl,rfl,(by repeat' (first|exact trivial|rfl|apply And.intro))⟩,?_⟩;intro y hy;apply aa<;>intro h
  ·have h:y<js.length:=by have:=Xo h;omega
   exact⟨⟨by omega,by omega⟩,aD (by omega) (by have:js.length=3:=rfl;omega),y+1,(show y+1<=js.length from h),by have:js.length=3:=rfl;omega,rfl,suc 1 js _ y h,(by repeat' (first|exact trivial|rfl|apply And.intro))⟩
  ·have e:y=3:=by have h:¬y<js.length:=fun q=>h (Xd (by omega));have:js.length=3:=rfl;omega
   subst e;exact Xr
theorem Kw(n:Nat)(x:Thg)(r:Int)(hx:Wf (.st .thing) x)(ho:(dD (n+1) x r).isSome=true) :
  let A:=(1:Int);let B:=r-A;let C:=(0:Int);let D:=True;let E:=(BV (dD (n+(1:Nat)) x r));let F:=E.v.names=[];let G:=E.v.parts=[];let H:=(140737488355328:Nat);let I:=x=x;let J:=false=false;let K:=Thg.kind x=Thg.kind x;let L:=Thg.pkg x=Thg.pkg x;let M:=Thg.text x=Thg.text x;let N:=Thg.names x=Thg.names x;let O:=oc UInt8=oc UInt8;let P:=I/\C=C/\C=C/\O/\O/\D;let Q:=L/\M/\N/\r-A=r-A/\P;let R:=Thg.parts x;let S:=dD n;let T:=Thg.parts x=Thg.parts x;let U:=(↑(List.length R):Int);let V:=dfl (Ty.st SN.thing);inR IntKind.i64 B/\if decide (r-A<C)=true then D/\C=E.v.kind/\C=E.v.n/\[]=E.v.pkg/\[]=E.v.text/\F/\G/\false=E.ok/\r-A=E.room/\D else List.length (Thg.names x)*(16:Nat)<=H/\(if Option.isSome (Thg.fn x)=true then Option.isSome (Thg.fn x)=true/\I/\J/\J/\K/\Fnc.args (Option.getD (Thg.fn x) (dfl (Ty.st SN.func)))=fnN x/\Q else I/\J/\J/\K/\Thg.n x=fnN x/\Q)/\(∃(x_1:Nat×List Vlu×Int),(x_1.1<=List.length R/\List.length x_1.2.1=x_1.1/\iC S (List.drop x_1.1 R) x_1.2.1 x_1.2.2=iC S R [] B)/\C=(↑x_1.1:Int)/\I/\J/\T/\U=U/\K/\fnN x=fnN x/\L/\M/\N/\x_1.2.1=[]/\List.length x_1.2.1=(0:Nat)/\r-A=x_1.2.2/\P)/\∀(x_1:Nat×List Vlu×Int),let W:=(↑x_1.1:Int);let X:=dD n (List.getD R (Int.toNat W) V) x_1.2.2;let Y:=BV X;x_1.1<=List.length R/\List.length x_1.2.1=x_1.1/\iC S (List.drop x_1.1 R) x_1.2.1 x_1.2.2=iC S R [] B->if decide (W<U)=true then(C<=W/\W<U)/\Option.isSome X=true/\if(!Y.ok)=true then D/\C=E.v.kind/\C=E.v.n/\[]=E.v.pkg/\[]=E.v.text/\F/\G/\false=E.ok/\Y.room=E.room/\D else(List.length x_1.2.1=List.length x_1.2.1/\(List.length x_1.2.1+List.length [Y.v])*(96:Nat)<=H)/\inR IntKind.i64 (W+A)/\∃(y:Nat×List Vlu×Int),(y.1<=List.length R/\List.length y.2.1=y.1/\iC S (List.drop y.1 R) y.2.1 y.2.2=iC S R [] B)/\List.length R-y.1<List.length R-x_1.1/\W+A=(↑y.1:Int)/\I/\J/\T/\U=U/\K/\fnN x=fnN x/\L/\M/\N/\x_1.2.1++[Y.v]=y.2.1/\List.length (x_1.2.1++[Y.v])=List.length y.2.1/\Y.room=y.2.2/\P else D/\Thg.kind x=E.v.kind/\fnN x=E.v.n/\Thg.pkg x=E.v.pkg/\Thg.text x=E.v.text/\Thg.names x=E.v.names/\x_1.2.1=E.v.parts/\true=E.ok/\x_1.2.2=E.room/\D:=by
 conv=>zeta
 have ln:=(Wf.thing_parts hx).len;obtain⟨e,he⟩:=Nz.1 ho;simp only[he,py];simp only[dD]at he;split at he
 ·cases he
 rename_i hr
 have hr:sZ r:=by
  by_cases q:sZ r
  ·exact q
  ·exact absurd q hr
 obtain⟨r0,r1⟩:=hr;refine⟨aD (by omega) (by omega),aa (fun h=>?_) (fun h=>?_)⟩
 ·rw[MT (Xo h)]at he;cases he;exact(by repeat' (first|exact trivial|rfl|apply And.intro))
 rw[MS (fun q=>h (Xd q))]at he;split at he
 ·cases he
 rename_i hb;obtain⟨w,hw⟩:=eZ (r:=iC (dD n) x.parts [] (r-1)) (fun q=>by rw[q]at he;cases he);rw[hw]at he;have he:e=endT x w:=(Nk he).symm;subst he;simp only[hw,Nh];refine⟨by omega,aa (fun hf=>?_) (fun hf=>?_),⟨(0,[],r-1),⟨N2 _,rfl,by rw[Ot];exact hw⟩,(by repeat' (first|exact trivial|rfl|apply And.intro))⟩,?_⟩
 ·have e1:Fnc.args (Option.getD x.fn (dfl (Ty.st SN.func)))=fnN x:=(MT hf).symm;refine⟨hf,?_⟩
  repeat' (first|exact trivial|rfl|exact e1|apply And.intro)
 ·have e1:x.n=fnN x:=(MS hf).symm
  repeat' (first|exact trivial|rfl|exact e1|apply And.intro)
 rintro⟨k,out,s'⟩ ⟨h1,h2,h3⟩;simp only at h1 h2 h3⊢;apply aa<;>intro h
 ·have hk:k<x.parts.length:=by have:=Xo h;omega
  rw[az x.parts k (dfl (Ty.st SN.thing)) hk]at h3;simp only[iC]at h3
  obtain⟨v,hv⟩:∃v,dD n (x.parts.getD k (dfl (Ty.st SN.thing))) s'=some v:=by
   cases q:dD n (x.parts.getD k (dfl (Ty.st SN.thing))) s' with
   |none=>rw[q]at h3;cases h3
   |some v=>exact⟨v,rfl⟩
  rw[hv]at h3;simp only at h3;simp only[hv,py];refine⟨⟨by omega,by omega⟩,rfl,aa (fun hc=>?_) (fun hc=>?_)⟩
  ·have hc':v.ok=false:=by simpa using hc
   rw[MS (by rw[hc'];decide)]at h3;cases h3;exact(by repeat' (first|exact trivial|rfl|apply And.intro))
  ·have hc':v.ok=true:=by simpa using hc
   rw[MT hc']at h3;refine⟨⟨trivial,by simp only[NJ];omega⟩,ba hk ln,(k+1,out++[v.v],v.room),⟨by omega,by simp[h2],h3⟩,by simp only;omega,by simp only;omega,(by repeat' (first|exact trivial|rfl|apply And.intro))⟩
 ·have e1:k=x.parts.length:=by have q:¬_:=fun q=>h (Xd q);omega
  subst e1;rw[Nj]at h3;simp only[iC]at h3;cases h3;exact(by repeat' (first|exact trivial|rfl|apply And.intro))
theorem FM(m:Nat)(x:Thg)(a:Int)(hx:Wf (.st .thing) x)(ho:(cb m x a).isSome=true) :
  let A:=(dD m x (2000:Int));let B:=BV A;let C:=uf (cb m x a);let D:=(!decide (C.f.err=(0:Int)));let E:=a=C.f.pos/\True;Option.isSome A=true/\if(!B.ok)=true then D=true/\(3:Int)=C.f.err/\E else cA B.v=true/\if(!decide (ow B.v=(0:Int)))=true then D=true/\ow B.v=C.f.err/\E else D=false/\B.v=C.v/\True:=by
 conv=>zeta
 obtain⟨e,he⟩:=Nz.1 ho;simp only[he,pz];unfold cb at he;obtain⟨t,ht⟩:=eZ (r:=dD m x 2000) (fun q=>by rw[q]at he;cases he);rw[ht]at he;simp only at he;simp only[ht,py];refine⟨rfl,aa (fun h=>?_) (fun h=>?_)⟩
 ·have h:t.ok=false:=by simpa using h
  rw[MS (by rw[h];decide)]at he;cases he;exact(by repeat' (first|exact trivial|rfl|apply And.intro))
 have h:t.ok=true:=by simpa using h
 rw[MT h]at he;split at he
 case isFalse=>cases he
 rename_i hf;refine⟨hf,aa (fun hc=>?_) (fun hc=>?_)⟩
 ·rw[MS (ep hc)]at he;cases he;exact⟨by simpa using ep hc,(by repeat' (first|exact trivial|rfl|apply And.intro))⟩
 ·rw[MT (fx hc)]at he;cases he;exact(by repeat' (first|exact trivial|rfl|apply And.intro))
theorem Kx(n m:Nat)(t:Trm)(mo:Int)(ht:Wf (.st .term) t)(ho:(gl n m t mo).isSome=true) :
  let A:=(0:Int);let B:=(ao mo n t {scp:=bN,self:=[]:Plc} A);let C:=dy B;let D:=oz (gl n m t mo);let E:=!decide (D.f.err=A);let F:=oc UInt8=oc UInt8;let G:=C.st=D.st/\mo=mo/\True;let H:=A=A/\A=A/\F/\F/\G;let I:=cb m C.v t.pos;let J:=uf I;(Option.isSome (some t)=true/\Option.isSome B=true)/\if(!decide (C.f.err=A))=true then E=true/\C.f.err=D.f.err/\C.f.pos=D.f.pos/\H else Option.isSome I=true/\if(!decide (J.f.err=A))=true then E=true/\J.f.err=D.f.err/\J.f.pos=D.f.pos/\H else E=false/\J.v=D.v/\G:=by
 conv=>zeta
 obtain⟨r,hr⟩:=Nz.1 ho;simp only[hr,mn];unfold gl at hr;obtain⟨e,he,h2⟩:=O7.1 hr;have he':ao mo n t {scp:=bN,self:=[]:Plc} 0=some e:=he;simp only[he',bV];unfold K1 at h2;refine⟨⟨rfl,rfl⟩,aa (fun hc=>?_) (fun hc=>?_)⟩
 ·rw[MS (ep hc)]at h2;cases h2;exact⟨hc,(by repeat' (first|exact trivial|rfl|apply And.intro))⟩
 rw[MT (fx hc)]at h2;obtain⟨s,hs,rfl⟩:=N3.1 h2;simp only[hs,pz];refine⟨rfl,aa (fun hq=>?_) (fun hq=>?_)⟩
 ·rw[show swR e.st s=⟨fv,e.st,s.f⟩from MS (ep hq)];exact⟨hq,(by repeat' (first|exact trivial|rfl|apply And.intro))⟩
 ·rw[show swR e.st s=⟨s.v,e.st,⟨0,0⟩⟩from MT (fx hq)];exact(by repeat' (first|exact trivial|rfl|apply And.intro))
theorem FN(n m:Nat)(t:Trm)(mo:Int)(ht:Wf (.st .term) t)(ho:(gl n m t mo).isSome=true) :
  let A:=gl n m t mo;let B:=oz A;let C:=(0:Int);let D:=B.st=B.st/\mo=mo/\True;Option.isSome A=true/\if(!decide (B.f.err=C))=true then B.f.err=B.f.err/\B.f.pos=B.f.pos/\C=B.v.kind/\C=B.v.n/\[]=B.v.pkg/\[]=B.v.text/\B.v.names=[]/\B.v.parts=[]/\D else C=B.f.err/\C=B.f.pos/\B.v=B.v/\D:=by
 conv=>zeta
 obtain⟨r,hr⟩:=Nz.1 ho;simp only[hr,mn];refine⟨rfl,aa (fun hc=>?_) (fun hc=>?_)⟩
 ·rw[Mo hr (ep hc)];exact(by repeat' (first|exact trivial|rfl|apply And.intro))
 ·rw[LM hr (fx hc)];exact(by repeat' (first|exact trivial|rfl|apply And.intro))
theorem M0(n m:Nat)(t:Trm)(k:Int)(ht:Wf (.st .term) t)(hk:Wf (.int .i64) k)(hf:bR t=true)(ho:(qv n m t k).isSome=true) :
  let A:=(0:Int);let B:=True;let C:=oz (qv n m t k);let D:=A=C.v.kind;let E:=A=C.v.n;let F:=[]=C.v.pkg;let G:=[]=C.v.text;let H:=C.v.names=[];let I:=C.v.parts=[];let J:=A=C.st;let K:=A=C.f.pos/\B;let L:=B/\D/\E/\F/\G/\H/\I/\J/\(2:Int)=C.f.err/\K;let M:=gl n m t k;let N:=oz M;bR t=true/\if(!decide (cY t=A))=true then B/\D/\E/\F/\G/\H/\I/\J/\cY t=C.f.err/\K else if decide (k<A)=true then L else if decide ((2000:Int)<k)=true then L else Option.isSome M=true/\if(!decide (N.f.err=A))=true then B/\D/\E/\F/\G/\H/\I/\J/\N.f=C.f/\B else B/\N.v=C.v/\N.st=C.st/\A=C.f.err/\K:=by
 conv=>zeta
 obtain⟨r,hr⟩:=Nz.1 ho;simp only[hr,mn];unfold qv at hr;refine⟨hf,aa (fun hc=>?_) (fun hc=>?_)⟩
 ·rw[MT (ep hc)]at hr;cases hr;exact(by repeat' (first|exact trivial|rfl|apply And.intro))
 rw[MS (fun q=>q (fx hc))]at hr;apply aa<;>intro h1
 ·rw[MT (Or.inl (Xo h1))]at hr;cases hr;exact(by repeat' (first|exact trivial|rfl|apply And.intro))
 apply aa<;>intro h2
 ·rw[MT (Or.inr (Xo h2))]at hr;cases hr;exact(by repeat' (first|exact trivial|rfl|apply And.intro))
 rw[MS (fun q=>q.elim (fun q=>h1 (Xd q)) (fun q=>h2 (Xd q)))]at hr;obtain⟨w,hw,rfl⟩:=N3.1 hr;simp only[hw,mn];refine⟨rfl,aa (fun hc=>?_) (fun hc=>?_)⟩
 ·rw[show LJ w=⟨fv,0,w.f⟩from MS (ep hc)];exact(by repeat' (first|exact trivial|rfl|apply And.intro))
 ·rw[show LJ w=⟨w.v,w.st,⟨0,0⟩⟩from MT (fx hc)];exact(by repeat' (first|exact trivial|rfl|apply And.intro))
theorem Cz(n:Nat)(a:Vlu)(ha:Wf (.st .val) a)(hz:szV a<=n+1) :
  let A:=True/\false=true/\True;let B:=(↑(List.length a.names):Int);let C:=(↑(List.length a.parts):Int);let D:=(0:Int);let E:=a=a;let F:=false=false/\E/\E/\True;let G:=(1:Int);let H:=E/\E/\false=false/\F;let I:=dfl (Ty.st SN.val);if(!decide (a.kind=a.kind))=true then A else if(!decide (a.n=a.n))=true then A else if(!decide (a.pkg=a.pkg))=true then A else if(!decide (a.text=a.text))=true then A else if(!decide (B=B))=true then A else if(!decide (C=C))=true then A else(∃(x:Nat),x<=List.length a.names/\D=(↑x:Int)/\E/\E/\F)/\∀(x:Nat),let J:=(↑x:Int);let K:=D<=J/\J<B;x<=List.length a.names->if decide (J<B)=true then K/\K/\if(!decide (List.getD a.names (Int.toNat J) (dfl Ty.str)=List.getD a.names (Int.toNat J) (dfl Ty.str)))=true then A else inR IntKind.i64 (J+G)/\∃(y:Nat),y<=List.length a.names/\List.length a.names-y<List.length a.names-x/\J+G=(↑y:Int)/\E/\E/\F else(∃(x_1:Nat),x_1<=List.length a.parts/\D=(↑x_1:Int)/\J=J/\H)/\∀(x_1:Nat),let L:=(↑x_1:Int);let M:=D<=L/\L<C;let N:=Int.toNat L;x_1<=List.length a.parts->if decide (L<C)=true then M/\M/\(List.getD a.parts N I=List.getD a.parts N I/\szV (List.getD a.parts N I)<=n)/\inR IntKind.i64 (L+G)/\∃(y:Nat),y<=List.length a.parts/\List.length a.parts-y<List.length a.parts-x_1/\L+G=(↑y:Int)/\J=J/\H else True/\true=true/\True:=by
 conv=>zeta
 have ln:=ha.val_names.len;have lp:=ha.val_parts.len;have hz':=wI a
 iterate 6 refine aa (fun h=>absurd rfl (ep h)) (fun _=>?_)
 refine⟨⟨0,N2 _,rfl,(by repeat' (first|exact trivial|rfl|apply And.intro))⟩,?_⟩;intro x hx;apply aa<;>intro h
 ·have hx':x<a.names.length:=by have:=Xo h;omega
  exact⟨⟨by omega,by omega⟩,⟨by omega,by omega⟩,aa (fun q=>absurd rfl (ep q)) (fun _=>⟨ba hx' ln,x+1,by omega,by omega,by omega,(by repeat' (first|exact trivial|rfl|apply And.intro))⟩)⟩
 ·refine⟨⟨0,N2 _,rfl,(by repeat' (first|exact trivial|rfl|apply And.intro))⟩,?_⟩;intro y hy;refine aa (fun h=>?_) (fun h=>(by repeat' (first|exact trivial|rfl|apply And.intro)));have hy':y<a.parts.length:=by have:=Xo h;omega
  have hm:=qO (bG a.parts y (dfl (.st .val)) hy');simp only[Nh];exact⟨⟨by omega,by omega⟩,⟨by omega,by omega⟩,⟨by trivial,by omega⟩,ba hy' lp,y+1,by omega,by omega,by omega,(by repeat' (first|exact trivial|rfl|apply And.intro))⟩
theorem M1(x:Exp)(m:Modu)  :
  Option.isSome (some m)=true/\True/\(!decide (x.name∈m.exports))=!inX m x/\some m=some m/\True:=by
 exact⟨rfl,(by repeat' (first|exact trivial|rfl|apply And.intro))⟩
theorem Ky(s:Nat)(xs:List Exp)(m:Modu)(hl:xs.length<=1000000) :
  let A:=inX m;let B:=(0:Nat);let C:=(↑(List.length xs):Int);let D:=s=s/\xs=xs/\some m=some m/\True;let E:=s=s/\List.length xs=List.length xs/\C=C/\D;(∃(x:Nat),(x<=List.length xs/\aF A (List.drop x xs) x=aF A xs B)/\(0:Int)=(↑x:Int)/\E)/\∀(x:Nat),let F:=(↑x:Int);x<=List.length xs/\aF A (List.drop x xs) x=aF A xs B->if decide (F<C)=true then((0:Int)<=F/\F<C)/\(s=s/\Int.toNat F<List.length xs)/\if(!inX m (List.getD xs (Int.toNat F) (dfl (Ty.st SN.exp))))=true then True/\F=aF A xs B/\D else inR IntKind.i64 (F+(1:Int))/\∃(y:Nat),(y<=List.length xs/\aF A (List.drop y xs) y=aF A xs B)/\List.length xs-y<List.length xs-x/\F+(1:Int)=(↑y:Int)/\E else True/\(-1:Int)=aF A xs B/\D:=by
 conv=>zeta
 simp only[Nh,PI,O9,NP];refine⟨⟨0,⟨N2 _,by simp⟩,rfl⟩,?_⟩;rintro k ⟨h1,h2⟩;apply aa<;>intro h
 ·replace h:=Xo h;have hk:k<xs.length:=by omega
  rw[az xs k (dfl (.st .exp)) hk,aF]at h2;refine⟨⟨by omega,h⟩,hk,aa (fun c=>?_) (fun c=>?_)⟩
  ·have c:inX m (xs.getD k (dfl (.st .exp)))=false:=by simpa using c
   rw[c,MS Oc]at h2;exact h2
  ·have c:inX m (xs.getD k (dfl (.st .exp)))=true:=by simpa using c
   rw[MT c]at h2;exact⟨aD (by omega) (by omega),k+1,⟨by omega,h2⟩,by omega,by omega⟩
 ·replace h:¬((k:Int)<(xs.length:Int)):=fun e=>h (Xd e);have e:k=xs.length:=by omega
  subst e;rw[Nj,aF]at h2;exact h2
theorem Kz(s:Nat)(xs:List Exp)(m:Modu)(hl:xs.length<=1000000) :
  let A:=s=s;let B:=List.length xs=List.length xs;let C:=inX m;let D:=(0:Nat);let E:=s=ze m s xs;let F:=some m=some m/\True;let G:=(1:Int);let H:=List.all xs C=false;let I:=false=false;let J:=(↑(List.length xs):Int);let K:=(0:Int);let L:=dfl (Ty.st SN.exp);let M:=s+(1:Nat)=ze m s xs;((A/\B)/\List.length xs<=(1000000:Nat))/\if decide (aF C xs D=(-1:Int))=true then True/\E/\List.length xs=List.length (dX m xs)/\E/\xs=dX m xs/\F else inR IntKind.i64 (aF C xs D+G)/\(∃(x:Nat×Nat×List Exp),(x.1<x.2.1/\x.2.1<=List.length xs/\List.length x.2.2=List.length xs/\H/\List.take x.1 x.2.2=dX m (List.take x.2.1 xs)/\List.drop x.2.1 x.2.2=List.drop x.2.1 xs)/\aF C xs D=(↑x.1:Int)/\aF C xs D+G=(↑x.2.1:Int)/\A/\B/\I/\A/\xs=x.2.2/\F)/\∀(x:Nat×Nat×List Exp),let N:=(↑x.2.1:Int);let O:=List.getD x.2.2 (Int.toNat N) L;let P:=(↑x.1:Int);let Q:=inR IntKind.i64 (N+G);let R:=Int.toNat P;let S:=List.length x.2.2-Int.toNat P;let T:=(List.take R x.2.2++List.replicate S {name:=[],what:=Thg.mk K K [] [] [] [] none,pos:=K:Exp});x.1<x.2.1/\x.2.1<=List.length xs/\List.length x.2.2=List.length xs/\H/\List.take x.1 x.2.2=dX m (List.take x.2.1 xs)/\List.drop x.2.1 x.2.2=List.drop x.2.1 xs->if decide (N<J)=true then(K<=N/\N<J)/\(A/\Int.toNat N<List.length x.2.2)/\if(!!inX m O)=true then(K<=P/\P<J)/\(A/\Int.toNat P<List.length x.2.2)/\inR IntKind.i64 (P+G)/\Q/\∃(y:Nat×Nat×List Exp),(y.1<y.2.1/\y.2.1<=List.length xs/\List.length y.2.2=List.length xs/\H/\List.take y.1 y.2.2=dX m (List.take y.2.1 xs)/\List.drop y.2.1 y.2.2=List.drop y.2.1 xs)/\List.length xs-y.2.1<List.length xs-x.2.1/\P+G=(↑y.1:Int)/\N+G=(↑y.2.1:Int)/\A/\B/\I/\A/\List.set x.2.2 R O=y.2.2/\F else Q/\∃(y:Nat×Nat×List Exp),(y.1<y.2.1/\y.2.1<=List.length xs/\List.length y.2.2=List.length xs/\H/\List.take y.1 y.2.2=dX m (List.take y.2.1 xs)/\List.drop y.2.1 y.2.2=List.drop y.2.1 xs)/\List.length xs-y.2.1<List.length xs-x.2.1/\P=(↑y.1:Int)/\N+G=(↑y.2.1:Int)/\A/\B/\I/\A/\x.2.2=y.2.2/\F else((A/\List.length xs=List.length x.2.2)/\K<=P/\P<(↑(List.length x.2.2):Int))/\(A/\Int.toNat P+S=List.length x.2.2/\D<List.length x.2.2-Int.toNat P)/\((A/\List.length xs=List.length T)/\K<=P/\P<=(↑(List.length T):Int))/\True/\M/\List.length (List.take R T)=List.length (dX m xs)/\M/\List.take R T=dX m xs/\F:=by
 conv=>zeta
 simp only[Nh,PI,O9,NP];refine⟨hl,aa (fun h=>?_) (fun h=>?_)⟩
 ·have h:=Xo h;rcases nF (inX m) xs 0 with⟨h1,h2⟩|⟨i,h1,_⟩
  ·have d:ze m s xs=s:=MT h2;rw[d,zf h2];exact(by repeat' (first|exact trivial|rfl|apply And.intro))
  ·rw[h1]at h;omega
 have h:¬aF (inX m) xs 0=-1:=fun e=>h (Xd e);rcases nF (inX m) xs 0 with⟨h1,_⟩|⟨i,h1,h2,h3,h4,h5⟩
 ·exact absurd h1 h
 have d:ze m s xs=s+1:=MS (by rw[h4];decide);rw[NY]at h1;simp only[h1,d];have k0:=vm m xs i (dfl (.st .exp)) h2;rw[MS (by rw[h5];decide),Ow,zf h3]at k0;refine⟨aD (by omega) (by omega),⟨(i,i+1,xs),⟨Nat.lt_succ_self _,h2,rfl,h4,k0.symm,rfl⟩,rfl,by simp only;omega,rfl⟩,?_⟩;rintro⟨i,j,ys⟩ ⟨g1,g2,g3,g4,g5,g6⟩;simp only at g1 g2 g3 g4 g5 g6⊢;apply aa<;>intro c
 ·have c:=Xo c;have hj:j<xs.length:=by omega
  have ev:=Fh g6 (dfl (.st .exp));have ks:=vm m xs j (dfl (.st .exp)) hj;rw[<-ev]at ks;refine⟨⟨by omega,c⟩,by omega,aa (fun f=>?_) (fun f=>?_)⟩
  ·have f:inX m (ys.getD j (dfl (.st .exp)))=true:=by simpa using f
   rw[MT f]at ks;refine⟨⟨by omega,by omega⟩,by omega,aD (by omega) (by omega),aD (by omega) (by omega),(i+1,j+1,ys.set i (ys.getD j (dfl (.st .exp)))),⟨Nat.succ_lt_succ g1,hj,by rw[List.length_set];exact g3,g4,?_,?_⟩,by simp only;omega,by simp only;omega,by simp only;omega,rfl⟩
   ·simp only;rw[ks,HZ (by omega),g5]
   ·simp only;rw[I0 (by omega)];exact vn g6
  ·have f:¬inX m (ys.getD j (dfl (.st .exp)))=true:=by simpa using f
   rw[MS f,Ow]at ks;exact⟨aD (by omega) (by omega),(i,j+1,ys),⟨Nat.lt_succ_of_lt g1,hj,g3,g4,by simp only;rw[ks];exact g5,vn g6⟩,by simp only;omega,rfl,by simp only;omega,rfl⟩
 ·have c:¬((j:Int)<(xs.length:Int)):=fun e=>c (Xd e);have e:j=xs.length:=by omega
  subst e;rw[Ob]at g5;have hi:(ys.take i).length=i:=by rw[Oj];omega
  have hr:∀r:List Exp,(ys.take i++r).take i=dX m xs:=fun r=>by rw[OH (by omega),List.take_take,Nat.min_self,g5]
  refine⟨⟨g3.symm,by omega,by omega⟩,⟨by omega,by omega⟩,⟨?_,by omega,?_⟩,trivial,by rw[hr],trivial,hr _⟩
  ·rw[NK,hi,List.length_replicate];omega
  ·rw[NK,hi,List.length_replicate];omega
theorem KA(n:Nat)(m:Modu)(ah:Ahd)(st mo:Int)(e:MdE)(hm:Wf (.st .modu) m)(ho:(m.decls.all aW=true/\m.decls.length<=1000000)/\(∀x∈ah,x.2.length<=1000000))(he:iH (ao mo n) m ah st=some e) :
  let A:=Option.isSome (some m)=true;let B:=(1000000:Nat);let C:=(0:Int);let D:=!decide (e.f.err=C);let E:=D=true;let F:=mo=mo;let G:=ah=ah;let H:=F/\G/\True;let I:=st=e.st/\H;let J:=some m=some m;let K:=cd m=cd m;let L:=false=false;let M:=m.imports=m.imports;let N:=(↑(List.length m.imports):Int);let O:=N=N;let P:=F/\G/\J/\True;let Q:=J/\K/\L/\M/\O/\st=st/\P;let R:=dfl (Ty.st SN.imp);let S:=(1:Nat);let T:=(1:Int);let U:=dfl (Ty.st SN.exp);let V:=ao mo n;let W:=eJ ah m.imports bN;let X:=(fun(x:Dcl)=>x.name);let Y:=(0:Nat);let Z:=(↑(List.length m.decls):Int);let a:=Z=Z;let b:=dfl (Ty.st SN.decl);let c:=(140737488355328:Nat);let d:=m.exports=m.exports;let g:=(↑(List.length m.exports):Int);A/\(List.all m.decls aW=true/\List.length m.decls<=B)/\if(!decide (cd m=C))=true then E/\cd m=e.f.err/\C=e.f.pos/\I else A/\(∃(x:Nat×Option Scp),(x.1<=List.length m.imports/\eJ ah (List.drop x.1 m.imports) x.2=eJ ah m.imports bN)/\C=(↑x.1:Int)/\bN=x.2/\Q)/\∀(x:Nat×Option Scp),let h:=(↑x.1:Int);let i:=Int.toNat h;let j:=List.getD m.imports i R;let k:=bX ah j.name;let o:=List.drop (Int.toNat h+S) m.imports;let p:=DY j.name;let q:=h=h;let r:=Option.getD k []=Option.getD k [];let t:=Option.getD k [];let u:=(↑(List.length t):Int);let w:=q/\J/\K/\L/\M/\O/\true=true/\r/\Option.isSome k=Option.isSome k/\L/\r/\u=u/\st=st/\F/\G/\J/\List.getD m.imports i R=List.getD m.imports i R/\True;x.1<=List.length m.imports/\eJ ah (List.drop x.1 m.imports) x.2=eJ ah m.imports bN->if decide (h<N)=true then(C<=h/\h<N)/\if(!Option.isSome k)=true then E/\(282:Int)=e.f.err/\j.pos=e.f.pos/\I else(∃(x_1:Nat×Option Scp),(∃(l:List Exp),bX ah j.name=some l/\x_1.1<=List.length l/\eJ ah o (List.foldl p x_1.2 (List.drop x_1.1 l))=eJ ah m.imports bN)/\C=(↑x_1.1:Int)/\x.2=x_1.2/\w)/\∀(x_1:Nat×Option Scp),let z:=(↑x_1.1:Int);let A0:=List.getD t (Int.toNat z) U;(∃(l:List Exp),bX ah j.name=some l/\x_1.1<=List.length l/\eJ ah o (List.foldl p x_1.2 (List.drop x_1.1 l))=eJ ah m.imports bN)->if decide (z<u)=true then(C<=z/\z<u)/\inR IntKind.i64 (z+T)/\∃(y:Nat×Option Scp),(∃(l:List Exp),bX ah j.name=some l/\y.1<=List.length l/\eJ ah o (List.foldl p y.2 (List.drop y.1 l))=eJ ah m.imports bN)/\List.length t-y.1<List.length t-x_1.1/\z+T=(↑y.1:Int)/\eC x_1.2 j.name A0.name A0.what=y.2/\w else inR IntKind.i64 (h+T)/\∃(y:Nat×Option Scp),(y.1<=List.length m.imports/\eJ ah (List.drop y.1 m.imports) y.2=eJ ah m.imports bN)/\List.length m.imports-y.1<List.length m.imports-x.1/\h+T=(↑y.1:Int)/\x_1.2=y.2/\Q else A/\(∃(x_1:(Nat×Option Scp)×List Exp×Int),let z:=List.take x_1.1.1 m.decls;let A0:=List.length x_1.2.1=Y;(x_1.1.1<=List.length m.decls/\List.length x_1.2.1<=x_1.1.1/\cK V m.name (List.drop x_1.1.1 m.decls) x_1.1.2 x_1.2.1 x_1.2.2=cK V m.name m.decls W.s [] st)/\C=(↑x_1.1.1:Int)/\x.2=x_1.1.2/\List.map X z=[]/\A0/\A0/\q/\J/\K/\L/\M/\O/\L/\a/\List.length z=Y/\A0/\x_1.2.1=[]/\st=x_1.2.2/\P)/\∀(x_1:(Nat×Option Scp)×List Exp×Int),let z:=(↑x_1.1.1:Int);let A0:=List.take x_1.1.1 m.decls;let A1:=List.map X A0;let A2:=List.getD m.decls (Int.toNat z) b;let A3:=[A2.name];let A4:=(ao mo n A2.term {scp:=x_1.1.2,self:=m.name:Plc} x_1.2.2);let A5:=dy A4;let A6:=List.length x_1.2.1=List.length x_1.2.1;let A7:=[{name:=A2.name,what:=Thg.mk (Thg.kind A5.v) (Thg.n A5.v) (Thg.pkg A5.v) (Thg.text A5.v) (Thg.names A5.v) (Thg.parts A5.v) (Thg.fn A5.v),pos:=A2.pos:Exp}];let A8:=inR IntKind.i64 (z+T);let A9:=List.map X A0++A3;let B0:=z=z/\x_1.1.2=x_1.1.2/\List.map X A0=List.map X A0/\A6/\A6/\q/\J/\K/\L/\M/\O/\L/\a/\L/\d/\g=g/\List.length A0=List.length A0/\A6/\x_1.2.1=x_1.2.1/\x_1.2.2=x_1.2.2/\P;let B1:=x_1.2.2=e.st/\H;let B2:=List.length x_1.2.1;let B3:=ze m B2 x_1.2.1=ze m B2 x_1.2.1;let B4:=dX m x_1.2.1;x_1.1.1<=List.length m.decls/\List.length x_1.2.1<=x_1.1.1/\cK V m.name (List.drop x_1.1.1 m.decls) x_1.1.2 x_1.2.1 x_1.2.2=cK V m.name m.decls W.s [] st->if decide (z<Z)=true then A/\(C<=z/\z<Z)/\(List.length A1=List.length A0/\(List.length A1+List.length A3)*(16:Nat)<=c)/\if decide (A2.kind=(3:Int))=true then A/\(Option.isSome (some A2.term)=true/\Option.isSome A4=true)/\if(!decide (A5.f.err=C))=true then E/\A5.f.err=e.f.err/\A5.f.pos=e.f.pos/\A5.st=e.st/\H else((A6/\A6)/\(List.length x_1.2.1+List.length A7)*(128:Nat)<=c)/\A8/\∃(y:(Nat×Option Scp)×List Exp×Int),let B5:=List.take y.1.1 m.decls;let B6:=List.length x_1.2.1+List.length A7=List.length y.2.1;(y.1.1<=List.length m.decls/\List.length y.2.1<=y.1.1/\cK V m.name (List.drop y.1.1 m.decls) y.1.2 y.2.1 y.2.2=cK V m.name m.decls W.s [] st)/\List.length m.decls-y.1.1<List.length m.decls-x_1.1.1/\z+T=(↑y.1.1:Int)/\eC x_1.1.2 [] A2.name A5.v=y.1.2/\List.map X A0++A3=List.map X B5/\B6/\List.length (x_1.2.1++A7)=List.length y.2.1/\q/\J/\K/\L/\M/\O/\L/\a/\List.length A9=List.length B5/\B6/\x_1.2.1++A7=y.2.1/\A5.st=y.2.2/\P else A8/\∃(y:(Nat×Option Scp)×List Exp×Int),let B5:=List.take y.1.1 m.decls;let B6:=List.length x_1.2.1=List.length y.2.1;(y.1.1<=List.length m.decls/\List.length y.2.1<=y.1.1/\cK V m.name (List.drop y.1.1 m.decls) y.1.2 y.2.1 y.2.2=cK V m.name m.decls W.s [] st)/\List.length m.decls-y.1.1<List.length m.decls-x_1.1.1/\z+T=(↑y.1.1:Int)/\x_1.1.2=y.1.2/\List.map X A0++A3=List.map X B5/\B6/\B6/\q/\J/\K/\L/\M/\O/\L/\a/\List.length A9=List.length B5/\B6/\x_1.2.1=y.2.1/\x_1.2.2=y.2.2/\P else A/\(∃(x_2:Nat),(x_2<=List.length m.exports/\(List.all (List.take x_2 m.exports) fun(s:Str)=>decide (s∈List.map X m.decls))=true)/\C=(↑x_2:Int)/\B0)/\∀(x_2:Nat),let B5:=(↑x_2:Int);x_2<=List.length m.exports/\(List.all (List.take x_2 m.exports) fun(s:Str)=>decide (s∈List.map X m.decls))=true->if decide (B5<g)=true then(C<=B5/\B5<g)/\
  if(!decide (List.getD m.exports (Int.toNat B5) (dfl Ty.str)∈List.map X A0))=true then A/\E/\(150:Int)=e.f.err/\m.pos=e.f.pos/\B1 else inR IntKind.i64 (B5+T)/\∃(y:Nat),(y<=List.length m.exports/\(List.all (List.take y m.exports) fun(s:Str)=>decide (s∈List.map X m.decls))=true)/\List.length m.exports-y<List.length m.exports-x_2/\B5+T=(↑y:Int)/\B0 else((A6/\A6)/\List.length x_1.2.1<=B)/\((B3/\List.length B4=List.length B4)/\List.Nodup (List.map (fun(x:den (Ty.st SN.exp))=>x.name) B4)/\List.length B4<=B)/\((B3/\List.length B4=List.length (mT B4))/\True)/\D=false/\mT B4=e.l/\B1:=by
 conv=>zeta
 obtain⟨⟨o1,o2⟩,oa⟩:=ho;have li:=hm.modu_imports.len;have lx:=hm.modu_exports.len;unfold iH at he;simp only[Nh,PI,O9,NP,Oy,Ka];obtain⟨I,hI⟩:∃I,I=eJ ah m.imports bN:=⟨_,rfl⟩;simp only[<-hI]at he⊢;refine⟨⟨o1,o2⟩,aa (fun h=>?_) (fun h=>?_)⟩
 ·rw[MS (ep h)]at he;cases he;exact⟨h,(by repeat' (first|exact trivial|rfl|apply And.intro))⟩
 have h0:cd m=0:=fx h;rw[MT h0]at he;unfold vl at he;refine⟨⟨(0,bN),⟨N2 _,by rw[hI];rfl⟩,(by repeat' (first|exact trivial|rfl|apply And.intro))⟩,?_⟩;rintro⟨k,s⟩ ⟨h1,h2⟩;simp only at h1 h2⊢;apply aa<;>intro h
 ·have h:=Xo h;have hk:k<m.imports.length:=by omega
  rw[az m.imports k (dfl (.st .imp)) hk]at h2;simp only[eJ]at h2;refine⟨⟨by omega,h⟩,aa (fun c=>?_) (fun c=>?_)⟩
  ·have c:bX (K:=Str) ah (m.imports.getD k (dfl (.st .imp))).name=none:=by
    cases q:bX (K:=Str) ah (m.imports.getD k (dfl (.st .imp))).name with
    |none=>rfl
    |some l=>rw[q]at c;cases c
   rw[c]at h2;simp only at h2;rw[<-h2,MS (by show ¬(282:Int)=0;decide)]at he;cases he;exact⟨rfl,(by repeat' (first|exact trivial|rfl|apply And.intro))⟩
  ·obtain⟨l,q⟩:∃l,bX (K:=Str) ah (m.imports.getD k (dfl (.st .imp))).name=some l:=by
    cases q:bX (K:=Str) ah (m.imports.getD k (dfl (.st .imp))).name with|none=>rw[q]at c;exact absurd rfl c|some l=>exact⟨l,rfl⟩
   rw[q]at h2;simp only at h2;have ll:=Cb oa q;simp only[q,NL,Xs];refine⟨⟨(0,s),⟨l,rfl,N2 _,h2⟩,(by repeat' (first|exact trivial|rfl|apply And.intro))⟩,?_⟩;rintro⟨j,s'⟩ ⟨l',q',g1,g2⟩;cases q';simp only at g1 g2⊢;apply aa<;>intro h
   ·have h:=Xo h;have hj:j<l.length:=by omega
    rw[az l j (dfl (.st .exp)) hj]at g2;exact⟨⟨by omega,h⟩,aD (by omega) (by omega),(j+1,_),⟨l,rfl,hj,g2⟩,by simp only;omega,by simp only;omega,(by repeat' (first|exact trivial|rfl|apply And.intro))⟩
   ·have h:¬((j:Int)<(l.length:Int)):=fun e=>h (Xd e);have e:j=l.length:=by omega
    subst e;rw[Nj]at g2;exact⟨aD (by omega) (by omega),(k+1,s'),⟨hk,g2⟩,by simp only;omega,by simp only;omega,(by repeat' (first|exact trivial|rfl|apply And.intro))⟩
 ·have h:¬((k:Int)<(m.imports.length:Int)):=fun e=>h (Xd e);have e0:k=m.imports.length:=by omega
  subst e0;rw[Nj]at h2;simp only[eJ]at h2;rw[<-h2]at he;rw[MT rfl]at he;simp only[<-h2];obtain⟨e1,hd,rfl⟩:=N3.1 he;simp only at hd;rw[hd];refine⟨⟨((0,s),([],st)),⟨N2 _,N2 _,hd⟩,(by repeat' (first|exact trivial|rfl|apply And.intro))⟩,?_⟩;rintro⟨⟨j,s'⟩,⟨out,st'⟩⟩ ⟨g1,g2,g3⟩;simp only at g1 g2 g3⊢;apply aa<;>intro h
  ·have h:=Xo h;have hj:j<m.decls.length:=by omega
   have tn:(m.decls.take (j+1)).map (·.name)=(m.decls.take j).map (·.name)++[(m.decls.getD j (dfl (.st .decl))).name]:=by rw[eh m.decls j (dfl (.st .decl)) hj,Pc];rfl
   have tl:(m.decls.take j).length=j:=by rw[Oj];omega
   have tl1:(m.decls.take (j+1)).length=j+1:=by rw[Oj];omega
   rw[az m.decls j (dfl (.st .decl)) hj]at g3;simp only[cK]at g3;have mp:∀x:Exp,out.length+[x].length=out.length+1:=fun _=>rfl;refine⟨⟨by omega,h⟩,⟨by rw[NT],by rw[NT,tl,NJ];omega⟩,aa (fun c=>?_) (fun c=>?_)⟩
   ·have c:=Xo c;rw[MT c]at g3
    obtain⟨v,q⟩:∃v,ao mo n (m.decls.getD j (dfl (.st .decl))).term ⟨s',m.name⟩ st'=some v:=by
     cases q:ao mo n (m.decls.getD j (dfl (.st .decl))).term ⟨s',m.name⟩ st' with
     |none=>rw[q]at g3;cases g3
     |some v=>exact⟨v,rfl⟩
    rw[q]at g3;simp only at g3;simp only[q,bV,Oy,O9];apply aa<;>intro f
    ·rw[MS (ep f)]at g3;cases g3;have b:jE m ⟨v.f,[],v.st⟩=⟨v.f,[],v.st⟩:=MS (ep f);rw[b];exact⟨f,(by repeat' (first|exact trivial|rfl|apply And.intro))⟩
    ·rw[MT (fx f)]at g3;refine⟨by rw[NJ];omega,aD (by omega) (by omega),((j+1,_),(out++[_],_)),⟨hj,by simp only[NK,NJ];omega,g3⟩,by simp only;omega,by simp only;omega,rfl,tn.symm,by simp only[NK],rfl,by rw[NK,NT,tl,NJ,tl1],by simp only[NK],(by repeat' (first|exact trivial|rfl|apply And.intro))⟩
   ·have c:¬(m.decls.getD j (dfl (.st .decl))).kind=3:=fun e=>c (Xd e);rw[MS c]at g3;exact⟨aD (by omega) (by omega),((j+1,s'),(out,st')),⟨hj,by simp only;omega,g3⟩,by simp only;omega,by simp only;omega,rfl,tn.symm,rfl,rfl,by rw[NK,NT,tl,NJ,tl1],(by repeat' (first|exact trivial|rfl|apply And.intro))⟩
  ·have h:¬((j:Int)<(m.decls.length:Int)):=fun e=>h (Xd e);have e0:j=m.decls.length:=by omega
   subst e0;rw[Nj]at g3;simp only[cK,Xs]at g3;subst g3;obtain⟨zs,z1,z2⟩:=kr _ _ _ _ _ hd rfl;rw[Oa]at z1;simp only at z1;rw[<-z1]at z2;have nd:((dX m out).map (·.name)).Nodup:=(z2.nodup (zi h0)).sublist (List.filter_sublist.map _);have b0:jE m ⟨⟨0,0⟩,out,st'⟩=(if K8 m=true then⟨⟨0,0⟩,mT (dX m out),st'⟩else⟨⟨150,m.pos⟩,[],st'⟩):=MT rfl;simp only[Ob,b0];refine⟨⟨0,⟨N2 _,rfl⟩,(by repeat' (first|exact trivial|rfl|apply And.intro))⟩,?_⟩;rintro i ⟨i1,i2⟩;apply aa<;>intro h
   ·have h:=Xo h;have hi:i<m.exports.length:=by omega
    refine⟨⟨by omega,h⟩,aa (fun c=>?_) (fun c=>?_)⟩
    ·have nx:¬K8 m=true:=fun q=>by have:=N6.1 q _ (bG m.exports i (dfl .str) hi);rw[this]at c;cases c
     rw[MS nx];exact(by repeat' (first|exact trivial|rfl|apply And.intro))
    ·have c:decide ((m.exports.getD i (dfl .str))∈m.decls.map (·.name))=true:=by simpa using c
     refine⟨aD (by omega) (by omega),i+1,⟨hi,?_⟩,by omega,by omega⟩;rw[eh m.exports i (dfl .str) hi,List.all_append,i2,Ny,c];rfl
   ·have h:¬((i:Int)<(m.exports.length:Int)):=fun e=>h (Xd e);have e0:i=m.exports.length:=by omega
    subst e0;rw[Ob]at i2;have hx:K8 m=true:=i2;rw[MT hx];have kl:=zg m out;exact⟨by omega,⟨nd,by omega⟩,by rw[mT,PL],(by repeat' (first|exact trivial|rfl|apply And.intro))⟩
theorem IF(n m:Nat)(l:List Modu)(mo:Int)(p:Prg)(hl:Wf (.lst (.st .modu)) l)(ho:(∀x∈l,x.decls.all aW=true/\x.decls.length<=1000000))(hp:dm n m l mo=some p) :
  let A:=(1000000:Nat);let B:=ao mo n;let C:=(0:Int);let D:=(↑(List.length l):Int);let E:=mo=mo/\True;let F:=dfl (Ty.st SN.modu);let G:=!decide (p.f.err=C);let H:=(1:Int);let I:=oB (dE B l [] [] C);let J:=dfl (Ty.st SN.exp);(∃(x:(Nat×Ahd)×List Exp×Int),(x.1.1<=List.length l/\(∀(y:Str×List Exp),y∈x.1.2->List.length y.2<=A)/\List.length x.2.1<=A/\dE B (List.drop x.1.1 l) x.1.2 x.2.1 x.2.2=dE B l [] [] C)/\C=(↑x.1.1:Int)/\x.2.1=[]/\l=l/\D=D/\[]=x.1.2/\C=x.2.2/\E)/\∀(x:(Nat×Ahd)×List Exp×Int),let K:=(↑x.1.1:Int);let L:=C<=K/\K<D;let M:=List.getD l (Int.toNat K) F;let N:=iH B M x.1.2 x.2.2;let O:=oB N;let P:=x.2.1=x.2.1;let Q:=(↑(List.length x.2.1):Int);let R:=x.1.2=x.1.2/\x.2.2=x.2.2/\E;let S:=x.2.2=p.st/\E;x.1.1<=List.length l/\(∀(y:Str×List Exp),y∈x.1.2->List.length y.2<=A)/\List.length x.2.1<=A/\dE B (List.drop x.1.1 l) x.1.2 x.2.1 x.2.2=dE B l [] [] C->if decide (K<D)=true then L/\(((List.all M.decls aW=true/\List.length M.decls<=A)/\∀(x_1:Str×List Exp),x_1∈x.1.2->List.length x_1.2<=A)/\Option.isSome N=true)/\if(!decide (O.f.err=C))=true then G=true/\O.f.err=p.f.err/\O.f.pos=p.f.pos/\p.l=[]/\O.st=p.st/\E else L/\inR IntKind.i64 (K+H)/\∃(y:(Nat×Ahd)×List Exp×Int),(y.1.1<=List.length l/\(∀(y_1:Str×List Exp),y_1∈y.1.2->List.length y_1.2<=A)/\List.length y.2.1<=A/\dE B (List.drop y.1.1 l) y.1.2 y.2.1 y.2.2=dE B l [] [] C)/\List.length l-y.1.1<List.length l-x.1.1/\K+H=(↑y.1.1:Int)/\O.l=y.2.1/\l=l/\D=D/\eL x.1.2 M.name O.l=y.1.2/\O.st=y.2.2/\E else(∃(x_1:Nat×List Cel),(x_1.1<=List.length I.l/\List.length x_1.2<=x_1.1/\dY m (List.drop x_1.1 I.l) x_1.2=dY m I.l [])/\C=(↑x_1.1:Int)/\K=K/\P/\l=l/\D=D/\false=false/\P/\Q=Q/\x_1.2=[]/\List.length x_1.2=(0:Nat)/\R)/\∀(x_1:Nat×List Cel),let T:=(↑x_1.1:Int);let U:=List.getD x.2.1 (Int.toNat T) J;let V:=cb m U.what U.pos;let W:=uf V;let X:=x_1.2=p.l/\S;let Y:=[{name:=U.name,value:=(AL.Vlu.mk (W.v.kind) (W.v.n) (W.v.pkg) (W.v.text) (W.v.names) (W.v.parts)):Cel}];x_1.1<=List.length I.l/\List.length x_1.2<=x_1.1/\dY m (List.drop x_1.1 I.l) x_1.2=dY m I.l []->if decide (T<Q)=true then(C<=T/\T<Q)/\Option.isSome V=true/\if(!decide (W.f.err=C))=true then G=true/\W.f.err=p.f.err/\W.f.pos=p.f.pos/\X else(List.length x_1.2=List.length x_1.2/\(List.length x_1.2+List.length Y)*(112:Nat)<=(140737488355328:Nat))/\inR IntKind.i64 (T+H)/\∃(y:Nat×List Cel),(y.1<=List.length I.l/\List.length y.2<=y.1/\dY m (List.drop y.1 I.l) y.2=dY m I.l [])/\List.length I.l-y.1<List.length I.l-x_1.1/\T+H=(↑y.1:Int)/\K=K/\P/\l=l/\D=D/\false=false/\P/\Q=Q/\x_1.2++Y=y.2/\List.length (x_1.2++Y)=List.length y.2/\R else G=false/\X:=by
 conv=>zeta
 have ln:=hl.len;unfold dm at hp;obtain⟨E,hE1,hp⟩:=O7.1 hp;simp only[hE1,th,Nh,PI,O9,NP];unfold tj at hp;have eta:∀v:Vlu,(⟨v.kind,v.n,v.pkg,v.text,v.names,v.parts⟩:Vlu)=v:=fun v=>by cases v;rfl
 refine⟨⟨((0,[]),([],0)),⟨N2 _,fun _ h=>absurd h (by simp),N2 _,hE1⟩,(by repeat' (first|exact trivial|rfl|apply And.intro))⟩,?_⟩;rintro⟨⟨k,ah⟩,⟨last,st⟩⟩ ⟨h1,h2,h3,h4⟩;simp only at h1 h2 h3 h4⊢;apply aa<;>intro h
 ·have h:=Xo h;have hk:k<l.length:=by omega
  have om:=ho _ (bG l k (dfl (.st .modu)) hk);rw[az l k (dfl (.st .modu)) hk]at h4;simp only[dE]at h4
  obtain⟨x,q⟩:∃x,iH (ao mo n) (l.getD k (dfl (.st .modu))) ah st=some x:=by
   cases q:iH (ao mo n) (l.getD k (dfl (.st .modu))) ah st with
   |none=>rw[q]at h4;cases h4
   |some x=>exact⟨x,rfl⟩
  rw[q]at h4;simp only at h4;simp only[q,th,Oy,NP];refine⟨⟨by omega,h⟩,⟨om,h2⟩,aa (fun f=>?_) (fun f=>?_)⟩
  ·rw[MS (ep f)]at h4;cases h4;rw[MS (ep f)]at hp;cases hp;exact⟨f,(by repeat' (first|exact trivial|rfl|apply And.intro))⟩
  ·rw[MT (fx f)]at h4;have xl:x.l.length<=1000000:=NZ (Kb q) om.2;exact⟨⟨by omega,h⟩,aD (by omega) (by omega),((k+1,_),(x.l,x.st)),⟨hk,Cc h2 xl,xl,h4⟩,by simp only;omega,by simp only;omega,(by repeat' (first|exact trivial|rfl|apply And.intro))⟩
 ·have h:¬((k:Int)<(l.length:Int)):=fun e=>h (Xd e);have e0:k=l.length:=by omega
  subst e0;rw[Nj]at h4;simp only[dE,Xs]at h4;subst h4;rw[MT rfl]at hp;obtain⟨c,hc,rfl⟩:=N3.1 hp;simp only at hc⊢;refine⟨⟨(0,[]),⟨N2 _,N8 _,rfl⟩,(by repeat' (first|exact trivial|rfl|apply And.intro))⟩,?_⟩;rintro⟨j,out⟩ ⟨g1,g2,g3⟩;simp only at g1 g2 g3⊢;rw[hc]at g3;apply aa<;>intro h
  ·have h:=Xo h;have hj:j<last.length:=by omega
   rw[az last j (dfl (.st .exp)) hj]at g3;simp only[dY]at g3
   obtain⟨x,q⟩:∃x,cb m (last.getD j (dfl (.st .exp))).what (last.getD j (dfl (.st .exp))).pos=some x:=by
    cases q:cb m (last.getD j (dfl (.st .exp))).what (last.getD j (dfl (.st .exp))).pos with
    |none=>rw[q]at g3;cases g3
    |some x=>exact⟨x,rfl⟩
   rw[q]at g3;simp only at g3;simp only[q,pz,Oy,O9,eta];refine⟨⟨by omega,h⟩,aa (fun f=>?_) (fun f=>?_)⟩
   ·rw[MS (ep f)]at g3;cases g3;exact⟨f,(by repeat' (first|exact trivial|rfl|apply And.intro))⟩
   ·rw[MT (fx f)]at g3;exact⟨by rw[NJ];omega,aD (by omega) (by omega),(j+1,out++[_]),⟨hj,by simp only[NK,NJ];omega,by rw[hc];exact g3⟩,by simp only;omega,by simp only;omega,(by repeat' (first|exact trivial|rfl|apply And.intro))⟩
  ·have h:¬((j:Int)<(last.length:Int)):=fun e=>h (Xd e);have e0:j=last.length:=by omega
   subst e0;rw[Nj]at g3;simp only[dY,Xs]at g3;subst g3;exact(by repeat' (first|exact trivial|rfl|apply And.intro))
theorem KB(n m:Nat)(l:List Modu)(mo:Int)(p:Prg)(hl:Wf (.lst (.st .modu)) l)(ho:(∀x∈l,x.decls.all aW=true/\x.decls.length<=1000000))(hp:dm n m l mo=some p) :
  let A:=dm n m l mo;let B:=jF A;let C:=(0:Int);let D:=B.l=p.l/\B.st=p.st/\mo=mo/\True;((∀(x:Modu),x∈l->List.all x.decls aW=true/\List.length x.decls<=(1000000:Nat))/\Option.isSome A=true)/\if(!decide (B.f.err=C))=true then B.f.err=p.f.err/\B.f.pos=p.f.pos/\D else C=p.f.err/\C=p.f.pos/\D:=by
 conv=>zeta
 simp only[hp,mz,Oy,NP];refine⟨ho,aa (fun hc=>?_) (fun hc=>?_)⟩
 ·exact(by repeat' (first|exact trivial|rfl|apply And.intro))
 ·rw[Mp hp (fx hc)];exact(by repeat' (first|exact trivial|rfl|apply And.intro))
theorem KC(n m:Nat)(l:List Modu)(k:Int)(p:Prg)(hl:Wf (.lst (.st .modu)) l)(hk:Wf (.int .i64) k)(ho:(∀x∈l,x.decls.all aW=true/\x.decls.length<=1000000))(hp:dH n m l k=some p) :
  let A:=(0:Int);let B:=True/\p.l=[]/\A=p.st/\(2:Int)=p.f.err/\A=p.f.pos/\True;let C:=dm n m l k;let D:=jF C;let E:=D.f=p.f/\True;if decide ((↑(List.length l):Int)=A)=true then B else if decide (k<A)=true then B else if decide ((2000:Int)<k)=true then B else((∀(x:Modu),x∈l->List.all x.decls aW=true/\List.length x.decls<=(1000000:Nat))/\Option.isSome C=true)/\if(!decide (D.f.err=A))=true then True/\p.l=[]/\A=p.st/\E else True/\D.l=p.l/\D.st=p.st/\E:=by
 conv=>zeta
 have z:l=[]∨k<0∨2000<k->p=⟨[],0,⟨2,0⟩⟩:=fun q=>by unfold dH at hp;rw[MT q]at hp;exact(Nk hp).symm
 apply aa<;>intro h
 ·have e:=Xo h;rw[z (.inl (N5 (by omega)))];exact(by repeat' (first|exact trivial|rfl|apply And.intro))
 apply aa<;>intro h1
 ·rw[z (.inr (.inl (Xo h1)))];exact(by repeat' (first|exact trivial|rfl|apply And.intro))
 apply aa<;>intro h2
 ·rw[z (.inr (.inr (Xo h2)))];exact(by repeat' (first|exact trivial|rfl|apply And.intro))
 have hn:¬(l=[]∨k<0∨2000<k):=by
  rintro(q|q|q)
  ·subst q;exact h rfl
  ·exact h1 (Xd q)
  ·exact h2 (Xd q)
 unfold dH at hp;rw[MS hn]at hp;obtain⟨r,hr,rfl⟩:=N3.1 hp;simp only[hr,mz,Oy,NP];refine⟨ho,aa (fun c=>?_) (fun c=>?_)⟩
 ·rw[show wS r=⟨[],0,r.f⟩from MS (ep c)];exact(by repeat' (first|exact trivial|rfl|apply And.intro))
 ·rw[show wS r=r from MT (fx c)];exact(by repeat' (first|exact trivial|rfl|apply And.intro))
theorem CA(l:List Modu)(N:Nat)(hl:Wf (.lst (.st .modu)) l)(ho:∀m∈l,m.imports.length<=1048576)(hN:∀m∈l,∀d∈m.decls,sz d.shape<=N/\szT d.term<=N) :
  let A:=(0:Int);let B:=(600:Int);let C:=l=l;let D:=True;let E:=(↑(List.length l):Int);let F:=(20:Int);let G:=dfl (Ty.st SN.modu);let H:=D/\false=lgM l A/\D;let I:=(60:Int);let J:=(1:Nat);let K:=true=true;let L:=false=false;let M:=C/\K/\L/\D;let O:=dfl (Ty.st SN.decl);let P:=(300:Int);let Q:=A<=P/\P<=(1000000:Int);let R:=(1:Int);let S:=C/\K/\L/\L/\D;let T:=dfl (Ty.st SN.imp);(∃(x:Nat×Int),(x.1<=List.length l/\A<=x.2/\x.2<=B/\lgM (List.drop x.1 l) x.2=lgM l A)/\A=x.2/\A=(↑x.1:Int)/\C/\D)/\∀(x:Nat×Int),let U:=(↑x.1:Int);let V:=A<=U/\U<E;let W:=List.getD l (Int.toNat U) G;let X:=(↑(List.length W.imports):Int);let Y:=F+X;let Z:=(↑(List.length W.decls):Int);let a:=List.drop (Int.toNat U+J) l;x.1<=List.length l/\A<=x.2/\x.2<=B/\lgM (List.drop x.1 l) x.2=lgM l A->if decide (U<E)=true then V/\inR IntKind.i64 Y/\inR IntKind.i64 (x.2+Y)/\if decide (B<x.2+Y)=true then H else V/\if decide (F<X)=true then H else V/\if decide ((80:Int)<(↑(List.length W.exports):Int))=true then H else V/\if decide (I<Z)=true then H else(∃(x_1:Nat×Int),(x_1.1<=List.length W.decls/\A<=x_1.2/\x_1.2<=B/\lgA (lgD (List.drop x_1.1 W.decls) x_1.2) W (lgM a)=lgM l A)/\x.2+Y=x_1.2/\A=(↑x_1.1:Int)/\U=U/\M)/\∀(x_1:Nat×Int),let b:=(↑x_1.1:Int);let c:=A<=b/\b<Z;let d:=List.getD W.decls (Int.toNat b) O;let e:=dI d.term P+sizeF d.shape P;let f:=x_1.2=x_1.2;let g:=f/\b=b/\U=U/\S;x_1.1<=List.length W.decls/\A<=x_1.2/\x_1.2<=B/\lgA (lgD (List.drop x_1.1 W.decls) x_1.2) W (lgM a)=lgM l A->V/\if decide (b<Z)=true then V/\c/\(szT d.term<=N/\Q)/\V/\c/\(sz d.shape<=N/\Q)/\inR IntKind.i64 e/\inR IntKind.i64 (x_1.2+e)/\if decide (B<x_1.2+e)=true then H else inR IntKind.i64 (b+R)/\∃(y:Nat×Int),(y.1<=List.length W.decls/\A<=y.2/\y.2<=B/\lgA (lgD (List.drop y.1 W.decls) y.2) W (lgM a)=lgM l A)/\List.length W.decls-y.1<List.length W.decls-x_1.1/\x_1.2+e=y.2/\b+R=(↑y.1:Int)/\U=U/\M else(∃(x_2:Nat),(x_2<=List.length W.imports/\(List.all (List.drop x_2 W.imports) lgI&&lgM a x_1.2)=lgM l A)/\A=(↑x_2:Int)/\g)/\∀(x_2:Nat),let h:=(↑x_2:Int);let i:=Int.toNat h;let j:=List.getD W.imports i T;let k:=(↑(List.length j.range):Int);let m:=List.all (List.drop (Int.toNat h+J) W.imports) lgI&&lgM a x_1.2;let n:=h=h/\f/\b=b/\U=U/\C/\K/\L/\L/\K/\L/\List.getD W.imports i T=List.getD W.imports i T/\D;x_2<=List.length W.imports/\(List.all (List.drop x_2 W.imports) lgI&&lgM a x_1.2)=lgM l A->V/\if decide (h<X)=true then V/\(A<=h/\h<X)/\if decide ((30:Int)<k)=true then H else if decide (I<(↑(List.length j.pin.pre):Int))=true then H else(∃(x_3:Nat),(x_3<=List.length j.range/\(lgR (List.drop x_3 j.range)&&m)=lgM l A)/\A=(↑x_3:Int)/\n)/\∀(x_3:Nat),let o:=(↑x_3:Int);x_3<=List.length j.range/\(lgR (List.drop x_3 j.range)&&m)=lgM l A->if decide (o<k)=true then(A<=o/\o<k)/\if decide (I<(↑(List.length (List.getD j.range (Int.toNat o) (dfl (Ty.st SN.bound))).v.pre):Int))=true then H else inR IntKind.i64 (o+R)/\∃(y:Nat),(y<=List.length j.range/\(lgR (List.drop y j.range)&&m)=lgM l A)/\List.length j.range-y<List.length j.range-x_3/\o+R=(↑y:Int)/\n else inR IntKind.i64 (h+R)/\∃(y:Nat),(y<=List.length W.imports/\(List.all (List.drop y W.imports) lgI&&lgM a x_1.2)=lgM l A)/\List.length W.imports-y<List.length W.imports-x_2/\h+R=(↑y:Int)/\g else inR IntKind.i64 (U+R)/\∃(y:Nat×Int),(y.1<=List.length l/\A<=y.2/\y.2<=B/\lgM (List.drop y.1 l) y.2=lgM l A)/\List.length l-y.1<List.length l-x.1/\x_1.2=y.2/\U+R=(↑y.1:Int)/\C/\D else D/\true=lgM l A/\D:=by
 conv=>zeta
 have ln:=hl.len;refine⟨⟨(0,0),⟨N2 _,by omega,by omega,rfl⟩,(by repeat' (first|exact trivial|rfl|apply And.intro))⟩,?_⟩;rintro⟨i,n⟩ ⟨h1,h2,h3,h4⟩;dsimp only at h1 h2 h3 h4⊢;apply aa<;>intro hk
 ·have hk:=Xo hk;have hi:i<l.length:=by omega
  have hm:=bG l i (dfl (.st .modu)) hi;have wm:=hl.mem hm;have hNm:=hN _ hm;have li:=ho _ hm;rw[az l i (dfl (.st .modu)) hi,lgM]at h4;have e0:l.getD (Int.toNat (i:Int)) (dfl (.st .modu))=l.getD i (dfl (.st .modu)):=rfl;rw[<-e0]at h4 hm wm hNm li;generalize l.getD (Int.toNat (i:Int)) (dfl (.st .modu))=m at h4 hm wm hNm li⊢;simp only[Nh,PI,O9,NP];have ld:=wm.modu_decls.len;have bad:lgH m n=false->false=lgM l 0:=fun e=>by rw[e,Nb]at h4;exact h4
  refine⟨by omega,aD (by omega) (by omega),aD (by omega) (by omega),aa (fun c=>bad (Og.2 fun e=>?_)) (fun c1=>⟨by omega,aa (fun c=>bad (Og.2 fun e=>?_)) (fun c2=>⟨by omega,aa (fun c=>bad (Og.2 fun e=>?_)) (fun c3=>⟨by omega,aa (fun c=>bad (Og.2 fun e=>?_)) (fun c4=>?_)⟩)⟩)⟩)⟩
  ·have:=ku.1 e;have:=Xo c;omega
  ·have:=ku.1 e;have:=Xo c;omega
  ·have:=ku.1 e;have:=Xo c;omega
  ·have:=ku.1 e;have:=Xo c;omega
  have d1:¬(600:Int)<n+(20+(m.imports.length:Int)):=fun z=>c1 (Xd z);have d2:¬(20:Int)<(m.imports.length:Int):=fun z=>c2 (Xd z);have d3:¬(80:Int)<(m.exports.length:Int):=fun z=>c3 (Xd z);have d4:¬(60:Int)<(m.decls.length:Int):=fun z=>c4 (Xd z);have e1:lgH m n=true:=ku.2 ⟨by omega,by omega,by omega,by omega⟩;rw[e1,NH]at h4;clear bad e1 c1 c2 c3 c4;refine⟨⟨(0,n+(20+(m.imports.length:Int))),⟨N2 _,by simp only;omega,by simp only;omega,h4⟩,rfl,rfl⟩,?_⟩;rintro⟨k,n2⟩ ⟨k1,k2,k3,k4⟩;simp only at k1 k2 k3 k4⊢;refine⟨by omega,aa (fun c=>?_) (fun c=>?_)⟩
  ·have c:=Xo c;have ck:k<m.decls.length:=by omega
   rw[az m.decls k (dfl (.st .decl)) ck,lgD]at k4;obtain⟨z1,z2⟩:=hNm _ (bG m.decls k (dfl (.st .decl)) ck);have a:=sizeT_bd (m.decls.getD k (dfl (.st .decl))).term 300 (by omega);have b:=sizeF_bd (m.decls.getD k (dfl (.st .decl))).shape 300 (by omega);refine⟨by omega,by omega,⟨z2,by omega,by omega⟩,by omega,by omega,⟨z1,by omega,by omega⟩,aD (by omega) (by omega),aD (by omega) (by omega),aa (fun d=>?_) (fun d=>?_)⟩
   ·rw[MT (Xo d)]at k4;exact k4
   ·have d:¬(600:Int)<n2+(dI (m.decls.getD k (dfl (.st .decl))).term 300+sizeF (m.decls.getD k (dfl (.st .decl))).shape 300):=fun z=>d (Xd z);rw[MS d]at k4;exact⟨ba ck ld,(k+1,_),⟨by simp only;omega,by simp only;omega,by simp only;omega,k4⟩,by simp only;omega,rfl,rfl⟩
  ·have e:k=m.decls.length:=by have:¬((k:Int)<(m.decls.length:Int)):=fun e=>c (Xd e);omega
   rw[e,Nj,lgD]at k4;refine⟨⟨0,⟨N2 _,k4⟩,rfl⟩,?_⟩;rintro q ⟨q1,q2⟩;refine⟨by omega,aa (fun c=>?_) (fun c=>?_)⟩
   ·have c:=Xo c;have cq:q<m.imports.length:=by omega
    rw[az m.imports q (dfl (.st .imp)) cq,Ny]at q2;have bad:lgI (m.imports.getD q (dfl (.st .imp)))=false->false=lgM l 0:=fun e=>by rw[e,Nb,Nb]at q2;exact q2
    refine⟨by omega,by omega,aa (fun c=>bad (Og.2 fun e=>?_)) (fun x1=>aa (fun c=>bad (Og.2 fun e=>?_)) (fun x2=>?_))⟩
    ·have:=E1.1 e;have:=Xo c;omega
    ·have:=E1.1 e;have:=Xo c;omega
    have y1:¬(30:Int)<((m.imports.getD q (dfl (.st .imp))).range.length:Int):=fun z=>x1 (Xd z);have y2:¬(60:Int)<((m.imports.getD q (dfl (.st .imp))).pin.pre.length:Int):=fun z=>x2 (Xd z);have lx:lgI (m.imports.getD q (dfl (.st .imp)))=lgR (m.imports.getD q (dfl (.st .imp))).range:=by unfold lgI;rw[Xd (show(m.imports.getD q (dfl (.st .imp))).range.length<=30 by omega),Xd (show(m.imports.getD q (dfl (.st .imp))).pin.pre.length<=60 by omega)];rfl
    rw[lx,Bool.and_assoc]at q2;refine⟨⟨0,⟨N2 _,q2⟩,rfl⟩,?_⟩;rintro j ⟨j1,j2⟩;apply aa<;>intro c
    ·have c:=Xo c;have hj:j<(m.imports.getD q (dfl (.st .imp))).range.length:=by omega
     rw[az (m.imports.getD q (dfl (.st .imp))).range j (dfl (.st .bound)) hj,I9]at j2;refine⟨by omega,aa (fun d=>?_) (fun d=>?_)⟩
     ·have d:=Xo d;rw[Xf (show ¬((m.imports.getD q (dfl (.st .imp))).range.getD j (dfl (.st .bound))).v.pre.length<=60 by omega),Nb,Nb]at j2;exact j2
     ·have d:¬(60:Int)<(((m.imports.getD q (dfl (.st .imp))).range.getD j (dfl (.st .bound))).v.pre.length:Int):=fun z=>d (Xd z);rw[Xd (show((m.imports.getD q (dfl (.st .imp))).range.getD j (dfl (.st .bound))).v.pre.length<=60 by omega),NH]at j2;exact⟨aD (by omega) (by omega),j+1,⟨by omega,j2⟩,by omega,by omega⟩
    ·have e:j=(m.imports.getD q (dfl (.st .imp))).range.length:=by have:¬((j:Int)<((m.imports.getD q (dfl (.st .imp))).range.length:Int)):=fun e=>c (Xd e);omega
     rw[e,Nj]at j2;exact⟨aD (by omega) (by omega),q+1,⟨by omega,j2⟩,by omega,by omega⟩
   ·have e:q=m.imports.length:=by have:¬((q:Int)<(m.imports.length:Int)):=fun e=>c (Xd e);omega
    rw[e,Nj]at q2;exact⟨ba hi ln,(i+1,n2),⟨by simp only;omega,k2,k3,q2⟩,by simp only;omega,rfl,rfl⟩
 ·have e:i=l.length:=by have:¬((i:Int)<(l.length:Int)):=fun e=>hk (Xd e);omega
  rw[e,Nj]at h4;exact⟨trivial,h4,trivial⟩
theorem FO(l:List Cel)(hl:Wf (.lst (.st .cell)) l)(hz:kH l) :
  let A:=(↑(List.length l):Int);let B:=True/\false=true/\True;let C:=(0:Int);let D:=l=l/\l=l/\false=false/\True;let E:=dfl (Ty.st SN.cell);if(!decide (A=A))=true then B else(∃(x:Nat),x<=List.length l/\C=(↑x:Int)/\D)/\∀(x:Nat),let F:=(↑x:Int);let G:=C<=F/\F<A;let H:=List.getD l (Int.toNat F) E;x<=List.length l->if decide (F<A)=true then G/\G/\if(!decide (H.name=H.name))=true then B else G/\G/\(H.value=H.value/\szV H.value<=(2000:Nat))/\inR IntKind.i64 (F+(1:Int))/\∃(y:Nat),y<=List.length l/\List.length l-y<List.length l-x/\F+(1:Int)=(↑y:Int)/\D else True/\true=true/\True:=by
 conv=>zeta
 have ln:=hl.len;refine aa (fun h=>absurd rfl (ep h)) (fun _=>?_);refine⟨⟨0,N2 _,(by repeat' (first|exact trivial|rfl|apply And.intro))⟩,?_⟩;intro x hx;refine aa (fun h=>?_) (fun _=>(by repeat' (first|exact trivial|rfl|apply And.intro)));have hx':x<l.length:=by have:=Xo h;omega
 refine⟨⟨by omega,by omega⟩,⟨by omega,by omega⟩,aa (fun q=>absurd rfl (ep q)) (fun _=>?_)⟩;exact⟨⟨by omega,by omega⟩,⟨by omega,by omega⟩,⟨rfl,hz _ (bG l x (dfl (.st .cell)) hx')⟩,ba hx' ln,x+1,by omega,by omega,by omega,(by repeat' (first|exact trivial|rfl|apply And.intro))⟩
theorem uh(l:List Modu)(m:Modu)(k:Int)(hl:Wf (.lst (.st .modu)) l)(hm:Wf (.st .modu) m)(hk:Wf (.int .i64) k)(hs:∀x∈m::l,x.decls.all aW=true)(hi:∀x∈m::l,x.imports.length<=1048576) :
  let A:=(1048576:Nat);let B:=(0:Int);let C:=True/\true=true/\True;let D:=[m];let E:=(↑(List.length l):Int);let F:=List.length D=List.length D;let G:=m=m/\F/\True;let H:=l=l/\m=m/\k=k/\false=false/\G;let I:=dfl (Ty.st SN.modu);let J:=l=l/\m=m/\k=k/\false=false/\true=true/\G;let K:=(1:Int);let L:=(1000000:Nat);let M:=(2001:Nat);let N:=(dH dF M D (2000:Int));let O:=dH dF M l k;let P:=dH dF M (D++l) k;let Q:=jF O;let R:=jF P;let S:=True/\false=true/\True;(∀(m:Modu),m∈l->List.length m.imports<=A)/\if(!lgM l B)=true then C else(∀(m_1:Modu),m_1∈D->List.length m_1.imports<=A)/\if(!lgM D B)=true then C else if decide (E=B)=true then C else(∃(x:Nat),(x<=List.length l/\∀(x_1:Modu),x_1∈List.take x l->∀(y:Impt),y∈x_1.imports->y.name≠m.name)/\B=(↑x:Int)/\H)/\∀(x:Nat),let T:=(↑x:Int);let U:=List.getD l (Int.toNat T) I;let V:=B<=T/\T<E;let W:=(↑(List.length U.imports):Int);(x<=List.length l/\∀(x_1:Modu),x_1∈List.take x l->∀(y:Impt),y∈x_1.imports->y.name≠m.name)->if decide (T<E)=true then(∃(x_1:Nat),(x_1<=List.length U.imports/\∀(y:Impt),y∈List.take x_1 U.imports->y.name≠m.name)/\B=(↑x_1:Int)/\T=T/\J)/\∀(x_1:Nat),let X:=(↑x_1:Int);(x_1<=List.length U.imports/\∀(y:Impt),y∈List.take x_1 U.imports->y.name≠m.name)->V/\if decide (X<W)=true then V/\(B<=X/\X<W)/\if decide ((List.getD U.imports (Int.toNat X) (dfl (Ty.st SN.imp))).name=m.name)=true then C else inR IntKind.i64 (X+K)/\∃(y:Nat),(y<=List.length U.imports/\∀(y_1:Impt),y_1∈List.take y U.imports->y_1.name≠m.name)/\List.length U.imports-y<List.length U.imports-x_1/\X+K=(↑y:Int)/\T=T/\J else inR IntKind.i64 (T+K)/\∃(y:Nat),(y<=List.length l/\∀(x:Modu),x∈List.take y l->∀(y:Impt),y∈x.imports->y.name≠m.name)/\List.length l-y<List.length l-x/\T+K=(↑y:Int)/\H else((∀(x:Modu),x∈D->List.all x.decls aW=true/\List.length x.decls<=L)/\Option.isSome N=true)/\if(!decide ((jF N).f.err=B))=true then C else if(!decide ((jF N).st=B))=true then C else((∀(x:Modu),x∈l->List.all x.decls aW=true/\List.length x.decls<=L)/\Option.isSome O=true)/\(F/\(List.length D+List.length l)*(96:Nat)<=(140737488355328:Nat))/\((∀(x:Modu),x∈D++l->List.all x.decls aW=true/\List.length x.decls<=L)/\Option.isSome P=true)/\(Q.l=R.l/\kH Q.l)/\if decide (Q.st=R.st)=true then if(decide (Q.f.err=R.f.err)&&(decide (Q.f.pos=R.f.pos)&&true))=true then C else S else S:=by
 conv=>zeta
 have ln:=hl.len;have hsm:∀x∈[m],x.decls.all aW=true:=fun x hx=>hs x (N9.2 (.inl (NB.1 hx)));have hsl:∀x∈l,x.decls.all aW=true:=fun x hx=>hs x (N4 _ hx);simp only[Nh];refine⟨fun x hx=>hi x (N4 _ hx),aa (fun _=>(by repeat' (first|exact trivial|rfl|apply And.intro))) (fun c0=>⟨fun x hx=>hi x (N9.2 (.inl (NB.1 hx))),aa (fun _=>(by repeat' (first|exact trivial|rfl|apply And.intro))) (fun c1=>aa (fun _=>(by repeat' (first|exact trivial|rfl|apply And.intro))) (fun c2=>?_))⟩)⟩;have lg:lgM l 0=true:=by simpa using c0
 have lg1:lgM [m] 0=true:=by simpa using c1
 have ll:=Ib l 0 (by decide) lg;have op:∀x∈l,x.decls.all aW=true/\x.decls.length<=1000000:=fun x hx=>⟨hsl x hx,by have:=Ce l 0 lg x hx;omega⟩;have om:∀x∈[m],x.decls.all aW=true/\x.decls.length<=1000000:=fun x hx=>⟨hsm x hx,by have:=Ce [m] 0 lg1 x hx;omega⟩;refine⟨⟨0,⟨N2 _,fun x hx=>(by cases hx)⟩,(by repeat' (first|exact trivial|rfl|apply And.intro))⟩,?_⟩;rintro i ⟨h1,h2⟩;apply aa<;>intro h
 ·have h:=Xo h;have hx:i<l.length:=by omega
  have li:=hi _ (N4 _ (bG l i (dfl (.st .modu)) hx));have tk:=eh l i (dfl (.st .modu)) hx;refine⟨⟨0,⟨N2 _,fun x hx=>(by cases hx)⟩,(by repeat' (first|exact trivial|rfl|apply And.intro))⟩,?_⟩;rintro j ⟨g1,g2⟩;refine⟨⟨by omega,h⟩,aa (fun q=>?_) (fun q=>?_)⟩
  ·have q:=Xo q;have hj:j<(l.getD i (dfl (.st .modu))).imports.length:=by omega
   refine⟨⟨by omega,h⟩,⟨by omega,q⟩,aa (fun _=>(by repeat' (first|exact trivial|rfl|apply And.intro))) (fun w=>?_)⟩;refine⟨aD (by omega) (by omega),j+1,⟨hj,fun y hy=>?_⟩,by omega,by omega,(by repeat' (first|exact trivial|rfl|apply And.intro))⟩;rw[eh (l.getD i (dfl (.st .modu))).imports j (dfl (.st .imp)) hj]at hy;rcases Nv.1 hy with hy|hy
   ·exact g2 y hy
   ·rw[NB.1 hy];exact fun e=>w (Xd e)
  ·have q:¬((j:Int)<((l.getD i (dfl (.st .modu))).imports.length:Int)):=fun e=>q (Xd e);have e:j=(l.getD i (dfl (.st .modu))).imports.length:=by omega
   subst e;rw[Ob]at g2;refine⟨aD (by omega) (by omega),i+1,⟨hx,fun x hx'=>?_⟩,by omega,by omega,(by repeat' (first|exact trivial|rfl|apply And.intro))⟩;rw[tk]at hx';rcases Nv.1 hx' with hx'|hx'
   ·exact h2 x hx'
   ·rw[NB.1 hx'];exact g2
 ·have h:¬((i:Int)<(l.length:Int)):=fun e=>h (Xd e);have e:i=l.length:=by omega
  subst e;rw[Ob]at h2;have nl:l≠[]:=fun e=>by subst e;exact c2 rfl
  obtain⟨r,hr,_⟩:=zp (pB hsm) 2000;obtain⟨p,hp,hz⟩:=zp (pB hsl) k;have e1:([m]++l:List Modu)=m::l:=rfl;simp only[hr,hp,mz,Oy,NP,e1];refine⟨om,aa (fun _=>(by repeat' (first|exact trivial|rfl|apply And.intro))) (fun f0=>aa (fun _=>(by repeat' (first|exact trivial|rfl|apply And.intro))) (fun f1=>?_))⟩;rw[Kg (k:=k) (pB hsm) nl h2 hr (fx f0) (fx f1),hp];simp only[mz,Oy,NP];refine⟨op,⟨trivial,by simp only[NJ];omega⟩,fun x hx=>?_,⟨trivial,hz⟩,aa (fun _=>?_) (fun c=>absurd (Xd trivial) c)⟩
  ·rcases N9.1 hx with rfl|hx
   ·exact om _ (NB.2 rfl)
   ·exact op x hx
  ·refine aa (fun _=>(by repeat' (first|exact trivial|rfl|apply And.intro))) (fun c=>absurd (by simp) c)
end Go.AL.Seat
end
