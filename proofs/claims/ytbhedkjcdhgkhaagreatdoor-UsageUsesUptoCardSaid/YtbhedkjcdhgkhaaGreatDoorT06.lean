/- What the functions' conditions say, proved. No condition. -/
import Derived.Test.YtbhedkjcdhgkhaaGreatDoorT05
set_option linter.all false
set_option maxRecDepth 100000
section
open Go Go.AL Go.Pd
namespace Go.AL.Seat
theorem H5(s:Shape)(hs:Wf (.st .shape) s)(ho:s.parts.length *16<=140737488355328) :
  let A:=(↑(List.length s.names):Int);let B:=True/\false=dC s/\True;let C:=List.length s.names=List.length s.parts;let D:=s=s/\false=false/\s.names=s.names/\A=A/\s=s/\True;let E:=(List.mergeSort s.names fun(x y:Str)=>decide (x<=y));if(!decide (A=(↑(List.length s.parts):Int)))=true then B else(∃(x:Nat),(x<=List.length s.names/\C/\dC s=(List.all (List.drop x s.names) au&&decide (List.Nodup s.names)))/\(0:Int)=(↑x:Int)/\D)/\∀(x:Nat),let F:=(↑x:Int);x<=List.length s.names/\C/\dC s=(List.all (List.drop x s.names) au&&decide (List.Nodup s.names))->if decide (F<A)=true then((0:Int)<=F/\F<A)/\if(!au (List.getD s.names (Int.toNat F) (dfl Ty.str)))=true then B else inR IntKind.i64 (F+(1:Int))/\∃(y:Nat),(y<=List.length s.names/\C/\dC s=(List.all (List.drop y s.names) au&&decide (List.Nodup s.names)))/\List.length s.names-y<List.length s.names-x/\F+(1:Int)=(↑y:Int)/\D else List.length s.names*(16:Nat)<=(140737488355328:Nat)/\List.length E=List.length E/\True/\decide ((↑(List.length (Lib.compact E)):Int)=A)=dC s/\True:=by
 conv=>zeta
 have ln:=hs.names.len;simp only[Kh,Lt,KV,KI];apply aa<;>intro h
 ·have:s.names.length≠s.parts.length:=by simp at h;omega
  simp[dC,this]
 have hl:s.names.length=s.parts.length:=by simp at h;omega
 refine⟨⟨0,⟨by omega,hl,by simp[dC,hl]⟩,rfl⟩,?_⟩;rintro k ⟨h1,_,h3⟩;apply aa<;>intro h
 ·replace h:=Xo h;have hk:k<s.names.length:=by omega
  rw[ai s.names k (dfl .str) hk]at h3;refine⟨by omega,?_⟩;simp only[KR]at h3;cases e:au (s.names.getD k (dfl .str))
  ·rw[e]at h3;rw[h3];simp
  ·simp only[e,KC]at h3;exact⟨aw hk ln,k+1,⟨by omega,hl,h3⟩,by omega,by omega⟩
 ·replace h:¬((k:Int)<(s.names.length:Int)):=fun e=>h (Xd e);have e:k=s.names.length:=by omega
  subst e;have hc:=fM s.names;unfold eK at hc;refine⟨by omega,?_⟩;rw[h3,Km];simp only[NV,KC];rw[L0,<-hc];omega
theorem IF(s:Shape)(hs:Wf (.st .shape) s)(ho:s.parts.length *16<=140737488355328) :
  let A:=(0:Int);let B:=True;let C:=(↑(List.length s.parts):Int);let D:=B/\false=bc s/\B;let E:=if decide ((↑(List.length s.names):Int)=A)=true then B/\decide (C=A)=bc s/\B else D;let F:=if decide (s.name=[])=true then E else D;let G:=if decide (s.name=[])=true then List.length s.parts*(16:Nat)<=(140737488355328:Nat)/\B/\dC s=bc s/\B else D;let H:=if au s.pkg=true then E else D;let I:=if decide (s.kind=(9:Int))=true then if bO s.name=true then if decide (s.pkg=[])=true then if(!kM s.name)=true then E else H else H else D else if decide (s.kind=(10:Int))=true then if bO s.name=true then H else D else D;if decide (s.pkg=[])=true then if decide (s.kind=(1:Int))=true then F else if decide (s.kind=(2:Int))=true then F else if decide (s.kind=(3:Int))=true then F else if decide (s.kind=(4:Int))=true then F else if decide (s.kind=(5:Int))=true then if decide (s.name=[])=true then if decide ((↑(List.length s.names):Int)=A)=true then B/\decide (C=(1:Int))=bc s/\B else D else D else if decide (s.kind=(6:Int))=true then G else if decide (s.kind=(7:Int))=true then G else if decide (s.kind=(8:Int))=true then if decide (s.name=[])=true then if decide ((↑(List.length s.names):Int)=A)=true then B/\decide (A<C)=bc s/\B else D else D else I else if decide (s.kind=(1:Int))=true then D else if decide (s.kind=(2:Int))=true then D else if decide (s.kind=(3:Int))=true then D else if decide (s.kind=(4:Int))=true then D else if decide (s.kind=(5:Int))=true then D else if decide (s.kind=(6:Int))=true then D else if decide (s.kind=(7:Int))=true then D else if decide (s.kind=(8:Int))=true then D else I:=by
 conv=>zeta
 have n0:((s.names.length:Int)=0)↔s.names=[]:=by rw[<-Ln];omega
 have p0:((s.parts.length:Int)=0)↔s.parts=[]:=by rw[<-Ln];omega
 have p1:((s.parts.length:Int)=1)↔s.parts.length=1:=by omega
 have p2:(0<(s.parts.length:Int))↔¬s.parts=[]:=by rw[<-Ln];omega
 simp only[n0,p0,p1,p2,Kc,KV,KI,ho];have hf:bc s=bc s:=rfl;conv at hf=>rhs;unfold bc
 revert hf;generalize bc s=F;generalize dC s=A;generalize bO s.name=B;generalize au s.pkg=C;generalize kM s.name=D;generalize s.kind=K;intro hf
 repeat' (apply aa<;>intro _)
 all_goals (subst hf;simp_all)
theorem B7(n:Nat)(s:Shape)(hs:Wf (.st .shape) s)(hn:sz s<=n+1)(hb:n<=1000000) :
  let A:=True/\false=allS bc s/\True;let B:=(↑(List.length s.parts):Int);let C:=s=s/\false=false/\s.parts=s.parts/\B=B/\s=s/\True;let D:=dfl (Ty.st SN.shape);List.length s.parts*(16:Nat)<=(140737488355328:Nat)/\if(!bc s)=true then A else(∃(x:Nat),(x<=List.length s.parts/\allS bc s=allL bc (List.drop x s.parts))/\(0:Int)=(↑x:Int)/\C)/\∀(x:Nat),let E:=(↑x:Int);let F:=List.getD s.parts (Int.toNat E) D;x<=List.length s.parts/\allS bc s=allL bc (List.drop x s.parts)->if decide (E<B)=true then((0:Int)<=E/\E<B)/\sz F<=n/\if(!allS bc F)=true then A else inR IntKind.i64 (E+(1:Int))/\∃(y:Nat),(y<=List.length s.parts/\allS bc s=allL bc (List.drop y s.parts))/\List.length s.parts-y<List.length s.parts-x/\E+(1:Int)=(↑y:Int)/\C else True/\true=allS bc s/\True:=by
 conv=>zeta
 have ln:=hs.parts.len;have hz:=iP s;have hl:=Cz s.parts;simp only[Kh,Lt,KV,KI];refine⟨by omega,aa (fun h=>?_) (fun h=>?_)⟩
 ·rw[iQ];simp at h;simp[h]
 refine⟨⟨0,⟨by omega,by rw[iQ];simp at h;simp[h]⟩,rfl⟩,?_⟩;rintro k ⟨h1,h3⟩;apply aa<;>intro h
 ·replace h:=Xo h;have hk:k<s.parts.length:=by omega
  have hm:=eZ (aP s.parts k (dfl (.st .shape)) hk);rw[ai s.parts k (dfl (.st .shape)) hk]at h3;simp only[allL]at h3;refine⟨by omega,by omega,?_⟩;cases e:allS bc (s.parts.getD k (dfl (.st .shape)))
  ·rw[e]at h3;rw[h3];simp
  ·simp only[e,KC]at h3;exact⟨aw hk ln,k+1,⟨by omega,h3⟩,by omega,by omega⟩
 ·replace h:¬((k:Int)<(s.parts.length:Int)):=fun e=>h (Xd e);have e:k=s.parts.length:=by omega
  subst e;rw[h3,Km];rfl
theorem IG(c:Int)(hc:0<=c/\c<=400) :
  let A:=(1:Int);let B:=c+A=c+A/\True;inR IntKind.i64 (c+A)/\if decide ((400:Int)<c+A)=true then decide ((400:Int)<c+A)=true/\B else decide ((400:Int)<c+A)=false/\B:=by
 conv=>zeta
 refine⟨aO (by omega) (by omega),aa (fun h=>?_) (fun h=>?_)⟩
 ·exact⟨h,rfl,trivial⟩
 ·exact⟨by simpa using h,rfl,trivial⟩
theorem IH(n:Nat)(s:Shape)(l c:Int)(hs:Wf (.st .shape) s)(hn:sz s<=n+1)(hc:0<=c/\c<=400/\1<=l/\l<=c+1) :
  let A:=(0:Int);let B:=(400:Int);let C:=(1:Int);let D:=(↑(sz s):Int);let E:=decide (B<c+D)=true;let F:=(401:Int);let G:=l+C;let H:=s.parts=s.parts;let I:=(↑(List.length s.parts):Int);let J:=s=s/\True;let K:=dfl (Ty.st SN.shape);(A<=c/\c<=B)/\if decide (B<c+C)=true then E/\c+C=F/\True else(∃(x:Nat×Int),let L:=(↑(szL (List.take x.1 s.parts)):Int);(x.1<=List.length s.parts/\c+C+L<=B/\deepL (List.drop x.1 s.parts) G x.2=deepS s l)/\l=x.2/\A=(↑x.1:Int)/\s=s/\l=l/\A=A/\H/\I=I/\c+C=c+C+L/\J)/\∀(x:Nat×Int),let L:=(↑(szL (List.take x.1 s.parts)):Int);let M:=c+C+L<=B;let N:=(↑x.1:Int);let O:=List.getD s.parts (Int.toNat N) K;let P:=(↑(sz O):Int);x.1<=List.length s.parts/\M/\deepL (List.drop x.1 s.parts) G x.2=deepS s l->if decide (N<I)=true then(A<=N/\N<I)/\inR IntKind.i64 G/\(sz O<=n/\A<=c+C+L/\M/\C<=l+C/\l+C<=c+C+L+C)/\if decide (B<c+C+L+P)=true then E/\F=F/\True else inR IntKind.i64 (N+C)/\∃(y:Nat×Int),let Q:=(↑(szL (List.take y.1 s.parts)):Int);(y.1<=List.length s.parts/\c+C+Q<=B/\deepL (List.drop y.1 s.parts) G y.2=deepS s l)/\List.length s.parts-y.1<List.length s.parts-x.1/\max x.2 (deepS O G)=y.2/\N+C=(↑y.1:Int)/\s=s/\l=l/\A=A/\H/\I=I/\c+C+L+P=c+C+Q/\J else decide (B<c+D)=false/\x.2=deepS s l/\c+C+L=c+D/\True:=by
 conv=>zeta
 have ln:=hs.parts.len;have hz:=iP s;refine⟨⟨hc.1,hc.2.1⟩,aa (fun h=>?_) (fun h=>?_)⟩
 ·replace h:=Xo h;have:=fa s;exact⟨Xd (by omega),by omega,trivial⟩
 replace h:¬(400:Int)<c+1:=fun e=>h (Xd e);have hd0:deepL s.parts (l+1) l=deepS s l:=by cases s;rfl
 refine⟨⟨(0,l),⟨Kg _,by simp[szL];omega,by simpa using hd0⟩,rfl,rfl,rfl,rfl,rfl,rfl,rfl,by simp[szL],rfl,trivial⟩,?_⟩;rintro⟨k,d⟩ ⟨h1,h2,h3⟩;simp only[Kh]at h1 h2 h3⊢;have hc0:(0:Int)<=(szL (s.parts.take k):Int):=by omega
 apply aa<;>intro hk
 ·replace hk:=Xo hk;have hk:k<s.parts.length:=by omega
  have hs1:=lS s.parts k (dfl (.st .shape)) hk;have hm:=eZ (aP s.parts k (dfl (.st .shape)) hk);rw[ai s.parts k (dfl (.st .shape)) hk]at h3;simp only[deepL]at h3;have ht:=xx s.parts (k+1);refine⟨by omega,aO (by omega) (by omega),⟨by omega,by omega,h2,by omega,by omega⟩,aa (fun h=>?_) (fun h=>?_)⟩
  ·replace h:=Xo h;exact⟨Xd (by omega),by trivial,by trivial⟩
  ·replace h:=fun e=>h (Xd e);replace h:¬(400:Int)<c+1+(szL (s.parts.take k):Int)+(sz (s.parts.getD k (dfl (.st .shape))):Int):=h;exact⟨aw hk ln,(k+1,_),⟨by omega,by simp only;omega,h3⟩,by simp only;omega,rfl,by simp only;omega,by trivial,by trivial,by trivial,by trivial,by trivial,by simp only;omega,by trivial,by trivial⟩
 ·replace hk:¬((k:Int)<(s.parts.length:Int)):=fun e=>hk (Xd e);have e:k=s.parts.length:=by omega
  subst e;rw[KW]at h2⊢;rw[Km]at h3;exact⟨Xf (by omega),h3,by omega,trivial⟩
theorem H6(s:Shape)(hs:Wf (.st .shape) s) :
  let A:=(0:Int);let B:=(1:Int);let C:=(↑(sz s):Int);let D:=if sz s<=(400:Nat)then C else(401:Int);let E:=if sz s<=(400:Nat)then deepS s B else A;(sz s<=sz s/\A<=A/\A<=(400:Int)/\B<=B/\B<=A+B)/\if decide ((400:Int)<A+C)=true then((401:Int)=D)/\(A=E)/\false=decide (sz s<=(400:Nat))/\True else(A+C=D)/\(deepS s B=E)/\true=decide (sz s<=(400:Nat))/\True:=by
 conv=>zeta
 refine⟨by simp,aa (fun h=>?_) (fun h=>?_)⟩
 ·replace h:=Xo h;have h':¬sz s<=400:=by omega
  rw[Kb h',Kb h'];exact⟨rfl,rfl,by simp[h'],trivial⟩
 ·replace h:¬(400:Int)<0+(sz s:Int):=fun e=>h (Xd e);have h':sz s<=400:=by omega
  rw[Kf h',Kf h'];exact⟨by omega,by trivial,by simp[h'],trivial⟩
theorem H7(s:Shape)  :
  let A:=True;if(!decide (sz s<=(400:Nat)))=true then A/\(3:Int)=bH s/\A else if decide ((40:Int)<if sz s<=(400:Nat)then deepS s (1:Int)else(0:Int))=true then A/\(91:Int)=bH s/\A else sz s<=(400:Nat)/\if(!allS bc s)=true then A/\(70:Int)=bH s/\A else A/\(0:Int)=bH s/\A:=by
 conv=>zeta
 unfold bH;by_cases h1:sz s<=400
 ·rw[Kb (by simp[h1]),Kf h1,Kb (show ¬400<sz s by omega)];by_cases h2:(40:Int)<deepS s 1
  ·rw[Kf (by simp[h2]),Kf h2];exact Xr
  ·rw[Kb (by simp[h2]),Kb h2];refine⟨h1,?_⟩;cases allS bc s<;>simp
 ·rw[Kf (by simp[h1]),Kf (show 400<sz s by omega)];exact Xr
theorem II(n:Nat)(s:Shape)(m:Int)(hs:Wf (.st .shape) s)(ho:sz s<=n+1/\0<=m/\m<=1000000) :
  let A:=(1:Int);let B:=(0:Int);let C:=s=s/\m=m/\B=B/\s=s/\True;let D:=(↑(List.length s.parts):Int);let E:=dfl (Ty.st SN.shape);(∃(x:Nat×Int),(x.1<=List.length s.parts/\A<=x.2/\x.2<=m+A/\sizeL (List.drop x.1 s.parts) x.2 m=sizeF s m)/\A=x.2/\B=(↑x.1:Int)/\C)/\∀(x:Nat×Int),let F:=(↑x.1:Int);let G:=m-x.2;let H:=List.getD s.parts (Int.toNat F) E;let I:=True/\x.2=sizeF s m/\True;x.1<=List.length s.parts/\A<=x.2/\x.2<=m+A/\sizeL (List.drop x.1 s.parts) x.2 m=sizeF s m->if decide (F<D)=true then if decide (x.2<=m)=true then(B<=F/\F<D)/\inR IntKind.i64 G/\(sz H<=n/\B<=m-x.2/\m-x.2<=(1000000:Int))/\inR IntKind.i64 (x.2+sizeF H G)/\inR IntKind.i64 (F+A)/\∃(y:Nat×Int),(y.1<=List.length s.parts/\A<=y.2/\y.2<=m+A/\sizeL (List.drop y.1 s.parts) y.2 m=sizeF s m)/\List.length s.parts-y.1<List.length s.parts-x.1/\x.2+sizeF H G=y.2/\F+A=(↑y.1:Int)/\C else I else I:=by
 conv=>zeta
 have ln:=hs.parts.len;have hz:=iP s;obtain⟨ho1,ho2,ho3⟩:=ho;have h0:sizeL s.parts 1 m=sizeF s m:=by cases s;rfl
 simp only[Kh,Lt,KV,KI];refine⟨⟨(0,1),⟨Kg _,by omega,by omega,h0⟩,rfl,rfl⟩,?_⟩;rintro⟨k,c⟩ ⟨h1,h2,h3,h4⟩;simp only at h1 h2 h3 h4⊢;apply aa<;>intro hk
 ·replace hk:=Xo hk;have hk:k<s.parts.length:=by omega
  have hm:=eZ (aP s.parts k (dfl (.st .shape)) hk);rw[ai s.parts k (dfl (.st .shape)) hk]at h4;simp only[sizeL]at h4;apply aa<;>intro hc
  ·replace hc:=Xo hc;rw[Kf hc]at h4;have hb:=sizeF_bd (s.parts.getD k (dfl (.st .shape))) (m-c) (by omega);exact⟨by omega,aO (by omega) (by omega),by omega,aO (by omega) (by omega),aw hk ln,(k+1,_),⟨by omega,by simp only;omega,by simp only;omega,h4⟩,by simp only;omega,rfl,rfl⟩
  ·rw[Kb (fun e=>hc (Xd e))]at h4;exact h4
 ·replace hk:¬((k:Int)<(s.parts.length:Int)):=fun e=>hk (Xd e);have e:k=s.parts.length:=by omega
  subst e;rw[Km]at h4;exact h4
theorem Ef(c:Int)  :
  if decide ((97:Int)<=c)=true then True/\decide (c<=(122:Int))=bZ c/\True else True/\false=bZ c/\True:=by
 simp only[KV,KI];unfold bZ;by_cases h:(97:Int)<=c
 ·rw[Kf (Xd h)];simp[h]
 ·rw[Kb (by simpa using h)];simp[h]
theorem Eg(c:Int)  :
  if decide ((65:Int)<=c)=true then True/\decide (c<=(90:Int))=cm c/\True else True/\false=cm c/\True:=by
 simp only[KV,KI];unfold cm;by_cases h:(65:Int)<=c
 ·rw[Kf (Xd h)];simp[h]
 ·rw[Kb (by simpa using h)];simp[h]
theorem Eh(c:Int)  :
  if decide ((48:Int)<=c)=true then True/\decide (c<=(57:Int))=bS c/\True else True/\false=bS c/\True:=by
 simp only[KV,KI];unfold bS;by_cases h:(48:Int)<=c
 ·rw[Kf (Xd h)];simp[h]
 ·rw[Kb (by simpa using h)];simp[h]
theorem H8(s:Str)(hs:Wf .str s) :
  let A:=(0:Int);let B:=s=s/\A=A/\True;let C:=(↑(List.length s):Int);let D:=(0:UInt8);let E:=(1:Int);let F:=(↑(dI s):Int);(∃(x:Nat),(x<=List.length s/\dI s=x+dI (List.drop x s))/\A=(↑x:Int)/\B)/\∀(x:Nat),let G:=(↑x:Int);let H:=A<=G/\G<C;let I:=(↑(UInt8.toNat (List.getD s (Int.toNat G) D)):Int);let J:=inR IntKind.i64 (G+E)/\∃(y:Nat),(y<=List.length s/\dI s=y+dI (List.drop y s))/\List.length s-y<List.length s-x/\G+E=(↑y:Int)/\B;let K:=True/\G=F/\True;x<=List.length s/\dI s=x+dI (List.drop x s)->if decide (G<C)=true then H/\if bZ I=true then J else H/\if cm I=true then J else H/\if bS I=true then J else H/\if decide (I=(95:Int))=true then J else K else K:=by
 conv=>zeta
 have ln:=hs.str;have eb:∀b:UInt8,(b.toNat:Int)=bI b:=fun _=>rfl;simp only[Kh,Lt,KV,KI,eb];refine⟨⟨0,⟨Kg _,by simp⟩,rfl⟩,?_⟩;rintro k ⟨h1,h2⟩;apply aa<;>intro h
 ·replace h:=Xo h;have hk:k<s.length:=by omega
  rw[ai s k 0 hk]at h2;simp only[dI]at h2;have fin:ep (bI (s.getD k 0))=true->(inR IntKind.i64 ((k:Int)+1)/\∃y:Nat,(y<=s.length/\dI s=y+dI (s.drop y))/\s.length-y<s.length-k/\(k:Int)+1=(y:Int)):=by intro e;rw[Kf e]at h2;exact⟨aw hk ln,k+1,⟨by omega,by omega⟩,by omega,by omega⟩
  have hr:ep (bI (s.getD k 0))=(bZ (bI (s.getD k 0))||cm (bI (s.getD k 0))||bS (bI (s.getD k 0))||decide (bI (s.getD k 0)=95)):=rfl;refine⟨by omega,aa (fun a=>fin (by rw[hr,a];simp)) (fun a=>⟨by omega,aa (fun b=>fin (by rw[hr,b];simp)) (fun b=>⟨by omega,aa (fun c=>fin (by rw[hr,c];simp)) (fun c=>⟨by omega,aa (fun d=>fin (by rw[hr,d];simp)) (fun d=>?_)⟩)⟩)⟩)⟩;rw[Kb ?_]at h2
  ·omega
  ·rw[hr];simp only[LI]at a b c d;rw[a,b,c,d];simp
 ·replace h:¬((k:Int)<(s.length:Int)):=fun e=>h (Xd e);have e:k=s.length:=by omega
  subst e;rw[Km]at h2;simp only[dI]at h2;omega
theorem H9(s:Str)(l:List Str)(hl:Wf (.lst .str) l) :
  let A:=s=s/\l=l/\True;let B:=(↑(List.length l):Int);(∃(x:Nat),(x<=List.length l/\decide (s∈l)=decide (s∈List.drop x l))/\(0:Int)=(↑x:Int)/\A)/\∀(x:Nat),let C:=(↑x:Int);x<=List.length l/\decide (s∈l)=decide (s∈List.drop x l)->if decide (C<B)=true then((0:Int)<=C/\C<B)/\if decide (s=List.getD l (Int.toNat C) (dfl Ty.str))=true then True/\true=decide (s∈l)/\True else inR IntKind.i64 (C+(1:Int))/\∃(y:Nat),(y<=List.length l/\decide (s∈l)=decide (s∈List.drop y l))/\List.length l-y<List.length l-x/\C+(1:Int)=(↑y:Int)/\A else True/\false=decide (s∈l)/\True:=by
 conv=>zeta
 have ln:=hl.len;simp only[Kh,Lt,KV,KI];refine⟨⟨0,⟨Kg _,by simp⟩,rfl⟩,?_⟩;rintro k ⟨h1,h2⟩;apply aa<;>intro h
 ·replace h:=Xo h;have hk:k<l.length:=by omega
  rw[ai l k (dfl .str) hk]at h2;refine⟨by omega,aa (fun a=>?_) (fun a=>?_)⟩
  ·rw[h2,Xo a];simp
  ·refine⟨aw hk ln,k+1,⟨by omega,?_⟩,by omega,by omega⟩;rw[h2,L0,Ks];constructor
   ·rintro(h|h)
    ·exact absurd (Xd h) a
    ·exact h
   ·exact Or.inr
 ·replace h:¬((k:Int)<(l.length:Int)):=fun e=>h (Xd e);have e:k=l.length:=by omega
  subst e;rw[h2,Km];simp
theorem Ha(s:Str)  :
  let A:=101;True/\decide (s∈[([109,111,100,117,108,A]:Str),([105,109,112,111,114,116]:Str),([112,105,110]:Str),([114,97,110,103,A]:Str),([116,121,112,A]:Str),([111,112,97,113,117,A]:Str),([108,A,116]:Str),([105,110]:Str),([A,120,112,111,114,116]:Str),([102,117,110]:Str),([105,102]:Str),([116,104,A,110]:Str),([A,108,115,A]:Str),([99,97,115,A]:Str),([111,102]:Str),([97,115]:Str),([110,A,119]:Str),([114,97,119]:Str),([116,114,117,A]:Str),([102,97,108,115,A]:Str)])=nf s/\True:=by
 conv=>zeta
 exact Xr
theorem Hb(s:Str)  :
  let A:=(↑(List.length s):Int);let B:=(0:Int);let C:=True/\false=au s/\True;if(!decide (s=[]))=true then if decide (A<=(24:Int))=true then(B<=B/\B<A)/\if bZ (↑(UInt8.toNat (List.getD s (Int.toNat B) (0:UInt8))):Int)=true then if decide ((↑(dI s):Int)=A)=true then True/\(!nf s)=au s/\True else C else C else C else C:=by
 conv=>zeta
 have eb:∀b:UInt8,(b.toNat:Int)=bI b:=fun _=>rfl;simp only[Kh,Mx,Lt,KV,KI,eb];have hF:au s=(!decide (s=[])&&decide (s.length<=24)&&bZ (bI (s.getD 0 0))&&decide (dI s=s.length)&&!nf s):=by unfold au;rw[pj]
 apply aa<;>intro a
 ·have a':decide (s=[])=false:=by simpa using a
  have hpos:0<s.length:=Ls.2 (of_decide_eq_false a');apply aa<;>intro b
  ·have b':s.length<=24:=by have:=Xo b;omega
   refine⟨by omega,aa (fun c=>?_) (fun c=>?_)⟩
   ·apply aa<;>intro d
    ·have d':dI s=s.length:=by have:=Xo d;omega
     rw[hF,a',c,d'];simp[b']
    ·have d':¬dI s=s.length:=fun e=>d (Xd (by omega));rw[hF];simp[d']
   ·simp only[LI]at c;rw[hF,c];simp
  ·have b':¬s.length<=24:=fun e=>b (Xd (by omega));rw[hF];simp[b']
 ·have a':decide (s=[])=true:=by simpa using a
  rw[hF,a'];simp
theorem Ei(s:Str)  :
  let A:=(↑(List.length s):Int);let B:=(0:Int);let C:=True/\false=bO s/\True;if(!decide (s=[]))=true then if decide (A<=(24:Int))=true then(B<=B/\B<A)/\if cm (↑(UInt8.toNat (List.getD s (Int.toNat B) (0:UInt8))):Int)=true then True/\decide ((↑(dI s):Int)=A)=bO s/\True else C else C else C:=by
 conv=>zeta
 have eb:∀b:UInt8,(b.toNat:Int)=bI b:=fun _=>rfl;simp only[Kh,Mx,Lt,KV,KI,eb];have hF:bO s=(!decide (s=[])&&decide (s.length<=24)&&cm (bI (s.getD 0 0))&&decide (dI s=s.length)):=by unfold bO;rw[pj]
 apply aa<;>intro a
 ·have a':decide (s=[])=false:=by simpa using a
  have hpos:0<s.length:=Ls.2 (of_decide_eq_false a');apply aa<;>intro b
  ·have b':s.length<=24:=by have:=Xo b;omega
   refine⟨by omega,aa (fun c=>?_) (fun c=>?_)⟩
   ·rw[hF,a',c];simp[b',Int.ofNat_inj]
   ·simp only[LI]at c;rw[hF,c];simp
  ·have b':¬s.length<=24:=fun e=>b (Xd (by omega));rw[hF];simp[b']
 ·have a':decide (s=[])=true:=by simpa using a
  rw[hF,a'];simp
theorem Ej(ns:List Str)(n:Int)(hl:Wf (.lst .str) ns) :
  let A:=(0:Int);let B:=True;let C:=ns=ns/\n=n/\B;let D:=(↑(List.length ns):Int);let E:=dfl Ty.str;let F:=B/\false=gY ns n/\B;let G:=ns=ns/\n=n/\true=true/\false=false/\B;let H:=(1:Int);(∃(x:Nat),let I:=List.take x ns;(x<=List.length ns/\List.all I au=true/\List.Nodup I)/\A=(↑x:Int)/\C)/\∀(x:Nat),let I:=List.take x ns;let J:=(↑x:Int);let K:=A<=J/\J<D;let L:=Int.toNat J;x<=List.length ns/\List.all I au=true/\List.Nodup I->if decide (J<D)=true then K/\if(!au (List.getD ns L E))=true then F else(∃(x_1:Nat),let M:=(↑x_1:Int);(M<=J/\¬List.getD ns L E∈List.take x_1 ns)/\A=M/\J=J/\G)/\∀(x_1:Nat),let M:=(↑x_1:Int);M<=J/\¬List.getD ns L E∈List.take x_1 ns->if decide (M<J)=true then(A<=M/\M<D)/\K/\if decide (List.getD ns (Int.toNat M) E=List.getD ns L E)=true then F else inR IntKind.i64 (M+H)/\∃(y:Nat),((↑y:Int)<=J/\¬List.getD ns L E∈List.take y ns)/\Int.toNat J-y<Int.toNat J-x_1/\M+H=(↑y:Int)/\J=J/\G else inR IntKind.i64 (J+H)/\∃(y:Nat),let N:=List.take y ns;(y<=List.length ns/\List.all N au=true/\List.Nodup N)/\List.length ns-y<List.length ns-x/\J+H=(↑y:Int)/\C else B/\decide (D=n)=gY ns n/\B:=by
 conv=>zeta
 have ln:=hl.len;simp only[Kh,Lt,KV,KI];refine⟨⟨0,⟨Kg _,by simp,by simp⟩,rfl⟩,?_⟩;rintro k ⟨h1,h2,h3⟩;apply aa<;>intro h
 ·replace h:=Xo h;have hk:k<ns.length:=by omega
  have hmem:=aP ns k (dfl .str) hk;have ht:=bQ ns k (dfl .str) hk;refine⟨by omega,aa (fun a=>?_) (fun a=>?_)⟩
  ·have a':ns.all au=false:=by rw[Lb];intro e;have:=Kp.1 e _ hmem;rw[this]at a;simp at a
   unfold gY;rw[a'];simp
  ·have a':au (ns.getD k (dfl .str))=true:=by simpa using a
   refine⟨⟨0,⟨by omega,by simp⟩,rfl⟩,?_⟩;rintro j ⟨j1,j2⟩;apply aa<;>intro b
   ·replace b:=Xo b;have hj:j<k:=by omega
    have hjn:j<ns.length:=by omega
    have htj:=bQ ns j (dfl .str) hjn;refine⟨by omega,by omega,aa (fun c=>?_) (fun c=>?_)⟩
    ·replace c:=Xo c;have hnd:¬ns.Nodup:=by intro hn;rw[LP]at hn;have:=Lw.1 hn j k hjn hk hj;rw[Ke,Ke,K9 hjn,K9 hk]at c;exact this c
     unfold gY;simp[hnd]
    ·refine⟨aw hjn ln,j+1,⟨by omega,?_⟩,by omega,by omega⟩;rw[htj,KZ,L2,Nr];exact⟨j2,fun e=>c (Xd e.symm)⟩
   ·have hj:j=k:=by have:¬((j:Int)<(k:Int)):=fun e=>b (Xd e);omega
    subst hj;refine⟨aw hk ln,j+1,⟨by omega,?_,?_⟩,by omega,by omega⟩
    ·rw[ht,List.all_append,h2];simpa using a'
    ·rw[ht,Mo];refine⟨h3,by simp,fun x hx y hy=>?_⟩;rw[L2]at hy;subst hy;intro e;subst e;exact j2 hx
 ·replace h:¬((k:Int)<(ns.length:Int)):=fun e=>h (Xd e);have e:k=ns.length:=by omega
  subst e;rw[KW]at h2 h3;unfold gY;rw[h2];simp[h3]
theorem Hc(s:Shape)(hs:Wf (.st .shape) s) :
  let A:=(↑(List.length s.names):Int);let B:=(0:Int);let C:=True;let D:=(↑(List.length s.parts):Int);let E:=C/\decide (D=B)=bc s/\C;let F:=C/\false=bc s/\C;let G:=if decide (A=B)=true then E else F;let H:=if bO s.name=true then G else F;let I:=if bO s.name=true then F else F;let J:=if au s.pkg=true then H else if decide (s.pkg=[])=true then if decide (s.kind=(9:Int))=true then I else I else I;let K:=if decide (s.name=([73,110,116]:Str))=true then J else if decide (s.name=([66,111,111,108]:Str))=true then J else if decide (s.name=([84,101,120,116]:Str))=true then J else if au s.pkg=true then H else if decide (s.pkg=[])=true then if decide (s.kind=(9:Int))=true then if bO s.name=true then if(!decide (s.name=([65,110,121]:Str)))=true then G else F else F else I else I;let L:=C/\gY s.names D=bc s/\C;let M:=(1:Int);if decide (s.kind=(9:Int))=true then K else if decide (s.kind=(10:Int))=true then K else if(!decide (s.pkg=[]))=true then F else if(!decide (s.name=[]))=true then F else if decide (s.kind=(6:Int))=true then L else if decide (s.kind=(7:Int))=true then L else if decide (B<A)=true then F else if decide (s.kind=(8:Int))=true then C/\decide (M<=D)=bc s/\C else if decide (s.kind=(5:Int))=true then C/\decide (D=M)=bc s/\C else if decide (M<=s.kind)=true then if decide (s.kind<=(4:Int))=true then E else F else F:=by
 conv=>zeta
 have n0:((s.names.length:Int)=0)↔s.names=[]:=by rw[<-Ln];omega
 have n1:(0<(s.names.length:Int))↔¬s.names=[]:=by rw[<-Ln];omega
 have p0:((s.parts.length:Int)=0)↔s.parts=[]:=by rw[<-Ln];omega
 have p1:((s.parts.length:Int)=1)↔s.parts.length=1:=by omega
 have p2:(1<=(s.parts.length:Int))↔¬s.parts=[]:=by rw[<-Ln];omega
 have hn:gY s.names (s.parts.length:Int)=dC s:=by unfold gY dC;rw[L0.2 (show((s.names.length:Int)=(s.parts.length:Int))↔s.names.length=s.parts.length by omega)]
 simp only[n0,n1,p0,p1,p2,hn,Kc,KV,KI];have hf:bc s=bc s:=rfl;conv at hf=>rhs;unfold bc
 unfold kM at hf;have hk:(s.kind=1∨s.kind=2∨s.kind=3∨s.kind=4)↔(1<=s.kind/\s.kind<=4):=by omega
 simp only[hk]at hf;clear hk n0 n1 p0 p1 p2 hn;revert hf;generalize bc s=F;generalize dC s=A;generalize bO s.name=B;generalize au s.pkg=C;generalize s.kind=K;intro hf
 repeat' (apply aa<;>intro _)
 all_goals (subst hf;(try simp_all);try (intros;omega))
theorem Hd(n:Nat)(s:Shape)(hs:Wf (.st .shape) s)(hn:sz s<=n+1) :
  let A:=True/\false=allS bc s/\True;let B:=s=s/\false=false/\s=s/\True;let C:=(↑(List.length s.parts):Int);let D:=dfl (Ty.st SN.shape);if(!bc s)=true then A else(∃(x:Nat),(x<=List.length s.parts/\allS bc s=allL bc (List.drop x s.parts))/\(0:Int)=(↑x:Int)/\B)/\∀(x:Nat),let E:=(↑x:Int);let F:=List.getD s.parts (Int.toNat E) D;x<=List.length s.parts/\allS bc s=allL bc (List.drop x s.parts)->if decide (E<C)=true then((0:Int)<=E/\E<C)/\sz F<=n/\if(!allS bc F)=true then A else inR IntKind.i64 (E+(1:Int))/\∃(y:Nat),(y<=List.length s.parts/\allS bc s=allL bc (List.drop y s.parts))/\List.length s.parts-y<List.length s.parts-x/\E+(1:Int)=(↑y:Int)/\B else True/\true=allS bc s/\True:=by
 conv=>zeta
 have ln:=hs.parts.len;have hz:=iP s;simp only[Kh,Lt,KV,KI];apply aa<;>intro h
 ·have h:bc s=false:=by simpa using h
  rw[iQ,h];rfl
 have h:bc s=true:=by simpa using h
 refine⟨⟨0,⟨Kg _,by rw[iQ,h];rfl⟩,rfl⟩,?_⟩;rintro k ⟨h1,h3⟩;apply aa<;>intro h
 ·replace h:=Xo h;have hk:k<s.parts.length:=by omega
  have hm:=eZ (aP s.parts k (dfl (.st .shape)) hk);rw[ai s.parts k (dfl (.st .shape)) hk]at h3;simp only[allL]at h3;refine⟨by omega,by omega,?_⟩;cases e:allS bc (s.parts.getD k (dfl (.st .shape)))
  ·rw[e]at h3;rw[h3];simp
  ·simp only[e,KC]at h3;exact⟨aw hk ln,k+1,⟨by omega,h3⟩,by omega,by omega⟩
 ·replace h:¬((k:Int)<(s.parts.length:Int)):=fun e=>h (Xd e);have e:k=s.parts.length:=by omega
  subst e;rw[h3,Km];rfl
theorem IJ(n:Nat)(s:Shape)(hs:Wf (.st .shape) s)(hn:sz s<=n+1)(hb:n<=1000000) :
  let A:=(0:Int);let B:=(↑(maxDeep s.parts):Int);let C:=s=s/\A=A/\s=s/\True;let D:=(↑(List.length s.parts):Int);let E:=dfl (Ty.st SN.shape);let F:=(1:Int);(∃(x:Nat×Int),(x.1<=List.length s.parts/\A<=x.2/\max x.2 (↑(maxDeep (List.drop x.1 s.parts)):Int)=B)/\A=x.2/\A=(↑x.1:Int)/\C)/\∀(x:Nat×Int),let G:=(↑x.1:Int);let H:=List.getD s.parts (Int.toNat G) E;let I:=(↑(deepF H):Int);let J:=inR IntKind.i64 (G+F);x.1<=List.length s.parts/\A<=x.2/\max x.2 (↑(maxDeep (List.drop x.1 s.parts)):Int)=B->if decide (G<D)=true then(A<=G/\G<D)/\sz H<=n/\if decide (x.2<I)=true then J/\∃(y:Nat×Int),(y.1<=List.length s.parts/\A<=y.2/\max y.2 (↑(maxDeep (List.drop y.1 s.parts)):Int)=B)/\List.length s.parts-y.1<List.length s.parts-x.1/\I=y.2/\G+F=(↑y.1:Int)/\C else J/\∃(y:Nat×Int),(y.1<=List.length s.parts/\A<=y.2/\max y.2 (↑(maxDeep (List.drop y.1 s.parts)):Int)=B)/\List.length s.parts-y.1<List.length s.parts-x.1/\x.2=y.2/\G+F=(↑y.1:Int)/\C else inR IntKind.i64 (x.2+F)/\True/\x.2+F=(↑(deepF s):Int)/\True:=by
 conv=>zeta
 have ln:=hs.parts.len;have hz:=iP s;have hd:deepF s=maxDeep s.parts+1:=by cases s;rfl
 have hds:=maxDeep_sz s.parts;simp only[Kh,Lt,KV,KI];refine⟨⟨(0,0),⟨Kg _,by simp,by simp only[LF];omega⟩,rfl,rfl⟩,?_⟩;rintro⟨k,c⟩ ⟨h1,h2,h3⟩;simp only at h1 h2 h3⊢;apply aa<;>intro h
 ·replace h:=Xo h;have hk:k<s.parts.length:=by omega
  have hm:=eZ (aP s.parts k (dfl (.st .shape)) hk);rw[ai s.parts k (dfl (.st .shape)) hk]at h3;simp only[maxDeep]at h3;refine⟨by omega,by omega,aa (fun a=>?_) (fun a=>?_)⟩
  ·replace a:=Xo a;exact⟨aw hk ln,(k+1,(deepF (s.parts.getD k (dfl (.st .shape))):Int)),⟨by omega,by simp only;omega,by simp only;omega⟩,by simp only;omega,rfl,rfl⟩
  ·replace a:¬c<(deepF (s.parts.getD k (dfl (.st .shape))):Int):=fun e=>a (Xd e);exact⟨aw hk ln,(k+1,c),⟨by omega,by simp only;omega,by simp only;omega⟩,by simp only;omega,rfl,rfl⟩
 ·replace h:¬((k:Int)<(s.parts.length:Int)):=fun e=>h (Xd e);have e:k=s.parts.length:=by omega
  subst e;rw[Km]at h3;simp only[maxDeep]at h3;exact⟨aO (by omega) (by omega),by omega⟩
theorem Ek(s:Shape)(hs:Wf (.st .shape) s) :
  let A:=(400:Int);let B:=True;let C:=sz s<=(400:Nat);(sz s<=sz s/\(0:Int)<=A/\A<=(1000000:Int))/\if decide (A<sizeF s A)=true then B/\(3:Int)=bH s/\B else C/\if decide ((40:Int)<(↑(deepF s):Int))=true then B/\(91:Int)=bH s/\B else C/\if(!allS bc s)=true then B/\(70:Int)=bH s/\B else B/\(0:Int)=bH s/\B:=by
 conv=>zeta
 simp only[Lt,KV,KI];rw[Jq];refine⟨⟨Kn _,by omega,by omega⟩,aa (fun h=>?_) (fun h=>?_)⟩
 ·rw[Kf (Xo h)]
 ·have h':¬(400:Int)<sizeF s 400:=fun e=>h (Xd e);have hs4:sz s<=400:=by rw[sizeF_eq s 400 (by omega)]at h';omega
  rw[Kb h'];refine⟨hs4,aa (fun g=>?_) (fun g=>⟨hs4,?_⟩)⟩
  ·rw[Kf (Xo g)]
  ·rw[Kb (fun e=>g (Xd e))];cases allS bc s<;>simp
theorem El(n:Nat)(a b:Shape)(ha:Wf (.st .shape) a)(hb:Wf (.st .shape) b)(hn:sz a<=n+1) :
  let A:=True/\false=eqS a b/\True;let B:=(↑(List.length a.names):Int);let C:=(↑(List.length b.names):Int);let D:=(↑(List.length a.parts):Int);let E:=(↑(List.length b.parts):Int);let F:=List.length a.names=List.length b.names;let G:=List.length a.parts=List.length b.parts;let H:=(0:Int);let I:=false=false/\a=a/\b=b/\True;let J:=a=a/\b=b/\I;let K:=(1:Int);let L:=a=a/\b=b/\false=false/\I;let M:=dfl (Ty.st SN.shape);if(!decide (a.kind=b.kind))=true then A else if(!decide (a.pkg=b.pkg))=true then A else if(!decide (a.name=b.name))=true then A else if(!decide (B=C))=true then A else if(!decide (D=E))=true then A else(∃(x:Nat),(x<=List.length a.names/\F/\G/\eqS a b=(decide (List.drop x a.names=List.drop x b.names)&&eqL a.parts b.parts))/\H=(↑x:Int)/\J)/\∀(x:Nat),let N:=(↑x:Int);x<=List.length a.names/\F/\G/\eqS a b=(decide (List.drop x a.names=List.drop x b.names)&&eqL a.parts b.parts)->if decide (N<B)=true then(H<=N/\N<B)/\(H<=N/\N<C)/\if(!decide (List.getD a.names (Int.toNat N) (dfl Ty.str)=List.getD b.names (Int.toNat N) (dfl Ty.str)))=true then A else inR IntKind.i64 (N+K)/\∃(y:Nat),(y<=List.length a.names/\F/\G/\eqS a b=(decide (List.drop y a.names=List.drop y b.names)&&eqL a.parts b.parts))/\List.length a.names-y<List.length a.names-x/\N+K=(↑y:Int)/\J else(∃(x_1:Nat),(x_1<=List.length a.parts/\G/\eqS a b=eqL (List.drop x_1 a.parts) (List.drop x_1 b.parts))/\H=(↑x_1:Int)/\N=N/\L)/\∀(x_1:Nat),let O:=(↑x_1:Int);let P:=List.getD a.parts (Int.toNat O) M;x_1<=List.length a.parts/\G/\eqS a b=eqL (List.drop x_1 a.parts) (List.drop x_1 b.parts)->if decide (O<D)=true then(H<=O/\O<D)/\(H<=O/\O<E)/\sz P<=n/\if(!eqS P (List.getD b.parts (Int.toNat O) M))=true then A else inR IntKind.i64 (O+K)/\∃(y:Nat),(y<=List.length a.parts/\G/\eqS a b=eqL (List.drop y a.parts) (List.drop y b.parts))/\List.length a.parts-y<List.length a.parts-x_1/\O+K=(↑y:Int)/\N=N/\L else True/\true=eqS a b/\True:=by
 conv=>zeta
 have lna:=ha.names.len;have lpa:=ha.parts.len;have hz:=iP a;have he:eqS a b=(decide (a.kind=b.kind)&&decide (a.pkg=b.pkg)&&decide (a.name=b.name)&&decide (a.names=b.names)&&eqL a.parts b.parts):=by cases a;cases b;rfl
 simp only[Kh,Lt,KV,KI];refine aa (fun h=>?_) (fun h1=>aa (fun h=>?_) (fun h2=>aa (fun h=>?_) (fun h3=>aa (fun h=>?_) (fun h4=>aa (fun h=>?_) (fun h5=>?_)))))
 ·rw[he];simp only[Ko]at h;rw[h];simp
 ·rw[he];simp only[Ko]at h;rw[h];simp
 ·rw[he];simp only[Ko]at h;rw[h];simp
 ·have:¬a.names=b.names:=by intro e;rw[e]at h;simp at h
  rw[he];simp[this]
 ·have:a.parts.length≠b.parts.length:=by intro e;rw[e]at h;simp at h
  rw[he,pZ this];simp
 have l4:a.names.length=b.names.length:=by simp at h4;omega
 have l5:a.parts.length=b.parts.length:=by simp at h5;omega
 have he':eqS a b=(decide (a.names=b.names)&&eqL a.parts b.parts):=by rw[he];simp only[LI,Bool.not_eq_false']at h1 h2 h3;rw[h1,h2,h3];simp
 refine⟨⟨0,⟨Kg _,l4,l5,by simpa using he'⟩,rfl⟩,?_⟩;rintro k ⟨k1,_,_,k4⟩;apply aa<;>intro h
 ·replace h:=Xo h;have hk:k<a.names.length:=by omega
  have hk':k<b.names.length:=by omega
  rw[ai a.names k (dfl .str) hk,ai b.names k (dfl .str) hk']at k4;refine⟨by omega,by omega,aa (fun c=>?_) (fun c=>?_)⟩
  ·have c':¬a.names.getD k (dfl .str)=b.names.getD k (dfl .str):=by simpa using c
   rw[k4];have:¬(a.names.getD k (dfl .str)::a.names.drop (k+1)=b.names.getD k (dfl .str)::b.names.drop (k+1)):=fun e=>c' (Nk e).1;simp only[this,N8,Ki]
  ·have c':a.names.getD k (dfl .str)=b.names.getD k (dfl .str):=by simpa using c
   refine⟨aw hk lna,k+1,⟨by omega,l4,l5,?_⟩,by omega,by omega⟩;rw[k4,c'];congr 1;rw[L0];simp
 ·replace h:¬((k:Int)<(a.names.length:Int)):=fun e=>h (Xd e);have e:k=a.names.length:=by omega
  subst e;have k4':eqS a b=eqL a.parts b.parts:=by rw[k4,Km,l4,Km];simp
  refine⟨⟨0,⟨Kg _,l5,by simpa using k4'⟩,rfl⟩,?_⟩;rintro j ⟨j1,_,j3⟩;apply aa<;>intro h
  ·replace h:=Xo h;have hj:j<a.parts.length:=by omega
   have hj':j<b.parts.length:=by omega
   have hm:=eZ (aP a.parts j (dfl (.st .shape)) hj);rw[ai a.parts j (dfl (.st .shape)) hj,ai b.parts j (dfl (.st .shape)) hj']at j3;simp only[eqL]at j3;refine⟨by omega,by omega,by omega,aa (fun c=>?_) (fun c=>?_)⟩
   ·have c':eqS (a.parts.getD j (dfl (.st .shape))) (b.parts.getD j (dfl (.st .shape)))=false:=by simpa using c
    rw[j3,c'];rfl
   ·have c':eqS (a.parts.getD j (dfl (.st .shape))) (b.parts.getD j (dfl (.st .shape)))=true:=by simpa using c
    rw[c',KC]at j3;exact⟨aw hj lpa,j+1,⟨by omega,l5,j3⟩,by omega,by omega⟩
  ·replace h:¬((j:Int)<(a.parts.length:Int)):=fun e=>h (Xd e);have e:j=a.parts.length:=by omega
   subst e;rw[j3,Km,l5,Km];rfl
theorem yt(s:Str)(hs:Wf .str s) :
  let A:=(List.all s fun(c:UInt8)=>bS (bI c));let B:=(0:Int);let C:=s=s/\True;let D:=(↑(List.length s):Int);let E:=True/\false=aM s/\True;(∃(x:Nat),(x<=List.length s/\A=List.all (List.drop x s) fun(c:UInt8)=>bS (bI c))/\B=(↑x:Int)/\C)/\∀(x:Nat),let F:=(↑x:Int);let G:=B<=F/\F<D;let H:=(↑(UInt8.toNat (List.getD s (Int.toNat F) (0:UInt8))):Int);(x<=List.length s/\A=List.all (List.drop x s) fun(c:UInt8)=>bS (bI c))->if decide (F<D)=true then G/\if decide (H<(48:Int))=true then E else G/\if decide ((57:Int)<H)=true then E else inR IntKind.i64 (F+(1:Int))/\∃(y:Nat),(y<=List.length s/\A=List.all (List.drop y s) fun(c:UInt8)=>bS (bI c))/\List.length s-y<List.length s-x/\F+(1:Int)=(↑y:Int)/\C else True/\(!decide (s=[]))=aM s/\True:=by
 conv=>zeta
 have ln:=hs.str;have eb:∀b:UInt8,(b.toNat:Int)=bI b:=fun _=>rfl;simp only[eb,Kh];refine⟨⟨0,⟨Kg _,rfl⟩,rfl,?_⟩,?_⟩
 ·exact Xr
 rintro k ⟨h1,h2⟩;apply aa<;>intro h
 ·have hk:k<s.length:=by have:=Xo h;omega
  rw[ai s k 0 hk,KR]at h2;have l0:(0:Int)<=(k:Int)/\(k:Int)<(s.length:Int):=⟨by omega,by omega⟩;have bad:bS (bI (s.getD k 0))=false->false=aM s:=fun e=>by unfold aM;rw[h2,e,Ki,KJ]
  refine⟨l0,aa (fun a=>⟨trivial,?_,trivial⟩) (fun a=>⟨l0,aa (fun b=>⟨trivial,?_,trivial⟩) (fun b=>?_)⟩)⟩
  ·have a:=Xo a;refine bad ?_;unfold bS;rw[Xf (by omega),Ki]
  ·have b:=Xo b;refine bad ?_;unfold bS;rw[Bool.and_comm,Xf (by omega),Ki]
  ·have a:¬bI (s.getD k 0)<48:=fun e=>a (Xd e);have b:¬57<bI (s.getD k 0):=fun e=>b (Xd e);have hd:bS (bI (s.getD k 0))=true:=by unfold bS;rw[Xd (by omega),KC,Xd (by omega)]
   rw[hd,KC]at h2;refine⟨aw hk ln,k+1,⟨by omega,h2⟩,by omega,rfl,?_⟩;exact Xr
 ·have hk:s.length<=k:=by have:¬(k:Int)<(s.length:Int):=fun e=>h (Xd e);omega
  rw[LD hk]at h2;refine⟨trivial,?_,trivial⟩;unfold aM;rw[h2];exact(MF _).symm
theorem Em(s:Str)(hs:Wf .str s) :
  let A:=(List.all s fun(c:UInt8)=>eL (bI c));let B:=(0:Int);let C:=True;let D:=s=s/\C;let E:=(↑(List.length s):Int);let F:=(0:UInt8);let G:=(45:Int);let H:=(48:Int);let I:=C/\false=ca s/\C;let J:=(57:Int);let K:=(1:Int);let L:=C/\true=ca s/\C;(∃(x:Nat),(x<=List.length s/\A=List.all (List.drop x s) fun(c:UInt8)=>eL (bI c))/\B=(↑x:Int)/\D)/\∀(x:Nat),let M:=(↑x:Int);let N:=B<=M/\M<E;let O:=(↑(UInt8.toNat (List.getD s (Int.toNat M) F)):Int);let P:=inR IntKind.i64 (M+K)/\∃(y:Nat),(y<=List.length s/\A=List.all (List.drop y s) fun(c:UInt8)=>eL (bI c))/\List.length s-y<List.length s-x/\M+K=(↑y:Int)/\D;let Q:=N/\if(!decide (O=G))=true then N/\if decide (O<H)=true then I else N/\if decide (J<O)=true then I else P else P;let R:=if(!decide (O<=(90:Int)))=true then Q else P;(x<=List.length s/\A=List.all (List.drop x s) fun(c:UInt8)=>eL (bI c))->if decide (M<E)=true then N/\if decide ((97:Int)<=O)=true then N/\N/\if decide ((65:Int)<=O)=true then N/\if(!decide (O<=(122:Int)))=true then R else P else if(!decide (O<=(122:Int)))=true then Q else P else N/\if decide ((65:Int)<=O)=true then N/\R else Q else if(!decide (s=[]))=true then if(!aM s)=true then L else if decide (s=([48]:Str))=true then L else(B<=B/\B<E)/\C/\(!decide ((↑(UInt8.toNat (List.getD s (Int.toNat B) F)):Int)=H))=ca s/\C else I:=by
 conv=>zeta
 have ln:=hs.str;have eb:∀b:UInt8,(b.toNat:Int)=bI b:=fun _=>rfl;simp only[eb,Kh,Mx];refine⟨⟨0,⟨Kg _,rfl⟩,rfl,?_⟩,?_⟩
 ·exact Xr
 rintro k ⟨h1,h2⟩;apply aa<;>intro h
 ·have hk:k<s.length:=by have:=Xo h;omega
  clear h;rw[ai s k 0 hk,KR]at h2;have l0:(0:Int)<=(k:Int)/\(k:Int)<(s.length:Int):=⟨by omega,by omega⟩;have bad:¬((48<=bI (s.getD k 0)/\bI (s.getD k 0)<=57)∨(97<=bI (s.getD k 0)/\bI (s.getD k 0)<=122)∨(65<=bI (s.getD k 0)/\bI (s.getD k 0)<=90)∨bI (s.getD k 0)=45)->false=ca s:=fun e=>by have e:eL (bI (s.getD k 0))=false:=Lb.2 (fun q=>e ((kR _).1 q));unfold ca;rw[h2,e,Ki,KJ]
  have good:((48<=bI (s.getD k 0)/\bI (s.getD k 0)<=57)∨(97<=bI (s.getD k 0)/\bI (s.getD k 0)<=122)∨(65<=bI (s.getD k 0)/\bI (s.getD k 0)<=90)∨bI (s.getD k 0)=45)->(s.all fun c=>eL (bI c))=(s.drop (k+1)).all fun c=>eL (bI c):=fun e=>by rw[h2,(kR _).2 e,KC]
  clear h2 h1
  repeat' (first|refine⟨l0,?_⟩|apply aa<;>intro q)
  all_goals simp only[Kc,Ko,KD]at *
  all_goals first
   |exact⟨trivial,bad (by omega),trivial⟩
   |(refine⟨aw hk ln,k+1,⟨by omega,good (by omega)⟩,by omega,(by first|rfl|trivial),?_⟩;exact Xr)
 ·have hk:s.length<=k:=by have:¬(k:Int)<(s.length:Int):=fun e=>h (Xd e);omega
  rw[LD hk]at h2;have h2:(s.all fun c=>eL (bI c))=true:=h2;have e:ca s=(!decide (s=[])&&!(aM s&&decide (bI (s.getD 0 0)=48)&&!decide (s=[48]))):=by unfold ca;rw[h2,MF]
  rw[e];clear e h2 h h1;refine aa (fun a=>aa (fun b=>?_) (fun b=>aa (fun c=>?_) (fun c=>?_))) (fun a=>?_)
  ·rw[Ko]at b;rw[a,b,Ki,Ki];exact Xr
  ·rw[a,c,MX,KJ];exact Xr
  ·have a':¬s=[]:=by simpa using a
   have hp:=Ls.2 a';have b:aM s=true:=by simpa using b
   rw[a,b,Lb.2 c,KC,KC,ML,MF];exact⟨⟨Int.le_refl 0,by omega⟩,trivial,rfl,trivial⟩
  ·rw[Lb.2 a,Ki];exact Xr
theorem B8(v:Vers)(hv:Wf (.st .version) v) :
  let A:=(0:Int);let B:=True/\(40:Int)=bq v/\True;let C:=(999999:Int);let D:=True/\A=bq v/\True;let E:=(46:UInt8);let F:=splitB E v.pre;let G:=v=v/\false=false/\false=false/\splitB E v.pre=splitB E v.pre/\v=v/\True;let H:=(↑(List.length F):Int);if decide (v.major<A)=true then B else if decide (C<v.major)=true then B else if decide (v.minor<A)=true then B else if decide (C<v.minor)=true then B else if decide (v.patch<A)=true then B else if decide (C<v.patch)=true then B else if decide ((24:Int)<(↑(List.length v.pre):Int))=true then B else if decide (v.pre=[])=true then D else List.length v.pre<=(4096:Nat)/\(∃(x:Nat),(x<=List.length F/\List.all F ca=List.all (List.drop x F) ca)/\A=(↑x:Int)/\G)/\∀(x:Nat),let I:=(↑x:Int);x<=List.length F/\List.all F ca=List.all (List.drop x F) ca->if decide (I<H)=true then(A<=I/\I<H)/\if(!ca (List.getD F (Int.toNat I) (dfl Ty.str)))=true then B else inR IntKind.i64 (I+(1:Int))/\∃(y:Nat),(y<=List.length F/\List.all F ca=List.all (List.drop y F) ca)/\List.length F-y<List.length F-x/\I+(1:Int)=(↑y:Int)/\G else D:=by
 conv=>zeta
 refine aa (fun a=>?_) (fun a=>aa (fun b=>?_) (fun b=>aa (fun c=>?_) (fun c=>aa (fun d=>?_) (fun d=>aa (fun e=>?_) (fun e=>aa (fun f=>?_) (fun f=>aa (fun g=>?_) (fun g=>aa (fun h=>?_) (fun h=>?_))))))))
 ·refine⟨trivial,?_,trivial⟩;unfold bq;rw[Kf (by have:=Xo a;omega)]
 ·refine⟨trivial,?_,trivial⟩;unfold bq;rw[Kf (by have:=Xo b;omega)]
 ·refine⟨trivial,?_,trivial⟩;unfold bq;rw[Kf (by have:=Xo c;omega)]
 ·refine⟨trivial,?_,trivial⟩;unfold bq;rw[Kf (by have:=Xo d;omega)]
 ·refine⟨trivial,?_,trivial⟩;unfold bq;rw[Kf (by have:=Xo e;omega)]
 ·refine⟨trivial,?_,trivial⟩;unfold bq;rw[Kf (by have:=Xo f;omega)]
 all_goals
  have hn:¬(v.major<0∨999999<v.major∨v.minor<0∨999999<v.minor∨v.patch<0∨999999<v.patch):=by have a:¬v.major<0:=fun q=>a (Xd q);have b:¬999999<v.major:=fun q=>b (Xd q);have c:¬v.minor<0:=fun q=>c (Xd q);have d:¬999999<v.minor:=fun q=>d (Xd q);have e:¬v.patch<0:=fun q=>e (Xd q);have f:¬999999<v.patch:=fun q=>f (Xd q);omega
 ·refine⟨trivial,?_,trivial⟩;unfold bq;rw[Kb hn,Kf (by have:=Xo g;omega)]
 ·refine⟨trivial,?_,trivial⟩;have g:¬(24:Int)<(v.pre.length:Int):=fun e=>g (Xd e);unfold bq;rw[Kb hn,Kb (by omega),Kf (Xo h)]
 have g:¬(24:Int)<(v.pre.length:Int):=fun e=>g (Xd e);have hg:bq v=if(splitB 46 v.pre).all ca=true then 0 else 40:=by unfold bq;rw[Kb hn,Kb (by omega),Kb (fun q=>h (Xd q))]
 have hs:=cN 46 v.pre;refine⟨by omega,⟨0,⟨Kg _,rfl⟩,rfl,?_⟩,?_⟩
 ·exact Xr
 rintro k ⟨k1,k2⟩;apply aa<;>intro m
 ·have m:=Xo m;have hk:k<(splitB 46 v.pre).length:=by omega
  rw[ai (splitB 46 v.pre) k (dfl Ty.str) hk,KR]at k2;simp only[Kh];refine⟨⟨by omega,m⟩,aa (fun n=>?_) (fun n=>?_)⟩
  ·have n:ca ((splitB 46 v.pre).getD k (dfl Ty.str))=false:=by simpa using n
   rw[n,Ki]at k2;rw[hg,Kb (by rw[k2];exact Lz)];exact Xr
  ·have n:ca ((splitB 46 v.pre).getD k (dfl Ty.str))=true:=by simpa using n
   rw[n,KC]at k2;refine⟨aO (by omega) (by omega),k+1,⟨by omega,k2⟩,by omega,rfl,?_⟩;exact Xr
 ·have hk:(splitB 46 v.pre).length<=k:=by have:¬(k:Int)<((splitB 46 v.pre).length:Int):=fun e=>m (Xd e);omega
  rw[LD hk]at k2;have k2:(splitB 46 v.pre).all ca=true:=k2;rw[hg,Kf k2];exact Xr
theorem He(p:Int)  :
  let A:=True;let B:=A/\false=eC p/\A;if decide ((0:Int)<=p)=true then if decide (p<=(1114111:Int))=true then if decide (p<(55296:Int))=true then A/\true=eC p/\A else A/\decide ((57343:Int)<p)=eC p/\A else B else B:=by
 conv=>zeta
 unfold eC;by_cases a:0<=p<;>by_cases b:p<=1114111<;>by_cases c:p<55296<;>simp[a,b,c]
theorem Hf(p:Int)(ho:0<=p/\p<=1114111) :
  let A:=(128:Int);let B:=True;let C:=(fun(n:Int)=>UInt8.ofNat (Int.toNat n));let D:=(64:Int);let E:=(0:Int);let F:=D≠E;let G:=Int.tdiv p D;let H:=F/\inR IntKind.i64 G;let I:=(192:Int)+Int.tdiv p D;let J:=F/\inR IntKind.i64 (Int.tmod p D);let K:=A+Int.tmod p D;let L:=inR IntKind.i64 (K);let M:=inR IntKind.u8 (K);let N:=(4096:Int);let O:=Int.tdiv p N;let P:=N≠E/\inR IntKind.i64 O;let Q:=(224:Int)+Int.tdiv p N;let R:=F/\inR IntKind.i64 (Int.tmod G D);let S:=A+Int.tmod G D;let T:=inR IntKind.i64 (S);let U:=inR IntKind.u8 (S);let V:=(262144:Int);let W:=(240:Int)+Int.tdiv p V;let X:=A+Int.tmod O D;if decide (p<A)=true then inR IntKind.u8 p/\B/\List.map C [p]=cX p/\B else if decide (p<(2048:Int))=true then H/\inR IntKind.i64 (I)/\inR IntKind.u8 (I)/\J/\L/\M/\B/\List.map C [I,K]=cX p/\B else if decide (p<(65536:Int))=true then P/\inR IntKind.i64 (Q)/\inR IntKind.u8 (Q)/\H/\R/\T/\U/\J/\L/\M/\B/\List.map C [Q,S,K]=cX p/\B else(V≠E/\inR IntKind.i64 (Int.tdiv p V))/\inR IntKind.i64 (W)/\inR IntKind.u8 (W)/\P/\(F/\inR IntKind.i64 (Int.tmod O D))/\inR IntKind.i64 (X)/\inR IntKind.u8 (X)/\H/\R/\T/\U/\J/\L/\M/\B/\List.map C [W,X,S,K]=cX p/\B:=by
 conv=>zeta
 obtain⟨h1,h2⟩:=ho;have t1:Int.tdiv p 64=p/64:=MM h1;have t2:Int.tdiv p 4096=p/4096:=MM h1;have t3:Int.tdiv p 262144=p/262144:=MM h1;have m0:Int.tmod p 64=p%64:=MN h1;have m1:Int.tmod (p/64) 64=p/64%64:=MN (by omega);have m2:Int.tmod (p/4096) 64=p/4096%64:=MN (by omega);simp only[t1,t2,t3,m0,m1,m2];have u8:∀n:Int,0<=n->n<=255->inR IntKind.u8 n:=fun n a b=>⟨a,b⟩;have i64:∀n:Int,-10000000<=n->n<=10000000->inR IntKind.i64 n:=fun n a b=>aO (by omega) (by omega);unfold cX jq;apply aa<;>intro a
 ·have a:=Xo a;rw[Kf a];exact⟨u8 _ (by omega) (by omega),trivial,rfl,trivial⟩
 have a:¬p<128:=fun e=>a (Xd e);rw[Kb a];apply aa<;>intro b
 ·have b:=Xo b;rw[Kf b]
  repeat (first|exact trivial|refine⟨by first|rfl|trivial|(exact⟨by decide,i64 _ (by omega) (by omega)⟩)|(exact i64 _ (by omega) (by omega))|(exact u8 _ (by omega) (by omega)),?_⟩)
 have b:¬p<2048:=fun e=>b (Xd e);rw[Kb b];apply aa<;>intro d
 ·have d:=Xo d;rw[Kf d]
  repeat (first|exact trivial|refine⟨by first|rfl|trivial|(exact⟨by decide,i64 _ (by omega) (by omega)⟩)|(exact i64 _ (by omega) (by omega))|(exact u8 _ (by omega) (by omega)),?_⟩)
 ·have d:¬p<65536:=fun e=>d (Xd e);rw[Kb d]
  repeat (first|exact trivial|refine⟨by first|rfl|trivial|(exact⟨by decide,i64 _ (by omega) (by omega)⟩)|(exact i64 _ (by omega) (by omega))|(exact u8 _ (by omega) (by omega)),?_⟩)
theorem Hg(s:Str)(hs:Wf .str s) :
  let A:=(0:Int);let B:=gO s;let C:=True/\A=B.1/\A=B.2/\True;let D:=(↑(List.length s):Int);let E:=A<=A/\A<D;let F:=(0:UInt8);let G:=(↑(UInt8.toNat (List.getD s (Int.toNat A) F)):Int);let H:=inR IntKind.i64 G;let I:=(240:Int);let J:=(↑(bU s):Int);let K:=false=false/\True;let L:=s=s/\A=A/\A=A/\K;let M:=(224:Int);let N:=(192:Int);let O:=(1:Int);let P:=(1:Nat);let Q:=(-300:Int);let R:=(300:Int);let S:=(2:Nat);let T:=(-20000:Int);let U:=(20000:Int);let V:=(3:Nat);let W:=(-1300000:Int);let X:=(1300000:Int);let Y:=(4:Nat);let Z:=(-90000000:Int);let a:=(90000000:Int);let b:=J=J/\s=s/\A=A/\A=A/\false=false/\K;let c:=(64:Int);if decide (s=[])=true then C else E/\H/\(E/\if decide (I<=G)=true then E/\H/\inR IntKind.i64 (G-I)/\(4:Int)=J/\G-I=fU s/\L else E/\if decide (M<=G)=true then E/\H/\inR IntKind.i64 (G-M)/\(3:Int)=J/\G-M=fU s/\L else E/\if decide (N<=G)=true then E/\H/\inR IntKind.i64 (G-N)/\(2:Int)=J/\G-N=fU s/\L else O=J/\G=fU s/\L)/\if decide (D<J)=true then C else(∃(x:Nat),(P<=x/\x<=bU s/\(x=P->Q<=aT s x/\aT s x<=R)/\(x=S->T<=aT s x/\aT s x<=U)/\(x=V->W<=aT s x/\aT s x<=X)/\(x=Y->Z<=aT s x/\aT s x<=a))/\O=(↑x:Int)/\fU s=aT s x/\b)/\∀(x:Nat),let d:=(↑x:Int);let e:=(↑(UInt8.toNat (List.getD s (Int.toNat d) F)):Int);P<=x/\x<=bU s/\(x=P->Q<=aT s x/\aT s x<=R)/\(x=S->T<=aT s x/\aT s x<=U)/\(x=V->W<=aT s x/\aT s x<=X)/\(x=Y->Z<=aT s x/\aT s x<=a)->if decide (d<J)=true then inR IntKind.i64 (aT s x*c)/\(A<=d/\d<D)/\inR IntKind.i64 e/\inR IntKind.i64 (aT s x*c+e)/\inR IntKind.i64 (aT s x*c+e-(128:Int))/\inR IntKind.i64 (d+O)/\∃(y:Nat),(P<=y/\y<=bU s/\(y=P->Q<=aT s y/\aT s y<=R)/\(y=S->T<=aT s y/\aT s y<=U)/\(y=V->W<=aT s y/\aT s y<=X)/\(y=Y->Z<=aT s y/\aT s y<=a))/\bU s-y<bU s-x/\d+O=(↑y:Int)/\aT s x*c+e-(128:Int)=aT s y/\b else if(!eC (aT s x))=true then C else(A<=aT s x/\aT s x<=(1114111:Int))/\(A<=A/\A<=J/\J<=D)/\if(!decide (cX (aT s x)=List.drop (Int.toNat A) (List.take (Int.toNat J) s)))=true then C else True/\aT s x=B.1/\J=B.2/\True:=by
 conv=>zeta
 have ln:=hs.str;apply aa<;>intro h
 ·have h:=Xo h;subst h;exact Xr
 have hne:s≠[]:=fun e=>h (Xd e);have hpos:=Ls.2 hne;have eb:∀b:UInt8,(b.toNat:Int)=bI b:=fun _=>rfl;simp only[eb,Mx,Kh];obtain⟨n1,n2⟩:=IZ (s.getD 0 0);have i64:∀n:Int,-10000000000<=n->n<=10000000000->inR IntKind.i64 n:=fun n a b=>aO (by omega) (by omega);have l0:(0:Int)<=0/\(0:Int)<(s.length:Int):=⟨by omega,by omega⟩;have hL:bU s=if 240<=bI (s.getD 0 0)then 4 else if 224<=bI (s.getD 0 0)then 3 else if 192<=bI (s.getD 0 0)then 2 else 1:=rfl
 have h0:fU s=if 240<=bI (s.getD 0 0)then bI (s.getD 0 0)-240 else if 224<=bI (s.getD 0 0)then bI (s.getD 0 0)-224 else if 192<=bI (s.getD 0 0)then bI (s.getD 0 0)-192 else bI (s.getD 0 0):=rfl
 refine⟨l0,i64 _ (by omega) (by omega),⟨l0,aa (fun a=>?_) (fun a=>⟨l0,aa (fun b=>?_) (fun b=>⟨l0,aa (fun c=>?_) (fun c=>?_)⟩)⟩)⟩,?_⟩
 ·have a:=Xo a;rw[Kf a]at hL h0;refine⟨l0,i64 _ (by omega) (by omega),i64 _ (by omega) (by omega),by rw[hL];rfl,h0.symm,?_⟩;exact Xr
 ·have a:¬240<=bI (s.getD 0 0):=fun e=>a (Xd e);have b:=Xo b;rw[Kb a,Kf b]at hL h0;refine⟨l0,i64 _ (by omega) (by omega),i64 _ (by omega) (by omega),by rw[hL];rfl,h0.symm,?_⟩;exact Xr
 ·have a:¬240<=bI (s.getD 0 0):=fun e=>a (Xd e);have b:¬224<=bI (s.getD 0 0):=fun e=>b (Xd e);have c:=Xo c;rw[Kb a,Kb b,Kf c]at hL h0;refine⟨l0,i64 _ (by omega) (by omega),i64 _ (by omega) (by omega),by rw[hL];rfl,h0.symm,?_⟩;exact Xr
 ·have a:¬240<=bI (s.getD 0 0):=fun e=>a (Xd e);have b:¬224<=bI (s.getD 0 0):=fun e=>b (Xd e);have c:¬192<=bI (s.getD 0 0):=fun e=>c (Xd e);rw[Kb a,Kb b,Kb c]at hL h0;refine⟨by rw[hL];rfl,h0.symm,?_⟩;exact Xr
 have hb0:-300<=fU s/\fU s<=300:=by rw[h0];(repeat' split)<;>omega
 have hb1:1<=bU s/\bU s<=4:=by rw[hL];(repeat' split)<;>omega
 clear hL h0 n1 n2;apply aa<;>intro a
 ·have a:=Xo a;have e:gO s=(0,0):=by unfold gO;rw[Kb hne,Kf (by omega)]
  rw[e];exact Xr
 have a:¬(s.length:Int)<(bU s:Int):=fun e=>a (Xd e);have hF:gO s=if eC (aT s (bU s))=true/\cX (aT s (bU s))=s.take (bU s)then(aT s (bU s),(bU s:Int))else(0,0):=by unfold gO;rw[Kb hne,Kb (by omega)]
 refine⟨⟨1,⟨Kn _,hb1.1,fun _=>hb0,fun e=>by omega,fun e=>by omega,fun e=>by omega⟩,?_⟩,?_⟩
 ·exact Xr
 rintro k ⟨k1,k2,k3,k4,k5,k6⟩;apply aa<;>intro b
 ·have b:k<bU s:=by have:=Xo b;omega
  obtain⟨m1,m2⟩:=IZ (s.getD k 0);have hf:aT s (k+1)=aT s k *64+bI (s.getD k 0)-128:=by obtain⟨j,rfl⟩:∃j,k=j+1:=⟨k-1,by omega⟩;rfl
  have hk:k=1∨k=2∨k=3:=by omega
  have hb:-1300000<=aT s k/\aT s k<=1300000:=by
   rcases hk with e|e|e
   ·have:=k3 e;omega
   ·have:=k4 e;omega
   ·exact k5 e
  refine⟨i64 _ (by omega) (by omega),⟨by omega,by omega⟩,i64 _ (by omega) (by omega),i64 _ (by omega) (by omega),i64 _ (by omega) (by omega),i64 _ (by omega) (by omega),k+1,⟨by omega,by omega,fun e=>by omega,fun e=>by have:=k3 (by omega);omega,fun e=>by have:=k4 (by omega);omega,fun e=>by have:=k5 (by omega);omega⟩,by omega,by omega,hf.symm,?_⟩;exact Xr
 ·have b:k=bU s:=by have:¬((k:Int)<(bU s:Int)):=fun e=>b (Xd e);omega
  subst b;simp only[LF];apply aa<;>intro c
  ·rw[Kb (fun e=>by rw[e.1]at c;cases c)]at hF;rw[hF];exact Xr
  have c:eC (aT s (bU s))=true:=by simpa using c
  have c':=c;unfold eC at c';simp only[Ka,Kc]at c';refine⟨⟨c'.1.1,c'.1.2⟩,⟨by omega,by omega,by omega⟩,aa (fun d=>?_) (fun d=>?_)⟩
  ·have d:¬cX (aT s (bU s))=s.take (bU s):=by simpa using d
   rw[Kb (fun e=>d e.2)]at hF;rw[hF];exact Xr
  ·have d:cX (aT s (bU s))=s.take (bU s):=by simpa using d
   rw[Kf ⟨c,d⟩]at hF;rw[hF];exact Xr
theorem En(n:Nat)(t:Trm)(m:Int)(hs:Wf (.st .term) t)(hz:szT t<=n+1)(h0:0<=m)(h1:m<=1000000) :
  let A:=(1:Int);let B:=(0:Int);let C:=(↑(List.length t.parts):Int);let D:=t=t/\m=m/\B=B/\B=B/\t.parts=t.parts/\C=C/\t=t/\True;let E:=countT t m;let F:=dfl (Ty.st SN.term);(∃(x:Nat×Int×Int),(x.1<=List.length t.parts/\A<=x.2.1/\x.2.1<=m+A/\B<=x.2.2/\x.2.2+A<=x.2.1/\countL (List.drop x.1 t.parts) m x.2.1 x.2.2=countL t.parts m A B)/\A=x.2.1/\B=x.2.2/\B=(↑x.1:Int)/\D)/\∀(x:Nat×Int×Int),let G:=(↑x.1:Int);let H:=inR IntKind.i64 (x.2.2+A)/\True/\x.2.1=E.1/\x.2.2+A=E.2/\True;let I:=m-x.2.1;let J:=List.getD t.parts (Int.toNat G) F;let K:=countT J I;x.1<=List.length t.parts/\A<=x.2.1/\x.2.1<=m+A/\B<=x.2.2/\x.2.2+A<=x.2.1/\countL (List.drop x.1 t.parts) m x.2.1 x.2.2=countL t.parts m A B->if decide (G<C)=true then(B<=G/\G<C)/\if decide (m<x.2.1)=true then H else inR IntKind.i64 I/\(szT J<=n/\B<=m-x.2.1/\m-x.2.1<=(1000000:Int))/\inR IntKind.i64 (x.2.1+K.1)/\inR IntKind.i64 (G+A)/\∃(y:Nat×Int×Int),(y.1<=List.length t.parts/\A<=y.2.1/\y.2.1<=m+A/\B<=y.2.2/\y.2.2+A<=y.2.1/\countL (List.drop y.1 t.parts) m y.2.1 y.2.2=countL t.parts m A B)/\List.length t.parts-y.1<List.length t.parts-x.1/\x.2.1+K.1=y.2.1/\max x.2.2 K.2=y.2.2/\G+A=(↑y.1:Int)/\D else H:=by
 conv=>zeta
 have ln:=hs.term_parts.len;rw[DC];refine⟨⟨(0,1,0),⟨Kg _,by decide,by show(1:Int)<=m+1;omega,by decide,by decide,rfl⟩,rfl,rfl,rfl,?_⟩,?_⟩
 ·exact Xr
 rintro⟨k,a,d⟩ ⟨h1,h2,h3,h4,h5,h6⟩;simp only[Kh]at h1 h2 h3 h4 h5 h6⊢;apply aa<;>intro h
 ·replace h:=Xo h;have hk:k<t.parts.length:=by omega
  rw[ai t.parts k (dfl (.st .term)) hk,countL]at h6;refine⟨by omega,aa (fun c=>?_) (fun c=>?_)⟩
  ·replace c:=Xo c;rw[Kf c]at h6;rw[<-h6];refine⟨aO (by omega) (by omega),?_⟩;exact Xr
  ·replace c:¬m<a:=fun e=>c (Xd e);rw[Kb c]at h6;have hm:=eV (aP t.parts k (dfl (.st .term)) hk);have he:=gi t;have hb:=countT_bound (t.parts.getD k (dfl (.st .term))) (m-a) (by omega);refine⟨aO (by omega) (by omega),⟨by omega,by omega,by omega⟩,aO (by omega) (by omega),aw hk ln,(k+1,_,_),⟨by show k+1<=_;omega,?_,?_,?_,?_,h6⟩,by show _-(k+1)<_;omega,rfl,rfl,by show _=((k+1:Nat):Int);omega,?_⟩
   ·show(1:Int)<=a+_;omega
   ·show a+_<=m+1;omega
   ·show(0:Int)<=max d _;omega
   ·show max d _+1<=a+_;omega
   exact Xr
 ·replace h:¬((k:Int)<(t.parts.length:Int)):=fun e=>h (Xd e);have e:k=t.parts.length:=by omega
  subst e;rw[Km,countL]at h6;rw[<-h6];refine⟨aO (by omega) (by omega),?_⟩;exact Xr
theorem B9 (x:Str)  :
  True/\(!au x)=!au x/\True:=by
 exact⟨trivial,by trivial,trivial⟩
theorem Ba (l:List Str) (hl:Wf (.lst .str) l) :
  let A:=(0:Nat);let B:=(↑(List.length l):Int);let C:=l=l/\B=B/\True;(∃(x:Nat),(x<=List.length l/\b9 au (List.drop x l) x=b9 au l A)/\(0:Int)=(↑x:Int)/\C)/\∀(x:Nat),let D:=(↑x:Int);x<=List.length l/\b9 au (List.drop x l) x=b9 au l A->if decide (D<B)=true then((0:Int)<=D/\D<B)/\if(!au (List.getD l (Int.toNat D) (dfl Ty.str)))=true then True/\D=b9 au l A/\True else inR IntKind.i64 (D+(1:Int))/\∃(y:Nat),(y<=List.length l/\b9 au (List.drop y l) y=b9 au l A)/\List.length l-y<List.length l-x/\D+(1:Int)=(↑y:Int)/\C else True/\(-1:Int)=b9 au l A/\True:=by
 conv=>zeta
 have ln:=hl.len;simp only[Kh];refine⟨⟨0,⟨Kg _,by simp⟩,rfl,by trivial,by trivial,trivial⟩,?_⟩;rintro k ⟨h1,h2⟩;apply aa<;>intro h
 ·replace h:=Xo h;have hk:k<l.length:=by omega
  rw[ai l k (dfl .str) hk,b9]at h2;refine⟨by omega,aa (fun c=>?_) (fun c=>?_)⟩
  ·have c:au (l.getD k (dfl .str))=false:=by simpa using c
   rw[c,Kb Lz]at h2;rw[<-h2];exact Xr
  ·have c:au (l.getD k (dfl .str))=true:=by simpa using c
   rw[Kf c]at h2;refine⟨aw hk ln,k+1,⟨by omega,h2⟩,by omega,by omega,by trivial,by trivial,trivial⟩
 ·replace h:¬((k:Int)<(l.length:Int)):=fun e=>h (Xd e);have e:k=l.length:=by omega
  subst e;rw[Km,b9]at h2;rw[<-h2];exact Xr
theorem Bb (l:List Str)  :
  True/\decide ((0:Int)<=b9 au l (0:Nat))=!List.all l au/\True:=by
 exact⟨trivial,iA au l 0,trivial⟩
theorem Hh (l:List Str)  :
  True/\(!!List.all l au)=List.all l au/\True:=by
 exact⟨trivial,Ng _,trivial⟩
theorem Hi(l:List Str)(ho:l.length *16<=140737488355328) :
  let A:=(List.mergeSort l fun(x y:Str)=>decide (x<=y));let B:=List.all l au&&decide (List.Nodup l);List.length l*(16:Nat)<=(140737488355328:Nat)/\if List.all l au=true then List.length A=List.length A/\True/\decide ((↑(List.length (Lib.compact A)):Int)=(↑(List.length l):Int))=B/\True else True/\false=B/\True:=by
 conv=>zeta
 have hc:=fM l;unfold eK at hc;refine⟨ho,aa (fun h=>?_) (fun h=>?_)⟩
 ·refine⟨by trivial,trivial,?_,trivial⟩;rw[h,KC,L0,<-hc];omega
 ·have h:l.all au=false:=by simpa using h
  exact⟨trivial,by rw[h];rfl,trivial⟩
theorem Bc(n:Nat)(x:Shape) (ho:sz x<=n) :
  sz x<=n/\True/\(!allS ao x)=!allS ao x/\True:=by
 exact⟨ho,trivial,by trivial,trivial⟩
theorem Bd(n:Nat)(l:List Shape) (hl:Wf (.lst (.st .shape)) l)(ho:∀x∈l,sz x<=n) :
  let A:=allS ao;let B:=(0:Nat);let C:=(↑(List.length l):Int);let D:=l=l/\C=C/\True;let E:=dfl (Ty.st SN.shape);(∃(x:Nat),(x<=List.length l/\b9 A (List.drop x l) x=b9 A l B)/\(0:Int)=(↑x:Int)/\D)/\∀(x:Nat),let F:=(↑x:Int);let G:=List.getD l (Int.toNat F) E;x<=List.length l/\b9 A (List.drop x l) x=b9 A l B->if decide (F<C)=true then((0:Int)<=F/\F<C)/\sz G<=n/\if(!allS ao G)=true then True/\F=b9 A l B/\True else inR IntKind.i64 (F+(1:Int))/\∃(y:Nat),(y<=List.length l/\b9 A (List.drop y l) y=b9 A l B)/\List.length l-y<List.length l-x/\F+(1:Int)=(↑y:Int)/\D else True/\(-1:Int)=b9 A l B/\True:=by
 conv=>zeta
 have ln:=hl.len;simp only[Kh];refine⟨⟨0,⟨Kg _,by simp⟩,rfl,by trivial,by trivial,trivial⟩,?_⟩;rintro k ⟨h1,h2⟩;apply aa<;>intro h
 ·replace h:=Xo h;have hk:k<l.length:=by omega
  rw[ai l k (dfl (.st .shape)) hk,b9]at h2;refine⟨by omega,ho _ (aP l k _ hk),aa (fun c=>?_) (fun c=>?_)⟩
  ·have c:(allS ao) (l.getD k (dfl (.st .shape)))=false:=by simpa using c
   rw[c,Kb Lz]at h2;rw[<-h2];exact Xr
  ·have c:(allS ao) (l.getD k (dfl (.st .shape)))=true:=by simpa using c
   rw[Kf c]at h2;refine⟨aw hk ln,k+1,⟨by omega,h2⟩,by omega,by omega,by trivial,by trivial,trivial⟩
 ·replace h:¬((k:Int)<(l.length:Int)):=fun e=>h (Xd e);have e:k=l.length:=by omega
  subst e;rw[Km,b9]at h2;rw[<-h2];exact Xr
theorem Be(n:Nat)(l:List Shape) (ho:∀x∈l,sz x<=n) :
  (∀(x:Shape),x∈l->sz x<=n)/\True/\decide ((0:Int)<=b9 (allS ao) l (0:Nat))=!List.all l (allS ao)/\True:=by
 exact⟨ho,trivial,iA (allS ao) l 0,trivial⟩
theorem Hj(n:Nat)(l:List Shape) (ho:∀x∈l,sz x<=n) :
  (∀(x:Shape),x∈l->sz x<=n)/\True/\(!!List.all l (allS ao))=List.all l (allS ao)/\True:=by
 exact⟨ho,trivial,Ng _,trivial⟩
theorem IK(n:Nat)(s:Shape)(ho:sz s<=n+1) :
  if(!decide (s.kind=(10:Int)))=true then(∀(x:Shape),x∈s.parts->sz x<=n)/\True/\List.all s.parts (allS ao)=allS ao s/\True else True/\false=allS ao s/\True:=by
 have e0:allS ao s=(ao s&&s.parts.all (allS ao)):=by rw[iQ,rM]
 have h0:=iP s;have hm:∀x∈s.parts,sz x<=n:=fun x hx=>by have:=eZ hx;omega
 rw[e0];apply aa<;>intro h
 ·have h:ao s=true:=h;rw[h,KC];exact⟨hm,trivial,rfl,trivial⟩
 ·have h:ao s=false:=by simpa[ao]using h
  rw[h];exact Xr
theorem Eo(s:Shape)  :
  let A:=(decide (bH s=(0:Int))&&allS ao s);if decide (bH s=(0:Int))=true then sz s<=(400:Nat)/\True/\allS ao s=A/\True else True/\false=A/\True:=by
 conv=>zeta
 apply aa<;>intro h
 ·have h:bH s=0:=by simpa using h
  refine⟨?_,trivial,by simp[h],trivial⟩;unfold bH at h;by_cases c:400<sz s
  ·rw[Kf c]at h;exact absurd h (by decide)
  ·omega
 ·have h:¬bH s=0:=by simpa using h
  exact⟨trivial,by simp[h],trivial⟩
theorem JI(t:Trm)  :
  let A:=(↑(List.length t.names):Int);let B:=(↑(List.length t.vars):Int);let C:=(↑(List.length t.shapes):Int);let D:=(↑(List.length t.parts):Int);True/\A=A/\B=B/\C=C/\D=D/\True:=by
 conv=>zeta
 exact Xr
theorem Hk(s:Str)(hs:Wf .str s) :
  let A:=cK s;let B:=(↑(List.length A):Int);let C:=s=s/\cK s=cK s/\B=B/\True;let D:=dfl (Ty.int IntKind.u8);let E:=(1:Int);(∃(x:Nat),(x<=List.length s/\List.all s df=List.all (List.drop x s) df)/\(0:Int)=(↑x:Int)/\C)/\∀(x:Nat),let F:=(↑x:Int);let G:=Int.toNat F;let H:=inR IntKind.i64 (F+E)/\∃(y:Nat),(y<=List.length s/\List.all s df=List.all (List.drop y s) df)/\List.length s-y<List.length s-x/\F+E=(↑y:Int)/\C;x<=List.length s/\List.all s df=List.all (List.drop x s) df->if decide (F<B)=true then((0:Int)<=F/\F<B)/\if decide (List.getD A G D<(32:Int))=true then if(!decide (List.getD A G D=(10:Int)))=true then if(!decide (List.getD A G D=(9:Int)))=true then True/\false=iT s/\True else H else H else H else True/\Option.isNone (kO s)=iT s/\True:=by
 conv=>zeta
 have ln:=hs.str;have hbl:(cK s).length=s.length:=Lr _;simp only[hbl,Kh];refine⟨⟨0,⟨Kg _,rfl⟩,?_⟩,?_⟩
 ·exact Xr
 rintro k ⟨h1,h2⟩;apply aa<;>intro h
 ·have hk:k<s.length:=by have:=Xo h;omega
  rw[ai s k 0 hk,KR]at h2;have hq:=ue (s.getD k 0);simp only[xI s k hk]
  have yes:¬(bI (s.getD k 0)<32/\bI (s.getD k 0)≠10/\bI (s.getD k 0)≠9)->s.all df=(s.drop (k+1)).all df:=fun e=>by
   have:df (s.getD k 0)=true:=by
    cases hh:df (s.getD k 0)with|true=>rfl|false=>exact absurd (hq.1 hh) e
   rw[h2,this,KC]
  refine⟨⟨by omega,by omega⟩,?_⟩
  repeat' (apply aa<;>intro _)
  all_goals (simp only[Kc,Ko,KD]at *)
  all_goals first
   |(refine⟨trivial,?_,trivial⟩;unfold iT;rw[h2,hq.2 (by omega),Ki,Ki])
   |(refine⟨aw hk ln,k+1,⟨by omega,yes (by omega)⟩,by omega,by omega,?_⟩;exact Xr)
 ·have hk:k=s.length:=by have:¬((k:Int)<(s.length:Int)):=fun e=>h (Xd e);omega
  refine⟨trivial,?_,trivial⟩;unfold iT;rw[h2,hk,Km];rfl
theorem yu (x:Shape)  :
  True/\(!(decide (bH x=(0:Int))&&allS ao x))=!bg x/\True:=by
 exact⟨trivial,by trivial,trivial⟩
theorem yw (l:List Shape) (hl:Wf (.lst (.st .shape)) l) :
  let A:=(0:Nat);let B:=(↑(List.length l):Int);let C:=l=l/\B=B/\True;(∃(x:Nat),(x<=List.length l/\b9 bg (List.drop x l) x=b9 bg l A)/\(0:Int)=(↑x:Int)/\C)/\∀(x:Nat),let D:=(↑x:Int);x<=List.length l/\b9 bg (List.drop x l) x=b9 bg l A->if decide (D<B)=true then((0:Int)<=D/\D<B)/\if(!bg (List.getD l (Int.toNat D) (dfl (Ty.st SN.shape))))=true then True/\D=b9 bg l A/\True else inR IntKind.i64 (D+(1:Int))/\∃(y:Nat),(y<=List.length l/\b9 bg (List.drop y l) y=b9 bg l A)/\List.length l-y<List.length l-x/\D+(1:Int)=(↑y:Int)/\C else True/\(-1:Int)=b9 bg l A/\True:=by
 conv=>zeta
 have ln:=hl.len;simp only[Kh];refine⟨⟨0,⟨Kg _,by simp⟩,rfl,by trivial,by trivial,trivial⟩,?_⟩;rintro k ⟨h1,h2⟩;apply aa<;>intro h
 ·replace h:=Xo h;have hk:k<l.length:=by omega
  rw[ai l k (dfl (.st .shape)) hk,b9]at h2;refine⟨by omega,aa (fun c=>?_) (fun c=>?_)⟩
  ·have c:bg (l.getD k (dfl (.st .shape)))=false:=by simpa using c
   rw[c,Kb Lz]at h2;rw[<-h2];exact Xr
  ·have c:bg (l.getD k (dfl (.st .shape)))=true:=by simpa using c
   rw[Kf c]at h2;refine⟨aw hk ln,k+1,⟨by omega,h2⟩,by omega,by omega,by trivial,by trivial,trivial⟩
 ·replace h:¬((k:Int)<(l.length:Int)):=fun e=>h (Xd e);have e:k=l.length:=by omega
  subst e;rw[Km,b9]at h2;rw[<-h2];exact Xr
theorem yy (l:List Shape)  :
  True/\decide ((0:Int)<=b9 bg l (0:Nat))=!List.all l bg/\True:=by
 exact⟨trivial,iA bg l 0,trivial⟩
theorem Ep (l:List Shape)  :
  True/\(!!List.all l bg)=List.all l bg/\True:=by
 exact⟨trivial,Ng _,trivial⟩
theorem Hl(t:Trm)(ht:Wf (.st .term) t)(ho:t.names.length<=8796093022208) :
  let A:=(0:Int);let B:=(↑(List.length t.names):Int);let C:=(↑(List.length t.vars):Int);let D:=(↑(List.length t.shapes):Int);let E:=(↑(List.length t.parts):Int);let F:=True;let G:=t=t/\false=false/\t=t/\B=B/\C=C/\D=D/\E=E/\F;let H:=true=!iC t/\G;let I:=(1:Int);let J:=(!List.all t.shapes bg)=!iC t/\G;let K:=if(!decide (t.pkg=[]))=true then if(!decide (t.kind=(5:Int)))=true then H else J else J;let L:=F/\false=az t/\F;let M:=F/\(decide (B=A)&&(decide (C=A)&&(decide (D=A)&&(decide (E=A)&&true))))=az t/\F;let N:=if decide (t.name=[])=true then M else L;let O:=List.length t.names*(16:Nat)<=(140737488355328:Nat);let P:=decide (E=I)&&true;let Q:=decide (E=E)&&true;let R:=F/\(decide (B=A)&&(decide (C=A)&&(decide (D=A)&&P)))=az t/\F;let S:=if au t.name=true then R else L;let T:=inR IntKind.i64 (B+I);let U:=if bO t.name=true then R else L;(if decide (t.pos<A)=true then H else if(!decide (t.n=A))=true then if(!decide (t.kind=I))=true then H else K else K)/\if(!iC t)=true then L else if decide (t.kind=I)=true then if decide (t.name=[])=true then if decide (A<=t.n)=true then if decide (t.n<=(999999999999999:Int))=true then M else L else L else L else if decide (t.kind=(2:Int))=true then if iT t.name=true then M else L else if decide (t.kind=(3:Int))=true then N else if decide (t.kind=(4:Int))=true then N else if decide (t.kind=(5:Int))=true then if au t.name=true then if decide (t.pkg=[])=true then M else if au t.pkg=true then M else L else L else if decide (t.kind=(6:Int))=true then if decide (t.name=[])=true then if decide (B<=(4096:Int))=true then O/\if(List.all t.names au&&decide (List.Nodup t.names))=true then F/\(decide (B=B)&&(decide (C=A)&&(decide (D=B)&&P)))=az t/\F else L else L else L else if decide (t.kind=(7:Int))=true then if decide (t.name=[])=true then if decide (A<E)=true then F/\(decide (B=A)&&(decide (C=A)&&(decide (D=A)&&Q)))=az t/\F else L else L else if decide (t.kind=(8:Int))=true then if decide (t.name=[])=true then O/\if(List.all t.names au&&decide (List.Nodup t.names))=true then F/\(decide (B=B)&&(decide (C=A)&&(decide (D=A)&&(decide (E=B)&&true))))=az t/\F else L else L else if decide (t.kind=(9:Int))=true then S else if decide (t.kind=(10:Int))=true then S else if decide (t.kind=(11:Int))=true then if decide (t.name=[])=true then F/\(decide (B=A)&&(decide (C=A)&&(decide (D=I)&&Q)))=az t/\F else L else if decide (t.kind=(12:Int))=true then if decide (t.name=[])=true then F/\(decide (B=A)&&(decide (C=A)&&(decide (D=I)&&(decide (E=(3:Int))&&true))))=az t/\F else L else if decide (t.kind=(13:Int))=true then if decide (t.name=[])=true then O/\if(List.all t.names au&&decide (List.Nodup t.names))=true then if List.all t.vars au=true then T/\T/\F/\(decide (B=B)&&(decide (C=B)&&(decide (D=B+I)&&(decide (E=B+I)&&true))))=az t/\F else L else L else L else if decide (t.kind=(14:Int))=true then if au t.name=true then F/\(decide (B=A)&&(decide (C=A)&&(decide (D=A)&&(decide (E=(2:Int))&&true))))=az t/\F else L else if decide (t.kind=(15:Int))=true then if decide (t.name=[])=true then F/\(decide (B=A)&&(decide (C=A)&&(decide (D=I)&&P)))=az t/\F else L else if decide (t.kind=(16:Int))=true then U else if decide (t.kind=(17:Int))=true then U else L:=by
 conv=>zeta
 refine⟨?_,aa (fun h=>?_) (fun h=>?_)⟩
 ·unfold iC
  repeat' (apply aa<;>intro _)
  all_goals simp_all
 ·have h:iC t=false:=by simpa using h
  unfold az;rw[h];exact Xr
 have h:iC t=true:=by simpa using h
 have e0:az t=k9 t:=by unfold az;rw[h,KC]
 rw[e0];clear h e0;unfold k9 cJ kS;simp only[dnZ,dn1,dn2,dn3,dnN,dnS,dnL,dnP];generalize t.names.all au=na;generalize t.vars.all au=va
 repeat' (first|apply aa<;>intro _|refine⟨by omega,?_⟩|refine⟨aO (by omega) (by omega),?_⟩|fail)
 all_goals (refine⟨trivial,?_,trivial⟩;try simp_all)
 all_goals first|(simp only[Bool.and_assoc];done)|(intros;omega)
theorem yz(n:Nat)(x:Trm) (ho:szT x<=n/\cG x=true) :
  (szT x<=n/\cG x=true)/\True/\(!allT az x)=!allT az x/\True:=by
 exact⟨ho,trivial,by trivial,trivial⟩
theorem yA(n:Nat)(l:List Trm) (hl:Wf (.lst (.st .term)) l)(ho:∀x∈l,szT x<=n/\cG x=true) :
  let A:=allT az;let B:=(0:Nat);let C:=(↑(List.length l):Int);let D:=l=l/\C=C/\True;let E:=dfl (Ty.st SN.term);(∃(x:Nat),(x<=List.length l/\b9 A (List.drop x l) x=b9 A l B)/\(0:Int)=(↑x:Int)/\D)/\∀(x:Nat),let F:=(↑x:Int);let G:=List.getD l (Int.toNat F) E;x<=List.length l/\b9 A (List.drop x l) x=b9 A l B->if decide (F<C)=true then((0:Int)<=F/\F<C)/\(szT G<=n/\cG G=true)/\if(!allT az G)=true then True/\F=b9 A l B/\True else inR IntKind.i64 (F+(1:Int))/\∃(y:Nat),(y<=List.length l/\b9 A (List.drop y l) y=b9 A l B)/\List.length l-y<List.length l-x/\F+(1:Int)=(↑y:Int)/\D else True/\(-1:Int)=b9 A l B/\True:=by
 conv=>zeta
 have ln:=hl.len;simp only[Kh];refine⟨⟨0,⟨Kg _,by simp⟩,rfl,by trivial,by trivial,trivial⟩,?_⟩;rintro k ⟨h1,h2⟩;apply aa<;>intro h
 ·replace h:=Xo h;have hk:k<l.length:=by omega
  rw[ai l k (dfl (.st .term)) hk,b9]at h2;refine⟨by omega,ho _ (aP l k _ hk),aa (fun c=>?_) (fun c=>?_)⟩
  ·have c:(allT az) (l.getD k (dfl (.st .term)))=false:=by simpa using c
   rw[c,Kb Lz]at h2;rw[<-h2];exact Xr
  ·have c:(allT az) (l.getD k (dfl (.st .term)))=true:=by simpa using c
   rw[Kf c]at h2;refine⟨aw hk ln,k+1,⟨by omega,h2⟩,by omega,by omega,by trivial,by trivial,trivial⟩
 ·replace h:¬((k:Int)<(l.length:Int)):=fun e=>h (Xd e);have e:k=l.length:=by omega
  subst e;rw[Km,b9]at h2;rw[<-h2];exact Xr
theorem yB(n:Nat)(l:List Trm) (ho:∀x∈l,szT x<=n/\cG x=true) :
  (∀(x:Trm),x∈l->szT x<=n/\cG x=true)/\True/\decide ((0:Int)<=b9 (allT az) l (0:Nat))=!List.all l (allT az)/\True:=by
 exact⟨ho,trivial,iA (allT az) l 0,trivial⟩
theorem Er(n:Nat)(l:List Trm) (ho:∀x∈l,szT x<=n/\cG x=true) :
  (∀(x:Trm),x∈l->szT x<=n/\cG x=true)/\True/\(!!List.all l (allT az))=List.all l (allT az)/\True:=by
 exact⟨ho,trivial,Ng _,trivial⟩
theorem Es(n:Nat)(t:Trm)(ho:szT t<=n+1/\cG t=true) :
  List.length t.names<=(8796093022208:Nat)/\if az t=true then(∀(x:Trm),x∈t.parts->szT x<=n/\cG x=true)/\True/\List.all t.parts (allT az)=allT az t/\True else True/\false=allT az t/\True:=by
 obtain⟨h1,h2⟩:=ho;have e0:allT az t=(az t&&t.parts.all (allT az)):=by rw[allT_eq,allTL_all]
 have h0:=gi t;rw[e0];refine⟨Av h2,aa (fun h=>?_) (fun h=>?_)⟩
 ·rw[h,KC];exact⟨fun x hx=>⟨by have:=eV hx;omega,DK h2 hx⟩,trivial,rfl,trivial⟩
 ·have h:az t=false:=by simpa using h
  rw[h];exact Xr
theorem Et(x:Trm)(ho:cG x=true) :
  let A:=szT x<=szT x;let B:=(4096:Int);let C:=True;(A/\(0:Int)<=B/\B<=(1000000:Int))/\if decide (B<(countT x B).1)=true then C/\(3:Int)=db x/\C else if decide ((40:Int)<(countT x B).2)=true then C/\(91:Int)=db x/\C else(A/\cG x=true)/\if(!allT az x)=true then C/\(80:Int)=db x/\C else C/\(0:Int)=db x/\C:=by
 conv=>zeta
 refine⟨⟨Kn _,by omega,by omega⟩,aa (fun h=>?_) (fun h=>?_)⟩
 ·replace h:=Xo h;unfold db;rw[Kf h];exact Xr
 have h:¬_:=fun e=>h (Xd e);have e1:db x=if 40<(countT x 4096).2 then 91 else if allT az x=true then 0 else 80:=by unfold db;rw[Kb h]
 apply aa<;>intro k
 ·rw[Kf (Xo k)]at e1;rw[e1];exact Xr
 rw[Kb (fun e=>k (Xd e))]at e1;refine⟨⟨Kn _,ho⟩,aa (fun j=>?_) (fun j=>?_)⟩
 ·have j:allT az x=false:=by simpa using j
  rw[j,Kb Lz]at e1;rw[e1];exact Xr
 ·have j:allT az x=true:=by simpa using j
  rw[Kf j]at e1;rw[e1];exact Xr
theorem Eu(ns:List Str)(b:Bool)(hl:Wf (.lst .str) ns) :
  let A:=(0:Int);let B:=True;let C:=ns=ns/\b=b/\B;let D:=(↑(List.length ns):Int);let E:=dfl Ty.str;let F:=B/\false=eD ns b/\B;let G:=b=false;let H:=(0:Nat);let I:=ns=ns/\b=b/\true=true/\false=false/\B;let J:=(1:Int);(∃(x:Nat),let K:=List.take x ns;(x<=List.length ns/\List.all K au=true/\(b=true->List.Nodup K))/\A=(↑x:Int)/\C)/\∀(x:Nat),let K:=List.take x ns;let L:=(↑x:Int);let M:=A<=L/\L<D;let N:=Int.toNat L;let O:=inR IntKind.i64 (L+J)/\∃(y:Nat),let P:=List.take y ns;(y<=List.length ns/\List.all P au=true/\(b=true->List.Nodup P))/\List.length ns-y<List.length ns-x/\L+J=(↑y:Int)/\C;x<=List.length ns/\List.all K au=true/\(b=true->List.Nodup K)->if decide (L<D)=true then M/\if(!au (List.getD ns N E))=true then F else(∃(x_1:Nat),let P:=(↑x_1:Int);(P<=L/\(b=true->¬List.getD ns N E∈List.take x_1 ns)/\(G->x_1=H))/\A=P/\L=L/\I)/\∀(x_1:Nat),let P:=(↑x_1:Int);P<=L/\(b=true->¬List.getD ns N E∈List.take x_1 ns)/\(G->x_1=H)->if decide (P<L)=true then if b=true then(A<=P/\P<D)/\M/\if decide (List.getD ns (Int.toNat P) E=List.getD ns N E)=true then F else inR IntKind.i64 (P+J)/\∃(y:Nat),((↑y:Int)<=L/\(b=true->¬List.getD ns N E∈List.take y ns)/\(G->y=H))/\Int.toNat L-y<Int.toNat L-x_1/\P+J=(↑y:Int)/\L=L/\I else O else O else B/\true=eD ns b/\B:=by
 conv=>zeta
 have ln:=hl.len;simp only[Kh,Lt,KV,KI];refine⟨⟨0,⟨Kg _,by simp,by simp⟩,rfl⟩,?_⟩;rintro k ⟨h1,h2,h3⟩;apply aa<;>intro h
 ·replace h:=Xo h;have hk:k<ns.length:=by omega
  have hmem:=aP ns k (dfl .str) hk;have ht:=bQ ns k (dfl .str) hk;refine⟨by omega,aa (fun a=>?_) (fun a=>?_)⟩
  ·have a':ns.all au=false:=by rw[Lb];intro e;have:=Kp.1 e _ hmem;rw[this]at a;simp at a
   unfold eD;rw[a'];simp
  ·have a':au (ns.getD k (dfl .str))=true:=by simpa using a
   refine⟨⟨0,⟨by omega,by simp,fun _=>rfl⟩,rfl⟩,?_⟩;rintro j ⟨j1,j2,j3⟩
   have nextk:(b=true->j=k)->inR IntKind.i64 ((k:Int)+1)/\∃y:Nat,(y<=ns.length/\(ns.take y).all au=true/\(b=true->(ns.take y).Nodup))/\ns.length-y<ns.length-k/\(k:Int)+1=(y:Int):=by
    intro hjk;refine⟨aw hk ln,k+1,⟨by omega,?_,fun hb=>?_⟩,by omega,by omega⟩
    ·rw[ht,List.all_append,h2];simpa using a'
    ·obtain rfl:=hjk hb;rw[ht,Mo];refine⟨h3 hb,by simp,fun x hx y hy=>?_⟩;rw[L2]at hy;subst hy;intro e;subst e;exact j2 hb hx
   apply aa<;>intro b1
   ·replace b1:=Xo b1;have hj:j<k:=by omega
    have hjn:j<ns.length:=by omega
    have htj:=bQ ns j (dfl .str) hjn;apply aa<;>intro hb
    ·refine⟨by omega,by omega,aa (fun c=>?_) (fun c=>?_)⟩
     ·replace c:=Xo c;have hnd:¬ns.Nodup:=by intro hn;rw[LP]at hn;have:=Lw.1 hn j k hjn hk hj;rw[Ke,Ke,K9 hjn,K9 hk]at c;exact this c
      unfold eD;simp[hnd,hb]
     ·refine⟨aw hjn ln,j+1,⟨by omega,fun _=>?_,fun q=>by rw[hb]at q;cases q⟩,by omega,by omega⟩;rw[htj,KZ,L2,Nr];exact⟨j2 hb,fun e=>c (Xd e.symm)⟩
    ·exact nextk (fun q=>absurd q hb)
   ·refine nextk (fun _=>?_);have:¬((j:Int)<(k:Int)):=fun e=>b1 (Xd e);omega
 ·replace h:¬((k:Int)<(ns.length:Int)):=fun e=>h (Xd e);have e:k=ns.length:=by omega
  subst e;rw[KW]at h2 h3;unfold eD;rw[h2];cases b
  ·simp
  ·simp[h3]
theorem Bf(n:Nat)(s:Shape)(hs:Wf (.st .shape) s)(hn:sz s<=n+1) :
  let A:=s=s/\s=s/\True;let B:=(↑(List.length s.parts):Int);let C:=dfl (Ty.st SN.shape);(∃(x:Nat),(x<=List.length s.parts/\allS ao s=(ao s&&allL ao (List.drop x s.parts)))/\(0:Int)=(↑x:Int)/\A)/\∀(x:Nat),let D:=(↑x:Int);let E:=List.getD s.parts (Int.toNat D) C;x<=List.length s.parts/\allS ao s=(ao s&&allL ao (List.drop x s.parts))->if decide (D<B)=true then((0:Int)<=D/\D<B)/\sz E<=n/\if(!allS ao E)=true then True/\true=!allS ao s/\True else inR IntKind.i64 (D+(1:Int))/\∃(y:Nat),(y<=List.length s.parts/\allS ao s=(ao s&&allL ao (List.drop y s.parts)))/\List.length s.parts-y<List.length s.parts-x/\D+(1:Int)=(↑y:Int)/\A else True/\decide (s.kind=(10:Int))=!allS ao s/\True:=by
 conv=>zeta
 have ln:=hs.parts.len;have hz:=iP s;simp only[Kh,Lt,KV,KI];refine⟨⟨0,⟨Kg _,by rw[iQ];rfl⟩,rfl⟩,?_⟩;rintro k ⟨h1,h3⟩;apply aa<;>intro h
 ·replace h:=Xo h;have hk:k<s.parts.length:=by omega
  have hm:=eZ (aP s.parts k (dfl (.st .shape)) hk);rw[ai s.parts k (dfl (.st .shape)) hk]at h3;simp only[allL]at h3;refine⟨by omega,by omega,aa (fun e=>?_) (fun e=>?_)⟩
  ·have e:allS ao (s.parts.getD k (dfl (.st .shape)))=false:=by simpa using e
   rw[e]at h3;rw[h3];simp
  ·have e:allS ao (s.parts.getD k (dfl (.st .shape)))=true:=by simpa using e
   rw[e,KC]at h3;exact⟨aw hk ln,k+1,⟨by omega,h3⟩,by omega,by omega⟩
 ·replace h:¬((k:Int)<(s.parts.length:Int)):=fun e=>h (Xd e);have e:k=s.parts.length:=by omega
  subst e;rw[h3,Km];simp[allL,ao]
theorem Bg(l:List Shape)(hl:Wf (.lst (.st .shape)) l) :
  let A:=(0:Int);let B:=l=l/\True;let C:=(↑(List.length l):Int);let D:=dfl (Ty.st SN.shape);let E:=True/\false=List.all l bg/\True;(∃(x:Nat),(x<=List.length l/\List.all l bg=List.all (List.drop x l) bg)/\A=(↑x:Int)/\B)/\∀(x:Nat),let F:=(↑x:Int);let G:=A<=F/\F<C;let H:=List.getD l (Int.toNat F) D;x<=List.length l/\List.all l bg=List.all (List.drop x l) bg->if decide (F<C)=true then G/\if(!decide (bH H=A))=true then E else G/\sz H<=(400:Nat)/\if(!allS ao H)=true then E else inR IntKind.i64 (F+(1:Int))/\∃(y:Nat),(y<=List.length l/\List.all l bg=List.all (List.drop y l) bg)/\List.length l-y<List.length l-x/\F+(1:Int)=(↑y:Int)/\B else True/\true=List.all l bg/\True:=by
 conv=>zeta
 have ln:=hl.len;simp only[Kh,Lt,KV,KI];refine⟨⟨0,⟨Kg _,rfl⟩,rfl⟩,?_⟩;rintro k ⟨h1,h3⟩;apply aa<;>intro h
 ·replace h:=Xo h;have hk:k<l.length:=by omega
  rw[ai l k (dfl (.st .shape)) hk,KR]at h3;have ht:bg (l.getD k (dfl (.st .shape)))=(decide (bH (l.getD k (dfl (.st .shape)))=0)&&allS ao (l.getD k (dfl (.st .shape)))):=rfl;refine⟨by omega,aa (fun c=>?_) (fun c=>?_)⟩
  ·have c:¬bH (l.getD k (dfl (.st .shape)))=0:=by simpa using c
   rw[ht,Xf c,Ki,Ki]at h3;rw[h3]
  ·have c:bH (l.getD k (dfl (.st .shape)))=0:=by simpa using c
   have hz:sz (l.getD k (dfl (.st .shape)))<=400:=by
    unfold bH at c;by_cases q:400<sz (l.getD k (dfl (.st .shape)))
    ·rw[Kf q]at c;exact absurd c (by decide)
    ·omega
   rw[ht,Xd c,KC]at h3;refine⟨by omega,hz,aa (fun e=>?_) (fun e=>?_)⟩
   ·have e:allS ao (l.getD k (dfl (.st .shape)))=false:=by simpa using e
    rw[e,Ki]at h3;rw[h3]
   ·have e:allS ao (l.getD k (dfl (.st .shape)))=true:=by simpa using e
    rw[e,KC]at h3;exact⟨aw hk ln,k+1,⟨by omega,h3⟩,by omega,by omega⟩
 ·replace h:¬((k:Int)<(l.length:Int)):=fun e=>h (Xd e);have e:k=l.length:=by omega
  subst e;rw[h3,Km];rfl
theorem Ev(t:Trm)(n v s p:Int)  :
  let A:=True/\false=gK t n v s p/\True;if decide ((↑(List.length t.names):Int)=n)=true then if decide ((↑(List.length t.vars):Int)=v)=true then if decide ((↑(List.length t.shapes):Int)=s)=true then True/\decide ((↑(List.length t.parts):Int)=p)=gK t n v s p/\True else A else A else A:=by
 conv=>zeta
 unfold gK
 repeat' (apply aa<;>intro _)
 all_goals simp_all
theorem Bh(s:Str)(hs:Wf .str s)(ho:s.length<=2000000) :
  let A:=(0:Int);let B:=A=A/\A=A/\True;let C:=(↑(List.length s):Int);let D:=List.take (Int.toNat C) s;let E:=jb s;(∃(x:Nat×Nat×List Int),(x.2.1<=List.length s/\List.length s-x.2.1<x.1/\List.length x.2.2<=x.2.1/\jR s x.1 x.2.1 x.2.2=jb s)/\A=(↑x.2.1:Int)/\x.2.2=[]/\s=s/\List.length x.2.2=(0:Nat)/\B)/\∀(x:Nat×Nat×List Int),let F:=(↑x.2.1:Int);let G:=gO (List.drop (Int.toNat F) D);x.2.1<=List.length s/\List.length s-x.2.1<x.1/\List.length x.2.2<=x.2.1/\jR s x.1 x.2.1 x.2.2=jb s->if decide (F<C)=true then(A<=F/\F<=C/\C<=C)/\if decide (G.2=A)=true then True/\E.1=[]/\(30:Int)=E.2.err/\F=E.2.pos/\True else(List.length x.2.2=List.length x.2.2/\(List.length x.2.2+List.length [G.1])*(8:Nat)<=(140737488355328:Nat))/\inR IntKind.i64 (F+G.2)/\∃(y:Nat×Nat×List Int),(y.2.1<=List.length s/\List.length s-y.2.1<y.1/\List.length y.2.2<=y.2.1/\jR s y.1 y.2.1 y.2.2=jb s)/\List.length s-y.2.1<List.length s-x.2.1/\F+G.2=(↑y.2.1:Int)/\x.2.2++[G.1]=y.2.2/\s=s/\List.length (x.2.2++[G.1])=List.length y.2.2/\B else True/\x.2.2=E.1/\A=E.2.err/\A=E.2.pos/\True:=by
 conv=>zeta
 have ln:=hs.str;simp only[Kh,Lt,KV,KI,KW,xT];refine⟨⟨(s.length+1,0,[]),⟨Kg _,by simp,by simp,rfl⟩,by simp,rfl,rfl⟩,?_⟩;rintro⟨f,i,acc⟩ ⟨h1,h2,h3,h4⟩;simp only at h1 h2 h3 h4⊢;obtain⟨g,rfl⟩:∃g,f=g+1:=⟨f-1,by omega⟩;rw[jR]at h4;apply aa<;>intro h
 ·replace h:=Xo h;have hk:i<s.length:=by omega
  rw[Kf hk]at h4;refine⟨by omega,aa (fun e=>?_) (fun e=>?_)⟩
  ·have e:iB (s.drop i)=0:=by have:=Xo e;omega
   rw[Kf e]at h4;rw[<-h4];exact⟨rfl,rfl,rfl⟩
  ·have e:¬iB (s.drop i)=0:=fun q=>e (Xd (by omega));rw[Kb e]at h4;have hu:=CF (s:=s) (n:=i) h1;refine⟨by simp only[L9];omega,aO (by omega) (by omega),(g,i+iB (s.drop i),acc++[(gO (s.drop i)).1]),⟨hu,by simp only;omega,by simp only[Kw,L9];omega,h4⟩,by simp only;omega,by simp only;omega,rfl,rfl⟩
 ·have hk:¬i<s.length:=fun e=>h (Xd (by omega));rw[Kb hk]at h4;rw[<-h4];exact⟨rfl,rfl,rfl⟩
theorem Hm(s:Str)(hs:Wf .str s)(ho:s.length<=2000000) :
  let A:=(0:Int);let B:=s=s/\True;let C:=(↑(List.length s):Int);let D:=(0:UInt8);let E:=(1:Int);(∃(x:Nat),(x<=List.length s/\List.all s df=List.all (List.drop x s) df)/\A=(↑x:Int)/\B)/\∀(x:Nat),let F:=(↑x:Int);let G:=A<=F/\F<C;let H:=(↑(UInt8.toNat (List.getD s (Int.toNat F) D)):Int);let I:=inR IntKind.i64 (F+E)/\∃(y:Nat),(y<=List.length s/\List.all s df=List.all (List.drop y s) df)/\List.length s-y<List.length s-x/\F+E=(↑y:Int)/\B;x<=List.length s/\List.all s df=List.all (List.drop x s) df->if decide (F<C)=true then G/\if decide (H<(32:Int))=true then G/\if(!decide (H=(9:Int)))=true then G/\if(!decide (H=(10:Int)))=true then True/\false=iT s/\True else I else I else I else List.length s<=(2000000:Nat)/\True/\decide ((jb s).2.err=A)=iT s/\True:=by
 conv=>zeta
 have ln:=hs.str;simp only[Kh,Lt,KV,KI];refine⟨⟨0,⟨Kg _,rfl⟩,rfl⟩,?_⟩;rintro k ⟨h1,h3⟩;apply aa<;>intro h
 ·replace h:=Xo h;have hk:k<s.length:=by omega
  rw[ai s k 0 hk,KR]at h3;have hq:=ue (s.getD k 0);have eb:(UInt8.toNat (s.getD k 0):Int)=bI (s.getD k 0):=rfl;clear eb;have nx:df (s.getD k 0)=true->inR IntKind.i64 ((k:Int)+1)/\∃y:Nat,(y<=s.length/\s.all df=(s.drop y).all df)/\s.length-y<s.length-k/\(k:Int)+1=(y:Int):=by intro q;rw[q,KC]at h3;exact⟨aw hk ln,k+1,⟨by omega,h3⟩,by omega,by omega⟩
  have nq:¬(bI (s.getD k 0)<32/\bI (s.getD k 0)≠10/\bI (s.getD k 0)≠9)->df (s.getD k 0)=true:=fun e=>by
   cases q:df (s.getD k 0)
   ·exact absurd (hq.1 q) e
   ·rfl
  refine⟨by omega,aa (fun a=>?_) (fun a=>?_)⟩
  ·replace a:=Xo a;refine⟨by omega,aa (fun c=>?_) (fun c=>?_)⟩
   ·have c:¬(UInt8.toNat (s.getD k 0):Int)=9:=by simpa using c
    refine⟨by omega,aa (fun d=>?_) (fun d=>?_)⟩
    ·have d:¬(UInt8.toNat (s.getD k 0):Int)=10:=by simpa using d
     rw[hq.2 ⟨a,d,c⟩,Ki]at h3;unfold iT;rw[h3];rfl
    ·have d:(UInt8.toNat (s.getD k 0):Int)=10:=by simpa using d
     exact nx (nq (fun e=>e.2.1 d))
   ·have c:(UInt8.toNat (s.getD k 0):Int)=9:=by simpa using c
    exact nx (nq (fun e=>e.2.2 c))
  ·exact nx (nq (fun e=>a (Xd e.1)))
 ·have e:k=s.length:=by have:¬((k:Int)<(s.length:Int)):=fun e=>h (Xd e);omega
  subst e;rw[Km]at h3;exact⟨ho,AH h3⟩
theorem Hn(t:Trm)(ht:Wf (.st .term) t)(ho:t.name.length<=2000000/\t.names.length<=2000000) :
  let A:=(0:Int);let B:=True;let C:=B/\false=az t/\B;let D:=(1:Int);let E:=B/\gK t A A A A=az t/\B;let F:=if decide (t.name=[])=true then E else C;let G:=(↑(List.length t.names):Int);let H:=(↑(List.length t.parts):Int);let I:=B/\gK t A A A D=az t/\B;let J:=if au t.name=true then I else C;let K:=inR IntKind.i64 (G+D);let L:=if bO t.name=true then I else C;let M:=if decide (t.kind=D)=true then if decide (t.name=[])=true then if decide (A<=t.n)=true then if decide (t.n<=(999999999999999:Int))=true then E else C else C else C else if decide (t.kind=(2:Int))=true then List.length t.name<=(2000000:Nat)/\if iT t.name=true then E else C else if decide (t.kind=(3:Int))=true then F else if decide (t.kind=(4:Int))=true then F else if decide (t.kind=(5:Int))=true then if au t.name=true then if decide (t.pkg=[])=true then E else if au t.pkg=true then E else C else C else if decide (t.kind=(6:Int))=true then if decide (t.name=[])=true then if decide (G<=(4096:Int))=true then B/\gK t G A G D=az t/\B else C else C else if decide (t.kind=(7:Int))=true then if decide (t.name=[])=true then if decide (D<=H)=true then B/\gK t A A A H=az t/\B else C else C else if decide (t.kind=(8:Int))=true then if decide (t.name=[])=true then B/\gK t G A A G=az t/\B else C else if decide (t.kind=(9:Int))=true then J else if decide (t.kind=(10:Int))=true then J else if decide (t.kind=(11:Int))=true then if decide (t.name=[])=true then B/\gK t A A D H=az t/\B else C else if decide (t.kind=(12:Int))=true then if decide (t.name=[])=true then B/\gK t A A D (3:Int)=az t/\B else C else if decide (t.kind=(13:Int))=true then if decide (t.name=[])=true then K/\K/\B/\gK t G G (G+D) (G+D)=az t/\B else C else if decide (t.kind=(14:Int))=true then if au t.name=true then B/\gK t A A A (2:Int)=az t/\B else C else if decide (t.kind=(15:Int))=true then if decide (t.name=[])=true then B/\gK t A A D D=az t/\B else C else if decide (t.kind=(16:Int))=true then L else if decide (t.kind=(17:Int))=true then L else C;let N:=if(!decide (t.kind=(5:Int)))=true then if(!decide (t.pkg=[]))=true then C else M else M;if decide (t.pos<A)=true then C else if(!eD t.names true)=true then C else if(!eD t.vars false)=true then C else if(!List.all t.shapes bg)=true then C else if(!decide (t.kind=D))=true then if(!decide (t.n=A))=true then C else N else N:=by
 conv=>zeta
 have dnQ:∀n:Nat,decide ((1:Int)<=(n:Int))=decide (0<n):=fun n=>L0.2 (by omega);have b1:k9 t=false->az t=false:=fun e=>by unfold az;rw[e,KJ]
 have b2:iC t=false->az t=false:=fun e=>by unfold az;rw[e,Ki]
 simp only[Lt,KV,KI];refine aa (fun h=>?_) (fun h1=>?_)
 ·symm;apply b2;unfold iC;have:=Xo h;rw[Xf (by omega)];rfl
 replace h1:¬t.pos<0:=fun e=>h1 (Xd e);refine aa (fun h=>?_) (fun h2=>?_)
 ·exact(AI (by simpa using h)).symm
 have h2:eD t.names true=true:=by simpa using h2
 refine aa (fun h=>?_) (fun h3=>?_)
 ·exact(DS (by simpa using h)).symm
 have h3:eD t.vars false=true:=by simpa using h3
 have h3:t.vars.all au=true:=by unfold eD at h3;rw[Ka]at h3;exact h3.1
 have h2:kS t.names=true:=by unfold eD at h2;unfold kS;simpa using h2
 refine aa (fun h=>?_) (fun h4=>?_)
 ·have h:t.shapes.all bg=false:=by simpa using h
  symm;apply b2;unfold iC;rw[h,KJ]
 have h4:t.shapes.all bg=true:=by simpa using h4
 have hd:iC t=((decide (t.n=0)||decide (t.kind=1))&&(decide (t.pkg=[])||decide (t.kind=5))):=by unfold iC;rw[Xd (by omega),h4,KC,MF]
 have hb:iC t=true->az t=k9 t:=fun e=>by unfold az;rw[e,KC]
 clear h1 h4;have eb:((decide (t.n=0)||decide (t.kind=1))&&(decide (t.pkg=[])||decide (t.kind=5)))=true->az t=k9 t:=fun e=>hb (hd.trans e);have e5:((decide (t.n=0)||decide (t.kind=1))&&(decide (t.pkg=[])||decide (t.kind=5)))=false->az t=false:=fun e=>b2 (hd.trans e);clear hd hb b1 b2;apply aa<;>intro k1
 ·have k1:¬t.kind=1:=by simpa using k1
  apply aa<;>intro k2
  ·have k2:¬t.n=0:=by simpa using k2
   symm;apply e5;rw[Xf k1,Xf k2];rfl
  have k2:t.n=0:=by simpa using k2
  apply aa<;>intro k3
  ·have k3:¬t.kind=5:=by simpa using k3
   apply aa<;>intro k4
   ·have k4:¬t.pkg=[]:=by simpa using k4
    symm;apply e5;rw[Xf k3,Xf k4,NQ,KJ]
   ·have k4:t.pkg=[]:=by simpa using k4
    rw[eb (by rw[Xd k2,Xd k4];rfl)];clear eb e5;unfold k9 gK cJ;rw[h2,h3];simp only[dnZ,dn1,dn2,dn3,dnN,dnS,dnL,dnP,dnQ];clear h2 h3
    repeat' (first|apply aa<;>intro _|refine⟨aO (by omega) (by have:=ho.2;omega),?_⟩|refine And.intro ho.1 ?_|fail)
    all_goals (first|(simp_all;done)|(simp_all;intros;omega))
  ·have k3:t.kind=5:=by simpa using k3
   rw[eb (by rw[Xd k2,Xd k3,NA];rfl)];clear eb e5;unfold k9 gK cJ;rw[h2,h3];simp only[dnZ,dn1,dn2,dn3,dnN,dnS,dnL,dnP,dnQ];clear h2 h3
   repeat' (first|apply aa<;>intro _|refine⟨aO (by omega) (by have:=ho.2;omega),?_⟩|refine And.intro ho.1 ?_|fail)
   all_goals (first|(simp_all;done)|(simp_all;intros;omega))
 ·have k1:t.kind=1:=by simpa using k1
  apply aa<;>intro k3
  ·have k3:¬t.kind=5:=by simpa using k3
   apply aa<;>intro k4
   ·have k4:¬t.pkg=[]:=by simpa using k4
    symm;apply e5;rw[Xf k3,Xf k4,NQ,KJ]
   ·have k4:t.pkg=[]:=by simpa using k4
    rw[eb (by rw[Xd k1,Xd k4,NA];rfl)];clear eb e5;unfold k9 gK cJ;rw[h2,h3];simp only[dnZ,dn1,dn2,dn3,dnN,dnS,dnL,dnP,dnQ];clear h2 h3
    repeat' (first|apply aa<;>intro _|refine⟨aO (by omega) (by have:=ho.2;omega),?_⟩|refine And.intro ho.1 ?_|fail)
    all_goals (first|(simp_all;done)|(simp_all;intros;omega))
  ·have k3:t.kind=5:=by simpa using k3
   rw[k1]at k3;exact absurd k3 (by decide)
theorem Ew(n:Nat)(t:Trm)(ht:Wf (.st .term) t)(hn:szT t<=n+1)(ho:dt t=true) :
  let A:=(2000000:Nat);let B:=True/\false=allT az t/\True;let C:=t=t/\false=false/\t=t/\True;let D:=(↑(List.length t.parts):Int);let E:=dfl (Ty.st SN.term);(List.length t.name<=A/\List.length t.names<=A)/\if(!az t)=true then B else(∃(x:Nat),(x<=List.length t.parts/\allT az t=allTL az (List.drop x t.parts))/\(0:Int)=(↑x:Int)/\C)/\∀(x:Nat),let F:=(↑x:Int);let G:=List.getD t.parts (Int.toNat F) E;x<=List.length t.parts/\allT az t=allTL az (List.drop x t.parts)->if decide (F<D)=true then((0:Int)<=F/\F<D)/\(szT G<=n/\dt G=true)/\if(!allT az G)=true then B else inR IntKind.i64 (F+(1:Int))/\∃(y:Nat),(y<=List.length t.parts/\allT az t=allTL az (List.drop y t.parts))/\List.length t.parts-y<List.length t.parts-x/\F+(1:Int)=(↑y:Int)/\C else True/\true=allT az t/\True:=by
 conv=>zeta
 have ln:=ht.term_parts.len;have hz:=gi t;simp only[Kh,Lt,KV,KI];refine⟨AK ho,?_⟩;apply aa<;>intro h
 ·have h:az t=false:=by simpa using h
  rw[allT_eq,h];rfl
 have h:az t=true:=by simpa using h
 refine⟨⟨0,⟨Kg _,by rw[allT_eq,h];rfl⟩,rfl⟩,?_⟩;rintro k ⟨h1,h3⟩;apply aa<;>intro h
 ·replace h:=Xo h;have hk:k<t.parts.length:=by omega
  have hm:=eV (aP t.parts k (dfl (.st .term)) hk);rw[ai t.parts k (dfl (.st .term)) hk]at h3;simp only[allTL]at h3;refine⟨by omega,⟨by omega,AJ ho (aP t.parts k (dfl (.st .term)) hk)⟩,?_⟩;cases e:allT az (t.parts.getD k (dfl (.st .term)))
  ·rw[e]at h3;rw[h3];simp
  ·simp only[e,KC]at h3;exact⟨aw hk ln,k+1,⟨by omega,h3⟩,by omega,by omega⟩
 ·replace h:¬((k:Int)<(t.parts.length:Int)):=fun e=>h (Xd e);have e:k=t.parts.length:=by omega
  subst e;rw[h3,Km];rfl
theorem Ho(n:Nat)(s:Trm)(m:Int)(hs:Wf (.st .term) s)(ho:szT s<=n+1/\0<=m/\m<=1000000) :
  let A:=(1:Int);let B:=(0:Int);let C:=s=s/\m=m/\B=B/\s=s/\True;let D:=(↑(List.length s.parts):Int);let E:=dfl (Ty.st SN.term);(∃(x:Nat×Int),(x.1<=List.length s.parts/\A<=x.2/\x.2<=m+A/\sizeTL (List.drop x.1 s.parts) x.2 m=dr s m)/\A=x.2/\B=(↑x.1:Int)/\C)/\∀(x:Nat×Int),let F:=(↑x.1:Int);let G:=m-x.2;let H:=List.getD s.parts (Int.toNat F) E;let I:=True/\x.2=dr s m/\True;x.1<=List.length s.parts/\A<=x.2/\x.2<=m+A/\sizeTL (List.drop x.1 s.parts) x.2 m=dr s m->if decide (F<D)=true then if decide (x.2<=m)=true then(B<=F/\F<D)/\inR IntKind.i64 G/\(szT H<=n/\B<=m-x.2/\m-x.2<=(1000000:Int))/\inR IntKind.i64 (x.2+dr H G)/\inR IntKind.i64 (F+A)/\∃(y:Nat×Int),(y.1<=List.length s.parts/\A<=y.2/\y.2<=m+A/\sizeTL (List.drop y.1 s.parts) y.2 m=dr s m)/\List.length s.parts-y.1<List.length s.parts-x.1/\x.2+dr H G=y.2/\F+A=(↑y.1:Int)/\C else I else I:=by
 conv=>zeta
 have ln:=hs.term_parts.len;have hz:=gi s;obtain⟨ho1,ho2,ho3⟩:=ho;have h0:sizeTL s.parts 1 m=dr s m:=by cases s;rw[dr]
 simp only[Kh,Lt,KV,KI];refine⟨⟨(0,1),⟨Kg _,by omega,by omega,h0⟩,rfl,rfl⟩,?_⟩;rintro⟨k,c⟩ ⟨h1,h2,h3,h4⟩;simp only at h1 h2 h3 h4⊢;apply aa<;>intro hk
 ·replace hk:=Xo hk;have hk:k<s.parts.length:=by omega
  have hm:=eV (aP s.parts k (dfl (.st .term)) hk);rw[ai s.parts k (dfl (.st .term)) hk]at h4;simp only[sizeTL]at h4;apply aa<;>intro hc
  ·replace hc:=Xo hc;rw[Kf hc]at h4;have hb:=sizeT_bd (s.parts.getD k (dfl (.st .term))) (m-c) (by omega);exact⟨by omega,aO (by omega) (by omega),by omega,aO (by omega) (by omega),aw hk ln,(k+1,_),⟨by omega,by simp only;omega,by simp only;omega,h4⟩,by simp only;omega,rfl,rfl⟩
  ·rw[Kb (fun e=>hc (Xd e))]at h4;exact h4
 ·replace hk:¬((k:Int)<(s.parts.length:Int)):=fun e=>hk (Xd e);have e:k=s.parts.length:=by omega
  subst e;rw[Km]at h4;simp only[sizeTL]at h4;exact h4
theorem Hp(n:Nat)(s:Trm)(hs:Wf (.st .term) s)(hn:szT s<=n+1)(hb:n<=1000000) :
  let A:=(0:Int);let B:=(↑(maxDT s.parts):Int);let C:=s=s/\A=A/\s=s/\True;let D:=(↑(List.length s.parts):Int);let E:=dfl (Ty.st SN.term);let F:=(1:Int);(∃(x:Nat×Int),(x.1<=List.length s.parts/\A<=x.2/\max x.2 (↑(maxDT (List.drop x.1 s.parts)):Int)=B)/\A=x.2/\A=(↑x.1:Int)/\C)/\∀(x:Nat×Int),let G:=(↑x.1:Int);let H:=List.getD s.parts (Int.toNat G) E;let I:=(↑(deepT H):Int);let J:=inR IntKind.i64 (G+F);x.1<=List.length s.parts/\A<=x.2/\max x.2 (↑(maxDT (List.drop x.1 s.parts)):Int)=B->if decide (G<D)=true then(A<=G/\G<D)/\szT H<=n/\if decide (x.2<I)=true then J/\∃(y:Nat×Int),(y.1<=List.length s.parts/\A<=y.2/\max y.2 (↑(maxDT (List.drop y.1 s.parts)):Int)=B)/\List.length s.parts-y.1<List.length s.parts-x.1/\I=y.2/\G+F=(↑y.1:Int)/\C else J/\∃(y:Nat×Int),(y.1<=List.length s.parts/\A<=y.2/\max y.2 (↑(maxDT (List.drop y.1 s.parts)):Int)=B)/\List.length s.parts-y.1<List.length s.parts-x.1/\x.2=y.2/\G+F=(↑y.1:Int)/\C else inR IntKind.i64 (x.2+F)/\True/\x.2+F=(↑(deepT s):Int)/\True:=by
 conv=>zeta
 have ln:=hs.term_parts.len;have hz:=gi s;have hd:deepT s=maxDT s.parts+1:=by cases s;rw[deepT]
 have hds:=maxDT_sz s.parts;simp only[Kh,Lt,KV,KI];refine⟨⟨(0,0),⟨Kg _,by simp,by simp only[LF];omega⟩,rfl,rfl⟩,?_⟩;rintro⟨k,c⟩ ⟨h1,h2,h3⟩;simp only at h1 h2 h3⊢;apply aa<;>intro h
 ·replace h:=Xo h;have hk:k<s.parts.length:=by omega
  have hm:=eV (aP s.parts k (dfl (.st .term)) hk);rw[ai s.parts k (dfl (.st .term)) hk]at h3;simp only[maxDT]at h3;refine⟨by omega,by omega,aa (fun a=>?_) (fun a=>?_)⟩
  ·replace a:=Xo a;exact⟨aw hk ln,(k+1,(deepT (s.parts.getD k (dfl (.st .term))):Int)),⟨by omega,by simp only;omega,by simp only;omega⟩,by simp only;omega,rfl,rfl⟩
  ·replace a:¬c<(deepT (s.parts.getD k (dfl (.st .term))):Int):=fun e=>a (Xd e);exact⟨aw hk ln,(k+1,c),⟨by omega,by simp only;omega,by simp only;omega⟩,by simp only;omega,rfl,rfl⟩
 ·replace h:¬((k:Int)<(s.parts.length:Int)):=fun e=>h (Xd e);have e:k=s.parts.length:=by omega
  subst e;rw[Km]at h3;simp only[maxDT]at h3;exact⟨aO (by omega) (by omega),by omega⟩
theorem Ex(s:Trm)(hs:Wf (.st .term) s)(ho:dt s=true) :
  let A:=(4096:Int);let B:=True;let C:=szT s<=(4096:Nat);(szT s<=szT s/\(0:Int)<=A/\A<=(1000000:Int))/\if decide (A<dr s A)=true then B/\(3:Int)=db s/\B else C/\if decide ((40:Int)<(↑(deepT s):Int))=true then B/\(91:Int)=db s/\B else(C/\dt s=true)/\if(!allT az s)=true then B/\(80:Int)=db s/\B else B/\(0:Int)=db s/\B:=by
 conv=>zeta
 simp only[Lt,KV,KI];rw[AG];refine⟨⟨Kn _,by omega,by omega⟩,aa (fun h=>?_) (fun h=>?_)⟩
 ·rw[Kf (Xo h)]
 ·have h':¬(4096:Int)<dr s 4096:=fun e=>h (Xd e);have hs4:szT s<=4096:=by rw[sizeT_eq s 4096 (by omega)]at h';omega
  rw[Kb h'];refine⟨hs4,aa (fun g=>?_) (fun g=>⟨⟨hs4,ho⟩,?_⟩)⟩
  ·rw[Kf (Xo g)]
  ·rw[Kb (fun e=>g (Xd e))];cases allT az s<;>simp
theorem yC(a b:List Str)(ha:Wf (.lst .str) a)(hb:Wf (.lst .str) b) :
  let A:=(↑(List.length a):Int);let B:=(↑(List.length b):Int);let C:=True/\false=decide (a=b)/\True;let D:=List.length a=List.length b;let E:=(0:Int);let F:=a=a/\b=b/\false=false/\True;if(!decide (A=B))=true then C else(∃(x:Nat),(x<=List.length a/\D/\(a=b↔List.drop x a=List.drop x b))/\E=(↑x:Int)/\F)/\∀(x:Nat),let G:=(↑x:Int);x<=List.length a/\D/\(a=b↔List.drop x a=List.drop x b)->if decide (G<A)=true then(E<=G/\G<A)/\(E<=G/\G<B)/\if(!decide (List.getD a (Int.toNat G) (dfl Ty.str)=List.getD b (Int.toNat G) (dfl Ty.str)))=true then C else inR IntKind.i64 (G+(1:Int))/\∃(y:Nat),(y<=List.length a/\D/\(a=b↔List.drop y a=List.drop y b))/\List.length a-y<List.length a-x/\G+(1:Int)=(↑y:Int)/\F else True/\true=decide (a=b)/\True:=by
 conv=>zeta
 have la:=ha.len;simp only[Kh,Lt,KV,KI];apply aa<;>intro h
 ·have h:¬(a.length:Int)=b.length:=by simpa using h
  symm;rw[KD];intro e;rw[e]at h;exact h rfl
 have hl:a.length=b.length:=by simp at h;omega
 refine⟨⟨0,⟨by omega,hl,by simp⟩,by simp⟩,?_⟩;rintro k ⟨h1,_,h3⟩;apply aa<;>intro h
 ·replace h:=Xo h;have hk:k<a.length:=by omega
  have hk':k<b.length:=by omega
  rw[ai a k (dfl .str) hk,ai b k (dfl .str) hk',L7]at h3;refine⟨by omega,by omega,aa (fun c=>?_) (fun c=>?_)⟩
  ·have c:¬a.getD k (dfl .str)=b.getD k (dfl .str):=by simpa using c
   symm;rw[KD];exact fun e=>c (h3.1 e).1
  ·have c:a.getD k (dfl .str)=b.getD k (dfl .str):=by simpa using c
   exact⟨aw hk la,k+1,⟨by omega,hl,h3.trans ⟨fun e=>e.2,fun e=>⟨c,e⟩⟩⟩,by omega,by omega⟩
 ·replace h:¬((k:Int)<(a.length:Int)):=fun e=>h (Xd e);have e:k=a.length:=by omega
  subst e;symm;rw[decide_eq_true_iff];rw[Km,hl,Km]at h3;exact h3.2 rfl
theorem Ey(n:Nat)(a b:Trm)(p:Bool)(ha:Wf (.st .term) a)(hb:Wf (.st .term) b)(hn:szT a<=n+1) :
  let A:=True/\false=eqT a b p/\True;let B:=(↑(List.length a.shapes):Int);let C:=(↑(List.length b.shapes):Int);let D:=(↑(List.length a.parts):Int);let E:=(↑(List.length b.parts):Int);let F:=List.length a.shapes=List.length b.shapes;let G:=List.length a.parts=List.length b.parts;let H:=(0:Int);let I:=false=false;let J:=I/\I/\a=a/\b=b/\True;let K:=a=a/\b=b/\p=p/\J;let L:=dfl (Ty.st SN.shape);let M:=(1:Int);let N:=a=a/\b=b/\p=p/\I/\J;let O:=dfl (Ty.st SN.term);let P:=if(!decide (a.names=b.names))=true then A else if(!decide (a.vars=b.vars))=true then A else if(!decide (B=C))=true then A else if(!decide (D=E))=true then A else(∃(x:Nat),(x<=List.length a.shapes/\F/\G/\eqT a b p=(eqL (List.drop x a.shapes) (List.drop x b.shapes)&&eqTL a.parts b.parts p))/\H=(↑x:Int)/\K)/\∀(x:Nat),let Q:=(↑x:Int);let R:=List.getD a.shapes (Int.toNat Q) L;x<=List.length a.shapes/\F/\G/\eqT a b p=(eqL (List.drop x a.shapes) (List.drop x b.shapes)&&eqTL a.parts b.parts p)->if decide (Q<B)=true then(H<=Q/\Q<B)/\(H<=Q/\Q<C)/\sz R<=szL a.shapes/\if(!eqS R (List.getD b.shapes (Int.toNat Q) L))=true then A else inR IntKind.i64 (Q+M)/\∃(y:Nat),(y<=List.length a.shapes/\F/\G/\eqT a b p=(eqL (List.drop y a.shapes) (List.drop y b.shapes)&&eqTL a.parts b.parts p))/\List.length a.shapes-y<List.length a.shapes-x/\Q+M=(↑y:Int)/\K else(∃(x_1:Nat),(x_1<=List.length a.parts/\G/\eqT a b p=eqTL (List.drop x_1 a.parts) (List.drop x_1 b.parts) p)/\H=(↑x_1:Int)/\Q=Q/\N)/\∀(x_1:Nat),let S:=(↑x_1:Int);let T:=List.getD a.parts (Int.toNat S) O;x_1<=List.length a.parts/\G/\eqT a b p=eqTL (List.drop x_1 a.parts) (List.drop x_1 b.parts) p->if decide (S<D)=true then(H<=S/\S<D)/\(H<=S/\S<E)/\szT T<=n/\if(!eqT T (List.getD b.parts (Int.toNat S) O) p)=true then A else inR IntKind.i64 (S+M)/\∃(y:Nat),(y<=List.length a.parts/\G/\eqT a b p=eqTL (List.drop y a.parts) (List.drop y b.parts) p)/\List.length a.parts-y<List.length a.parts-x_1/\S+M=(↑y:Int)/\Q=Q/\N else True/\true=eqT a b p/\True;if(!decide (a.kind=b.kind))=true then A else if(!decide (a.pkg=b.pkg))=true then A else if(!decide (a.name=b.name))=true then A else if(!decide (a.n=b.n))=true then A else if p=true then if(!decide (a.pos=b.pos))=true then A else P else P:=by
 conv=>zeta
 have lnS:=ha.term_shapes.len;have lnP:=ha.term_parts.len;have hz:=gi a;simp only[Kh,Lt,KV,KI];refine aa (fun h=>?_) (fun h1=>?_)
 ·have h:¬a.kind=b.kind:=by simpa using h
  rw[fb,Xf h];simp
 have h1:a.kind=b.kind:=by simpa using h1
 refine aa (fun h=>?_) (fun h2=>?_)
 ·have h:¬a.pkg=b.pkg:=by simpa using h
  rw[fb,Xf h];simp
 have h2:a.pkg=b.pkg:=by simpa using h2
 refine aa (fun h=>?_) (fun h3=>?_)
 ·have h:¬a.name=b.name:=by simpa using h
  rw[fb,Xf h];simp
 have h3:a.name=b.name:=by simpa using h3
 refine aa (fun h=>?_) (fun h4=>?_)
 ·have h:¬a.n=b.n:=by simpa using h
  rw[fb,Xf h];simp
 have h4:a.n=b.n:=by simpa using h4
 apply aa<;>intro hp
 ·refine aa (fun h=>?_) (fun h5=>?_)
  ·have h:¬a.pos=b.pos:=by simpa using h
   rw[fb,Xf h,hp];simp
  have h5:a.pos=b.pos:=by simpa using h5
  have h5:(!p||decide (a.pos=b.pos))=true:=by rw[Xd h5,NA]
  refine aa (fun h=>?_) (fun h6=>?_)
  ·have h:¬a.names=b.names:=by simpa using h
   rw[fb,Xf h];simp
  have h6:a.names=b.names:=by simpa using h6
  refine aa (fun h=>?_) (fun h7=>?_)
  ·have h:¬a.vars=b.vars:=by simpa using h
   rw[fb,Xf h];simp
  have h7:a.vars=b.vars:=by simpa using h7
  refine aa (fun h=>?_) (fun h8=>?_)
  ·have h:¬(a.shapes.length:Int)=b.shapes.length:=by simpa using h
   rw[fb,pZ (by omega)];simp
  have h8:(a.shapes.length:Int)=b.shapes.length:=by simpa using h8
  refine aa (fun h=>?_) (fun h9=>?_)
  ·have h:¬(a.parts.length:Int)=b.parts.length:=by simpa using h
   rw[fb,rZ (by omega)];simp
  have h9:(a.parts.length:Int)=b.parts.length:=by simpa using h9
  have hS:a.shapes.length=b.shapes.length:=by omega
  have hP:a.parts.length=b.parts.length:=by omega
  have e0:eqT a b p=(eqL a.shapes b.shapes&&eqTL a.parts b.parts p):=by rw[fb,Xd h1,Xd h2,Xd h3,Xd h4,h5,Xd h6,Xd h7];simp
  refine⟨⟨0,⟨Kg _,hS,hP,e0⟩,rfl⟩,?_⟩;rintro k ⟨q1,_,_,q4⟩;apply aa<;>intro h
  ·replace h:=Xo h;have hk:k<a.shapes.length:=by omega
   have hk':k<b.shapes.length:=by omega
   have hm:=eZ (aP a.shapes k (dfl (.st .shape)) hk);rw[ai a.shapes k (dfl (.st .shape)) hk,ai b.shapes k (dfl (.st .shape)) hk',eqL]at q4;refine⟨by omega,by omega,hm,aa (fun e=>?_) (fun e=>?_)⟩
   ·have e:eqS (a.shapes.getD k (dfl (.st .shape))) (b.shapes.getD k (dfl (.st .shape)))=false:=by simpa using e
    rw[q4,e];rfl
   ·have e:eqS (a.shapes.getD k (dfl (.st .shape))) (b.shapes.getD k (dfl (.st .shape)))=true:=by simpa using e
    rw[e,KC]at q4;exact⟨aw hk lnS,k+1,⟨by omega,hS,hP,q4⟩,by omega,by omega⟩
  have ek:k=a.shapes.length:=by have:¬((k:Int)<(a.shapes.length:Int)):=fun e=>h (Xd e);omega
  have e1:eqT a b p=eqTL a.parts b.parts p:=by rw[q4,ek,Km,hS,Km];rfl
  refine⟨⟨0,⟨Kg _,hP,e1⟩,rfl⟩,?_⟩;rintro j ⟨r1,_,r4⟩;apply aa<;>intro h
  ·replace h:=Xo h;have hk:j<a.parts.length:=by omega
   have hk':j<b.parts.length:=by omega
   have hm:=eV (aP a.parts j (dfl (.st .term)) hk);rw[ai a.parts j (dfl (.st .term)) hk,ai b.parts j (dfl (.st .term)) hk',eqTL]at r4;refine⟨by omega,by omega,by omega,aa (fun e=>?_) (fun e=>?_)⟩
   ·have e:eqT (a.parts.getD j (dfl (.st .term))) (b.parts.getD j (dfl (.st .term))) p=false:=by simpa using e
    rw[r4,e];rfl
   ·have e:eqT (a.parts.getD j (dfl (.st .term))) (b.parts.getD j (dfl (.st .term))) p=true:=by simpa using e
    rw[e,KC]at r4;exact⟨aw hk lnP,j+1,⟨by omega,hP,r4⟩,by omega,by omega⟩
  ·have ej:j=a.parts.length:=by have:¬((j:Int)<(a.parts.length:Int)):=fun e=>h (Xd e);omega
   rw[r4,ej,Km,hP,Km];rfl
 ·have hp:p=false:=by simpa using hp
  have h5:(!p||decide (a.pos=b.pos))=true:=by rw[hp];rfl
  refine aa (fun h=>?_) (fun h6=>?_)
  ·have h:¬a.names=b.names:=by simpa using h
   rw[fb,Xf h];simp
  have h6:a.names=b.names:=by simpa using h6
  refine aa (fun h=>?_) (fun h7=>?_)
  ·have h:¬a.vars=b.vars:=by simpa using h
   rw[fb,Xf h];simp
  have h7:a.vars=b.vars:=by simpa using h7
  refine aa (fun h=>?_) (fun h8=>?_)
  ·have h:¬(a.shapes.length:Int)=b.shapes.length:=by simpa using h
   rw[fb,pZ (by omega)];simp
  have h8:(a.shapes.length:Int)=b.shapes.length:=by simpa using h8
  refine aa (fun h=>?_) (fun h9=>?_)
  ·have h:¬(a.parts.length:Int)=b.parts.length:=by simpa using h
   rw[fb,rZ (by omega)];simp
  have h9:(a.parts.length:Int)=b.parts.length:=by simpa using h9
  have hS:a.shapes.length=b.shapes.length:=by omega
  have hP:a.parts.length=b.parts.length:=by omega
  have e0:eqT a b p=(eqL a.shapes b.shapes&&eqTL a.parts b.parts p):=by rw[fb,Xd h1,Xd h2,Xd h3,Xd h4,h5,Xd h6,Xd h7];simp
  refine⟨⟨0,⟨Kg _,hS,hP,e0⟩,rfl⟩,?_⟩;rintro k ⟨q1,_,_,q4⟩;apply aa<;>intro h
  ·replace h:=Xo h;have hk:k<a.shapes.length:=by omega
   have hk':k<b.shapes.length:=by omega
   have hm:=eZ (aP a.shapes k (dfl (.st .shape)) hk);rw[ai a.shapes k (dfl (.st .shape)) hk,ai b.shapes k (dfl (.st .shape)) hk',eqL]at q4;refine⟨by omega,by omega,hm,aa (fun e=>?_) (fun e=>?_)⟩
   ·have e:eqS (a.shapes.getD k (dfl (.st .shape))) (b.shapes.getD k (dfl (.st .shape)))=false:=by simpa using e
    rw[q4,e];rfl
   ·have e:eqS (a.shapes.getD k (dfl (.st .shape))) (b.shapes.getD k (dfl (.st .shape)))=true:=by simpa using e
    rw[e,KC]at q4;exact⟨aw hk lnS,k+1,⟨by omega,hS,hP,q4⟩,by omega,by omega⟩
  have ek:k=a.shapes.length:=by have:¬((k:Int)<(a.shapes.length:Int)):=fun e=>h (Xd e);omega
  have e1:eqT a b p=eqTL a.parts b.parts p:=by rw[q4,ek,Km,hS,Km];rfl
  refine⟨⟨0,⟨Kg _,hP,e1⟩,rfl⟩,?_⟩;rintro j ⟨r1,_,r4⟩;apply aa<;>intro h
  ·replace h:=Xo h;have hk:j<a.parts.length:=by omega
   have hk':j<b.parts.length:=by omega
   have hm:=eV (aP a.parts j (dfl (.st .term)) hk);rw[ai a.parts j (dfl (.st .term)) hk,ai b.parts j (dfl (.st .term)) hk',eqTL]at r4;refine⟨by omega,by omega,by omega,aa (fun e=>?_) (fun e=>?_)⟩
   ·have e:eqT (a.parts.getD j (dfl (.st .term))) (b.parts.getD j (dfl (.st .term))) p=false:=by simpa using e
    rw[r4,e];rfl
   ·have e:eqT (a.parts.getD j (dfl (.st .term))) (b.parts.getD j (dfl (.st .term))) p=true:=by simpa using e
    rw[e,KC]at r4;exact⟨aw hk lnP,j+1,⟨by omega,hP,r4⟩,by omega,by omega⟩
  ·have ej:j=a.parts.length:=by have:¬((j:Int)<(a.parts.length:Int)):=fun e=>h (Xd e);omega
   rw[r4,ej,Km,hP,Km];rfl
theorem Bi(s:Str)  :
  if(!decide (s=[]))=true then([48,49,50,51,52,53,54,55,56,57]:Str)=pG/\True/\decide (lV s=[])=aM s/\True else True/\false=aM s/\True:=by
 have e:∀l:Str,(l.all lU)=l.all fun c=>bS (bI c):=fun _=>rfl;apply aa<;>intro h
 ·refine⟨rfl,trivial,?_,trivial⟩;unfold aM;rw[h,KC,<-e];exact Bool.eq_iff_iff.2 (decide_eq_true_iff.trans (DD s))
 ·refine⟨trivial,?_,trivial⟩;unfold aM;rw[LI]at h;rw[h,Ki]
theorem Hq(s:Str)(hs:Wf .str s) :
  let A:=True/\false=ca s/\True;let B:=(0:Int);let C:=(↑(List.length s):Int);let D:=(0:UInt8);let E:=(List.all s fun(c:UInt8)=>eL (bI c));let F:=s=s/\false=false/\C=C/\True;let G:=(1:Int);let H:=(65:Int);let I:=(90:Int);let J:=(45:Int);let K:=(∃(x:Nat),(x<=List.length s/\E=List.all (List.drop x s) fun(c:UInt8)=>eL (bI c))/\B=(↑x:Int)/\F)/\∀(x:Nat),let L:=(↑x:Int);let M:=(↑(UInt8.toNat (List.getD s (Int.toNat L) D)):Int);let N:=inR IntKind.i64 (L+G)/\∃(y:Nat),(y<=List.length s/\E=List.all (List.drop y s) fun(c:UInt8)=>eL (bI c))/\List.length s-y<List.length s-x/\L+G=(↑y:Int)/\F;let O:=if(!decide (M=J))=true then A else N;let P:=if decide (H<=M)=true then if decide (M<=I)=true then N else O else O;let Q:=if decide ((97:Int)<=M)=true then if decide (M<=(122:Int))=true then N else P else P;(x<=List.length s/\E=List.all (List.drop x s) fun(c:UInt8)=>eL (bI c))->if decide (L<C)=true then(B<=L/\L<C)/\if decide ((48:Int)<=M)=true then if decide (M<=(57:Int))=true then N else Q else Q else True/\true=ca s/\True;if decide (s=[])=true then A else if aM s=true then(B<=B/\B<C)/\if decide ((↑(UInt8.toNat (List.getD s (Int.toNat B) D)):Int)=(48:Int))=true then if(!decide (s=([48]:Str)))=true then A else K else K else K:=by
 conv=>zeta
 apply aa<;>intro h
 ·replace h:=Xo h;subst h;exact Xr
 have hne:s≠[]:=fun e=>h (Xd e);have hpos:=Ls.2 hne;apply aa<;>intro h1
 ·refine⟨⟨by omega,by omega⟩,aa (fun h2=>?_) (fun h2=>?_)⟩
  ·apply aa<;>intro h3
   ·refine⟨trivial,?_,trivial⟩;have e:decide (bI (s.getD 0 0)=48)=true:=h2;unfold ca;rw[h1,e,h3];simp
   ·have hz:(aM s&&decide (bI (s.getD 0 0)=48)&&!decide (s=[48]))=false:=by rw[LI]at h3;rw[h3,KJ]
    refine⟨⟨0,⟨Kg _,rfl⟩,rfl,rfl,rfl,rfl,trivial⟩,?_⟩;rintro k ⟨h1,h2⟩;simp only[Kh];apply aa<;>intro h
    ·have hk:k<s.length:=by have:=Xo h;omega
     rw[ai s k 0 hk,KR]at h2;have eb:((s.getD k 0).toNat:Int)=bI (s.getD k 0):=rfl;refine⟨⟨by omega,by omega⟩,?_⟩;simp only[eb];have hp:=kR (bI (s.getD k 0));have yes:eL (bI (s.getD k 0))=true->(s.all fun c=>eL (bI c))=(s.drop (k+1)).all fun c=>eL (bI c):=fun e=>by rw[h2,e,KC]
     have no:¬eL (bI (s.getD k 0))=true->false=ca s:=fun e=>by rw[jn hne hz,h2,Lb.2 e,Ki]
     generalize bI (s.getD k 0)=c at hp yes no⊢
     repeat' (apply aa<;>intro _)
     all_goals (simp only[Kc,Ko,KD]at *)
     all_goals first
      |exact⟨trivial,no (fun e=>by have:=hp.1 e;omega),trivial⟩
      |exact⟨aw hk hs.str,k+1,⟨by omega,yes (hp.2 (by omega))⟩,by omega,by omega,(by first|rfl|trivial),(by first|rfl|trivial),(by first|rfl|trivial),trivial⟩
    ·have hk:k=s.length:=by have:¬((k:Int)<(s.length:Int)):=fun e=>h (Xd e);omega
     refine⟨trivial,?_,trivial⟩;rw[jn hne hz,h2,hk,Km];rfl
  ·have hz:(aM s&&decide (bI (s.getD 0 0)=48)&&!decide (s=[48]))=false:=by
    have e:decide (bI (s.getD 0 0)=48)=false:=by rw[LI]at h2;exact h2
    rw[e,KJ,Ki]
   refine⟨⟨0,⟨Kg _,rfl⟩,rfl,rfl,rfl,rfl,trivial⟩,?_⟩;rintro k ⟨h1,h2⟩;simp only[Kh];apply aa<;>intro h
   ·have hk:k<s.length:=by have:=Xo h;omega
    rw[ai s k 0 hk,KR]at h2;have eb:((s.getD k 0).toNat:Int)=bI (s.getD k 0):=rfl;refine⟨⟨by omega,by omega⟩,?_⟩;simp only[eb];have hp:=kR (bI (s.getD k 0));have yes:eL (bI (s.getD k 0))=true->(s.all fun c=>eL (bI c))=(s.drop (k+1)).all fun c=>eL (bI c):=fun e=>by rw[h2,e,KC]
    have no:¬eL (bI (s.getD k 0))=true->false=ca s:=fun e=>by rw[jn hne hz,h2,Lb.2 e,Ki]
    generalize bI (s.getD k 0)=c at hp yes no⊢
    repeat' (apply aa<;>intro _)
    all_goals (simp only[Kc,Ko,KD]at *)
    all_goals first
     |exact⟨trivial,no (fun e=>by have:=hp.1 e;omega),trivial⟩
     |exact⟨aw hk hs.str,k+1,⟨by omega,yes (hp.2 (by omega))⟩,by omega,by omega,(by first|rfl|trivial),(by first|rfl|trivial),(by first|rfl|trivial),trivial⟩
   ·have hk:k=s.length:=by have:¬((k:Int)<(s.length:Int)):=fun e=>h (Xd e);omega
    refine⟨trivial,?_,trivial⟩;rw[jn hne hz,h2,hk,Km];rfl
 ·have hz:(aM s&&decide (bI (s.getD 0 0)=48)&&!decide (s=[48]))=false:=by rw[LI]at h1;rw[h1,Ki,Ki]
  refine⟨⟨0,⟨Kg _,rfl⟩,rfl,rfl,rfl,rfl,trivial⟩,?_⟩;rintro k ⟨h1,h2⟩;simp only[Kh];apply aa<;>intro h
  ·have hk:k<s.length:=by have:=Xo h;omega
   rw[ai s k 0 hk,KR]at h2;have eb:((s.getD k 0).toNat:Int)=bI (s.getD k 0):=rfl;refine⟨⟨by omega,by omega⟩,?_⟩;simp only[eb];have hp:=kR (bI (s.getD k 0));have yes:eL (bI (s.getD k 0))=true->(s.all fun c=>eL (bI c))=(s.drop (k+1)).all fun c=>eL (bI c):=fun e=>by rw[h2,e,KC]
   have no:¬eL (bI (s.getD k 0))=true->false=ca s:=fun e=>by rw[jn hne hz,h2,Lb.2 e,Ki]
   generalize bI (s.getD k 0)=c at hp yes no⊢
   repeat' (apply aa<;>intro _)
   all_goals (simp only[Kc,Ko,KD]at *)
   all_goals first
    |exact⟨trivial,no (fun e=>by have:=hp.1 e;omega),trivial⟩
    |exact⟨aw hk hs.str,k+1,⟨by omega,yes (hp.2 (by omega))⟩,by omega,by omega,(by first|rfl|trivial),(by first|rfl|trivial),(by first|rfl|trivial),trivial⟩
  ·have hk:k=s.length:=by have:¬((k:Int)<(s.length:Int)):=fun e=>h (Xd e);omega
   refine⟨trivial,?_,trivial⟩;rw[jn hne hz,h2,hk,Km];rfl
theorem Ez(v:Vers)(hv:Wf (.st .version) v) :
  let A:=(3:Nat);let B:=[v.major,v.minor,v.patch];let C:=(0:Int);let D:=(↑(List.length B):Int);let E:=v=v/\List.length B=List.length B/\True;let F:=v=v/\B=B/\D=D/\E;let G:=dfl (Ty.int IntKind.i64);let H:=True/\(40:Int)=bq v/\True;let I:=(1:Int);let J:=(46:UInt8);let K:=splitB J v.pre;let L:=(↑(List.length K):Int);let M:=v=v/\B=B/\D=D/\false=false/\false=false/\true=true/\splitB J v.pre=splitB J v.pre/\L=L/\E;let N:=True/\C=bq v/\True;(∃(x:Nat),(x<=A/\List.all (List.take x B) pH=true)/\C=(↑x:Int)/\F)/\∀(x:Nat),let O:=(↑x:Int);x<=A/\List.all (List.take x B) pH=true->if decide (O<D)=true then(C<=O/\O<D)/\if decide (List.getD B (Int.toNat O) G<C)=true then H else if decide ((999999:Int)<List.getD B (Int.toNat O) G)=true then H else inR IntKind.i64 (O+I)/\∃(y:Nat),(y<=A/\List.all (List.take y B) pH=true)/\A-y<A-x/\O+I=(↑y:Int)/\F else if decide ((24:Int)<(↑(List.length v.pre):Int))=true then H else if(!decide (v.pre=[]))=true then(([46]:Str)=([46]:Str)/\List.length v.pre<(4294967281:Nat))/\(∃(x_1:Nat),(x_1<=List.length K/\List.all (List.take x_1 K) ca=true)/\C=(↑x_1:Int)/\O=O/\M)/\∀(x_1:Nat),let P:=(↑x_1:Int);x_1<=List.length K/\List.all (List.take x_1 K) ca=true->if decide (P<L)=true then(C<=P/\P<L)/\if(!ca (List.getD K (Int.toNat P) (dfl Ty.str)))=true then H else inR IntKind.i64 (P+I)/\∃(y:Nat),(y<=List.length K/\List.all (List.take y K) ca=true)/\List.length K-y<List.length K-x_1/\P+I=(↑y:Int)/\O=O/\M else N else N:=by
 conv=>zeta
 have bad:∀k:Nat,k<3->pH ([v.major,v.minor,v.patch].getD k (dfl (.int .i64)))=false->True/\(40:Int)=bq v/\True:=fun k hk e=>
  ⟨trivial,(Ar (xA (l:=[v.major,v.minor,v.patch]) (dfl (.int .i64)) hk e)).symm,trivial⟩
 refine⟨⟨0,⟨by omega,rfl⟩,?_⟩,?_⟩
 ·exact Xr
 rintro k ⟨h1,h2⟩;have l3:[v.major,v.minor,v.patch].length=3:=rfl;simp only[Kh,l3];apply aa<;>intro h
 ·have hk:k<3:=by have:=Xo h;omega
  have bk:=bad k hk;have gk:=lY (l:=[v.major,v.minor,v.patch]) (dfl (.int .i64)) hk h2;refine⟨⟨by omega,by omega⟩,?_⟩;refine aa (fun a=>bk ?_) (fun a=>aa (fun b=>bk ?_) (fun b=>?_))
  ·have:=Xo a;have e:¬0<=[v.major,v.minor,v.patch].getD k (dfl (.int .i64)):=by omega
   unfold pH;rw[Xf e,Ki]
  ·have:=Xo b;have e:¬[v.major,v.minor,v.patch].getD k (dfl (.int .i64))<=999999:=by omega
   unfold pH;rw[Xf e,KJ]
  ·have a:¬[v.major,v.minor,v.patch].getD k (dfl (.int .i64))<0:=fun e=>a (Xd e);have b:¬999999<[v.major,v.minor,v.patch].getD k (dfl (.int .i64)):=fun e=>b (Xd e);have a':0<=[v.major,v.minor,v.patch].getD k (dfl (.int .i64)):=by omega
   have b':[v.major,v.minor,v.patch].getD k (dfl (.int .i64))<=999999:=by omega
   refine⟨aO (by omega) (by omega),k+1,⟨by omega,gk ?_⟩,by omega,by omega,?_⟩
   ·unfold pH;rw[Xd a',Xd b'];rfl
   ·exact Xr
 ·have hk:k=3:=by have:¬((k:Int)<((3:Nat):Int)):=fun e=>h (Xd e);omega
  subst hk;have hg:=xB h2;apply aa<;>intro a
  ·have:=Xo a;rw[Kf (by omega)]at hg;rw[hg];exact Xr
  have a:¬(24:Int)<(v.pre.length:Int):=fun e=>a (Xd e);have hl:=cN 46 v.pre;rw[Kb (by omega)]at hg;apply aa<;>intro b
  ·have b:¬v.pre=[]:=by simpa using b
   rw[Kb b]at hg;refine⟨⟨(by first|rfl|trivial),by omega⟩,⟨0,⟨by omega,rfl⟩,?_⟩,?_⟩
   ·exact Xr
   rintro j ⟨j1,j2⟩;apply aa<;>intro c
   ·have hj:j<(splitB 46 v.pre).length:=by have:=Xo c;omega
    refine⟨⟨by omega,by omega⟩,aa (fun d=>?_) (fun d=>?_)⟩
    ·have d:ca ((splitB 46 v.pre).getD j (dfl .str))=false:=by simpa using d
     rw[xA (dfl .str) hj d,Kb Lz]at hg;rw[hg];exact Xr
    ·have d:ca ((splitB 46 v.pre).getD j (dfl .str))=true:=by simpa using d
     refine⟨aO (by omega) (by omega),j+1,⟨by omega,lY (dfl .str) hj j2 d⟩,by omega,by omega,?_⟩;exact Xr
   ·have hj:(splitB 46 v.pre).length<=j:=by have:¬((j:Int)<((splitB 46 v.pre).length:Int)):=fun e=>c (Xd e);omega
    rw[G9 hj]at j2;rw[Kf j2]at hg;rw[hg];exact Xr
  ·have b:v.pre=[]:=by simpa using b
   rw[Kf b]at hg;rw[hg];exact Xr
theorem EA(s:Str)(c:Int)(hs:Wf .str s)(ho:c=48) :
  let A:=c=c/\noOf UInt8=noOf UInt8/\True;let B:=(0:Int);let C:=(1:Int);(∃(x:Nat),(x<=List.length s/\cb s=cb (List.drop x s))/\s=List.drop x s/\A)/\∀(x:Nat),let D:=List.drop x s;let E:=(↑(List.length D):Int);let F:=True/\List.drop x s=cb s/\True;x<=List.length s/\cb s=cb D->if decide (B<E)=true then(B<=B/\B<E)/\if decide ((↑(UInt8.toNat (List.getD D (Int.toNat B) (0:UInt8))):Int)=c)=true then(B<=C/\C<=E/\E<=E)/\∃(y:Nat),(y<=List.length s/\cb s=cb (List.drop y s))/\List.length s-y<List.length s-x/\List.drop (Int.toNat C) (List.take (Int.toNat E) D)=List.drop y s/\A else F else F:=by
 conv=>zeta
 subst ho;simp only[Kh];refine⟨⟨0,⟨Kg _,rfl⟩,(by repeat' (first|exact trivial|rfl|apply And.intro))⟩,?_⟩;rintro k ⟨h1,h2⟩;apply aa<;>intro h
 ·have h:=Xo h;rw[LY]at h;have hk:k<s.length:=by omega
  have hd:=ai s k 0 hk;simp only[hd]at h2⊢;refine⟨⟨by omega,by simp only[Kq];omega⟩,aa (fun c=>?_) (fun c=>?_)⟩
  ·have c:((s.getD k 0).toNat:Int)=48:=Xo c;have c:s.getD k 0=48:=Ns.1 (by show _=48;omega);rw[AD c]at h2;refine⟨⟨by omega,by simp only[Kq];omega,Int.le_refl _⟩,k+1,⟨by omega,h2⟩,by omega,?_,(by repeat' (first|exact trivial|rfl|apply And.intro))⟩;rw[KW];rfl
  ·have c:¬((s.getD k 0).toNat:Int)=48:=fun e=>c (Xd e);have c:¬s.getD k 0=48:=fun e=>c (by rw[e];rfl);rw[AE c]at h2;exact⟨trivial,h2.symm,trivial⟩
 ·have e:s.drop k=[]:=by have:¬(0:Int)<((s.drop k).length:Int):=fun e=>h (Xd e);exact Kk (by omega)
  rw[e]at h2⊢;exact⟨trivial,h2.symm,trivial⟩
theorem yD(s t:Str)(ho:t=[48]) :
  let A:=True/\s=cb s/\True;let B:=(↑(List.length t):Int);let C:=(0:Int);let D:=C<=C/\C<B;let E:=(↑(UInt8.toNat (List.getD t (Int.toNat C) (0:UInt8))):Int);if decide (s=[])=true then A else if decide (t=[])=true then A else if decide (B=(1:Int))=true then D/\if decide (E<(128:Int))=true then D/\E=(48:Int)/\True/\cb s=cb s/\True else False else False:=by
 conv=>zeta
 subst ho;refine aa (fun h=>?_) (fun _=>aa (fun h=>absurd h (by decide)) (fun _=>aa (fun _=>⟨by decide,aa (fun _=>⟨by decide,by decide,trivial,(by repeat' (first|exact trivial|rfl|apply And.intro))⟩) (fun h=>absurd (by decide) h)⟩) (fun h=>absurd (by decide) h)));rw[Xo h];exact⟨trivial,(by repeat' (first|exact trivial|rfl|apply And.intro))⟩
theorem IL(a:Int)  :
  True/\(!decide (a=a))=false/\True:=by
 exact⟨trivial,by simp,trivial⟩
theorem EB(a b:Int)  :
  let A:=True;if decide (a<b)=true then A/\(-1:Int)=bj a b/\A else if decide (b<a)=true then A/\(1:Int)=bj a b/\A else A/\(0:Int)=bj a b/\A:=by
 conv=>zeta
 unfold bj;refine aa (fun h=>?_) (fun h=>aa (fun k=>?_) (fun k=>?_))
 ·exact⟨trivial,(Kf (Xo h)).symm,trivial⟩
 ·have h:¬a<b:=fun e=>h (Xd e);exact⟨trivial,by rw[Kb h,Kf (Xo k)],trivial⟩
 ·have h:¬a<b:=fun e=>h (Xd e);have k:¬b<a:=fun e=>k (Xd e);exact⟨trivial,by rw[Kb h,Kb k],trivial⟩
theorem JJ(l:List Int)(hl:Wf (.lst (.int .i64)) l) :
  let A:=(0:Int);let B:=(↑(List.length l):Int);let C:=l=l/\A=A/\l=l/\B=B/\True;let D:=dfl (Ty.int IntKind.i64);(∃(x:Nat),(x<=List.length l/\orI l=orI (List.drop x l))/\A=(↑x:Int)/\C)/\∀(x:Nat),let E:=(↑x:Int);x<=List.length l/\orI l=orI (List.drop x l)->if decide (E<B)=true then(A<=E/\E<B)/\if(!decide (List.getD l (Int.toNat E) D=A))=true then True/\List.getD l (Int.toNat E) D=orI l/\True else inR IntKind.i64 (E+(1:Int))/\∃(y:Nat),(y<=List.length l/\orI l=orI (List.drop y l))/\List.length l-y<List.length l-x/\E+(1:Int)=(↑y:Int)/\C else True/\A=orI l/\True:=by
 conv=>zeta
 have ln:=hl.len;simp only[Kh];refine⟨⟨0,⟨Kg _,rfl⟩,(by repeat' (first|exact trivial|rfl|apply And.intro))⟩,?_⟩;rintro k ⟨h1,h2⟩;apply aa<;>intro h
 ·have h:=Xo h;have hk:k<l.length:=by omega
  rw[ai l k (dfl (.int .i64)) hk,orI]at h2;refine⟨by omega,aa (fun c=>?_) (fun c=>?_)⟩
  ·have c:¬l.getD k (dfl (.int .i64))=0:=by simpa using c
   rw[Kb c]at h2;exact⟨trivial,h2.symm,trivial⟩
  ·have c:l.getD k (dfl (.int .i64))=0:=by simpa using c
   rw[Kf c]at h2;exact⟨aw hk ln,k+1,⟨by omega,h2⟩,by omega,by omega,(by repeat' (first|exact trivial|rfl|apply And.intro))⟩
 ·have e:k=l.length:=by have:¬((k:Int)<(l.length:Int)):=fun e=>h (Xd e);omega
  subst e;rw[Km]at h2;exact⟨trivial,h2.symm,trivial⟩
theorem Bj(a b:Str)  :
  let A:=([48]:Str)=([48]:Str);A/\A/\True/\orI [bj (↑(List.length (cb a)):Int) (↑(List.length (cb b)):Int),fw (cb a) (cb b)]=xP a b/\True:=by
 conv=>zeta
 refine⟨rfl,rfl,trivial,?_,trivial⟩;unfold xP;simp only[orI];by_cases h:fw (cb a) (cb b)=0<;>simp[h]
theorem EC(a b:Str)  :
  let A:=True;let B:=if aM a=true then A/\(-1:Int)=gJ a b/\A else if aM b=true then A/\(1:Int)=gJ a b/\A else A/\fw a b=gJ a b/\A;if aM a=true then if aM b=true then A/\xP a b=gJ a b/\A else B else B:=by
 conv=>zeta
 unfold gJ;by_cases h:aM a=true<;>by_cases k:aM b=true<;>simp[h,k]
theorem IM(a b:Vers)(ho:(a.pre.length<=4096/\b.pre.length<=4096)) :
  let A:=True;let B:=(0:Int);let C:=A/\A;let D:=[bj a.major b.major,bj a.minor b.minor,bj a.patch b.patch];let E:=(1:Int);let F:=([46]:Str)=([46]:Str);let G:=(4294967281:Nat);let H:=(46:UInt8);let I:=splitB H a.pre;let J:=splitB H b.pre;let K:=false=false;let L:=(↑(List.length I):Int);let M:=(↑(List.length J):Int);let N:=a=a/\b=b/\K/\orI D=orI D/\K/\K/\K/\splitB H a.pre=splitB H a.pre/\splitB H b.pre=splitB H b.pre/\min L M=min L M/\a=a/\b=b/\List.length D=List.length D/\A;let O:=dfl Ty.str;if(decide (a.major=b.major)&&(decide (a.minor=b.minor)&&(decide (a.patch=b.patch)&&(decide (a.pre=b.pre)&&true))))=true then A/\B=fP a b/\A else C/\C/\C/\C/\if(!decide (orI D=B))=true then A/\orI D=fP a b/\A else if decide (a.pre=[])=true then A/\E=fP a b/\A else if decide (b.pre=[])=true then A/\(-1:Int)=fP a b/\A else((F/\List.length a.pre<G)/\A)/\((F/\List.length b.pre<G)/\A)/\(∃(x:Nat),(x<=List.length I/\x<=List.length J/\gj I J=gj (List.drop x I) (List.drop x J))/\B=(↑x:Int)/\N)/\∀(x:Nat),let P:=(↑x:Int);let Q:=List.getD I (Int.toNat P) O;let R:=List.getD J (Int.toNat P) O;x<=List.length I/\x<=List.length J/\gj I J=gj (List.drop x I) (List.drop x J)->if decide (P<min L M)=true then(B<=P/\P<L)/\(B<=P/\P<M)/\C/\if(!decide (gJ Q R=B))=true then A/\gJ Q R=fP a b/\A else inR IntKind.i64 (P+E)/\∃(y:Nat),(y<=List.length I/\y<=List.length J/\gj I J=gj (List.drop y I) (List.drop y J))/\List.length I-y<List.length I-x/\P+E=(↑y:Int)/\N else A/\bj L M=fP a b/\A:=by
 conv=>zeta
 have hv:=vW a b;apply aa<;>intro h
 ·have e:a=b:=by simp only[Ka,Kc]at h;obtain⟨h1,h2,h3,h4,_⟩:=h;cases a;cases b;simp only at h1 h2 h3 h4;rw[h1,h2,h3,h4]
  rw[e];exact⟨trivial,(DO b).symm,trivial⟩
 ·refine⟨⟨trivial,trivial⟩,⟨trivial,trivial⟩,⟨trivial,trivial⟩,⟨trivial,trivial⟩,aa (fun c=>?_) (fun c=>?_)⟩
  ·have c:¬kV a b=0:=by simpa[kV]using c
   rw[Kf c]at hv;exact⟨trivial,hv.symm,trivial⟩
  ·have c:kV a b=0:=by simpa[kV]using c
   rw[Kb (fun e=>e c)]at hv;refine aa (fun p=>?_) (fun p=>aa (fun q=>?_) (fun q=>?_))
   ·have p:=Xo p
    have q:¬b.pre=[]:=fun q=>h (by
     rw[Gs c (p.trans q.symm)];simp)
    rw[Kf p,Kb q]at hv;exact⟨trivial,hv.symm,trivial⟩
   ·have p:¬a.pre=[]:=fun e=>p (Xd e);have q:=Xo q;rw[Kb p,Kf q]at hv;exact⟨trivial,hv.symm,trivial⟩
   ·have p:¬a.pre=[]:=fun e=>p (Xd e);have q:¬b.pre=[]:=fun e=>q (Xd e);rw[Kb p,Kb q]at hv;have la:=cN 46 a.pre;have lb:=cN 46 b.pre;generalize splitB 46 a.pre=x at hv la⊢;generalize splitB 46 b.pre=y at hv lb⊢;refine⟨⟨⟨rfl,by omega⟩,trivial⟩,⟨⟨rfl,by omega⟩,trivial⟩,⟨0,⟨Kg _,Kg _,rfl⟩,(by repeat' (first|exact trivial|rfl|apply And.intro))⟩,?_⟩;rintro k ⟨h1,h2,h3⟩;simp only[Kh];apply aa<;>intro d
    ·have d:=Xo d;have k1:k<x.length:=by omega
     have k2:k<y.length:=by omega
     have hs:=uq k1 k2;refine⟨by omega,by omega,⟨trivial,trivial⟩,aa (fun e=>?_) (fun e=>?_)⟩
     ·have e:¬gJ (x.getD k (dfl .str)) (y.getD k (dfl .str))=0:=by simpa using e
      rw[Kb e]at hs;exact⟨trivial,by rw[hv,h3,hs],trivial⟩
     ·have e:gJ (x.getD k (dfl .str)) (y.getD k (dfl .str))=0:=by simpa using e
      rw[Kf e]at hs;exact⟨aO (by omega) (by omega),k+1,⟨by omega,by omega,by rw[h3,hs]⟩,by omega,by omega,(by repeat' (first|exact trivial|rfl|apply And.intro))⟩
    ·have d:¬((k:Int)<min (x.length:Int) (y.length:Int)):=fun e=>d (Xd e);exact⟨trivial,by rw[hv,h3,xQ h1 h2 (by omega)],trivial⟩
theorem Hr(n:Int)  :
  let A:=True;if decide (n=(1:Int))=true then A/\([60]:Str)=rY n/\A else if decide (n=(2:Int))=true then A/\([60,61]:Str)=rY n/\A else if decide (n=(3:Int))=true then A/\([61]:Str)=rY n/\A else if decide (n=(4:Int))=true then A/\([62,61]:Str)=rY n/\A else if decide (n=(5:Int))=true then A/\([62]:Str)=rY n/\A else A/\[]=rY n/\A:=by
 conv=>zeta
 unfold rY
 repeat' (apply aa<;>intro h)
 all_goals (refine⟨trivial,?_,trivial⟩;simp only[Kc]at *;simp[*])
theorem ED(l:List Bnd)(hl:Wf (.lst (.st .bound)) l) :
  let A:=(↑(List.length l):Int);let B:=True/\(50:Int)=gZ l/\True;let C:=(0:Int);let D:=l=l/\false=false/\l=l/\A=A/\True;let E:=dfl (Ty.st SN.bound);if decide ((20:Int)<A)=true then B else(∃(x:Nat),(x<=List.length l/\List.all l fx=List.all (List.drop x l) fx)/\C=(↑x:Int)/\D)/\∀(x:Nat),let F:=(↑x:Int);let G:=List.getD l (Int.toNat F) E;x<=List.length l/\List.all l fx=List.all (List.drop x l) fx->if decide (F<A)=true then(C<=F/\F<A)/\if decide (rY G.op=[])=true then B else if(!decide (bq G.v=C))=true then B else inR IntKind.i64 (F+(1:Int))/\∃(y:Nat),(y<=List.length l/\List.all l fx=List.all (List.drop y l) fx)/\List.length l-y<List.length l-x/\F+(1:Int)=(↑y:Int)/\D else True/\C=gZ l/\True:=by
 conv=>zeta
 have ln:=hl.len;refine aa (fun h=>?_) (fun h0=>?_)
 ·have h:=Xo h;refine⟨trivial,?_,trivial⟩;unfold gZ;rw[Kf (by omega)]
 have h0:¬20<l.length:=fun e=>h0 (Xd (by omega));simp only[Kh];refine⟨⟨0,⟨Kg _,rfl⟩,(by repeat' (first|exact trivial|rfl|apply And.intro))⟩,?_⟩;rintro k ⟨h1,h2⟩;apply aa<;>intro h
 ·have h:=Xo h;have hk:k<l.length:=by omega
  rw[ai l k (dfl (.st .bound)) hk,KR]at h2;have no:fx (l.getD k (dfl (.st .bound)))=false->True/\(50:Int)=gZ l/\True:=fun e=>⟨trivial,CE (by rw[h2,e];rfl),trivial⟩;have yes:fx (l.getD k (dfl (.st .bound)))=true->l.all fx=(l.drop (k+1)).all fx:=fun e=>by rw[h2,e,KC]
  unfold fx at no yes;have hs:=Gr (l.getD k (dfl (.st .bound))).op;refine⟨by omega,aa (fun c=>no ?_) (fun c=>aa (fun d=>no ?_) (fun d=>?_))⟩
  ·rw[Xf (hs.1 (Xo c)),Ki]
  ·have d:¬bq (l.getD k (dfl (.st .bound))).v=0:=by simpa using d
   rw[Xf d,KJ]
  ·have c:1<=(l.getD k (dfl (.st .bound))).op/\(l.getD k (dfl (.st .bound))).op<=5:=Nf.1 (fun e=>c (Xd (hs.2 e)));have d:bq (l.getD k (dfl (.st .bound))).v=0:=by simpa using d
   exact⟨aw hk ln,k+1,⟨by omega,yes (by rw[Xd c,Xd d];rfl)⟩,by omega,by omega,(by repeat' (first|exact trivial|rfl|apply And.intro))⟩
 ·have e:k=l.length:=by have:¬((k:Int)<(l.length:Int)):=fun e=>h (Xd e);omega
  subst e;rw[Km]at h2;exact⟨trivial,xS h0 h2,trivial⟩
theorem EE(v:Vers)(l:List Bnd)(hl:Wf (.lst (.st .bound)) l)(ho:(v.pre.length<=4096/\∀b∈l,b.v.pre.length<=4096)) :
  let A:=(0:Int);let B:=(↑(List.length l):Int);let C:=v=v/\l=l/\l=l/\B=B/\v=v/\True;let D:=dfl (Ty.st SN.bound);let E:=(1:Int);let F:=True/\false=bB v l/\True;(∃(x:Nat),(x<=List.length l/\bB v l=bB v (List.drop x l))/\A=(↑x:Int)/\C)/\∀(x:Nat),let G:=(↑x:Int);let H:=List.getD l (Int.toNat G) D;let I:=inR IntKind.i64 (G+E)/\∃(y:Nat),(y<=List.length l/\bB v l=bB v (List.drop y l))/\List.length l-y<List.length l-x/\G+E=(↑y:Int)/\C;x<=List.length l/\bB v l=bB v (List.drop x l)->if decide (G<B)=true then(A<=G/\G<B)/\(List.length v.pre<=(4096:Nat)/\List.length H.v.pre<=(4096:Nat))/\if decide (H.op=E)=true then if decide (A<=fP v H.v)=true then F else I else if decide (H.op=(2:Int))=true then if decide (A<fP v H.v)=true then F else I else if decide (H.op=(3:Int))=true then if(!decide (fP v H.v=A))=true then F else I else if decide (H.op=(4:Int))=true then if decide (fP v H.v<A)=true then F else I else if decide (H.op=(5:Int))=true then if decide (fP v H.v<=A)=true then F else I else F else True/\true=bB v l/\True:=by
 conv=>zeta
 have ln:=hl.len;simp only[Kh];refine⟨⟨0,⟨Kg _,rfl⟩,(by repeat' (first|exact trivial|rfl|apply And.intro))⟩,?_⟩;rintro k ⟨h1,h2⟩;apply aa<;>intro h
 ·have h:=Xo h;have hk:k<l.length:=by omega
  rw[ai l k (dfl (.st .bound)) hk,show ∀(x:Bnd)(r:List Bnd),bB v (x::r)=(lI v x&&bB v r)from fun _ _=>rfl]at h2;have hi:=aw hk ln;have no:lI v (l.getD k (dfl (.st .bound)))=false->false=bB v l:=fun e=>by rw[h2,e];rfl
  have yes:lI v (l.getD k (dfl (.st .bound)))=true->bB v l=bB v (l.drop (k+1)):=fun e=>by rw[h2,e,KC]
  refine⟨by omega,⟨ho.1,ho.2 _ (aP l k _ hk)⟩,?_⟩;exact AB _ _ (fun e=>⟨trivial,no e,trivial⟩) (fun e=>⟨hi,k+1,⟨by omega,yes e⟩,by omega,by omega,(by repeat' (first|exact trivial|rfl|apply And.intro))⟩)
 ·have e:k=l.length:=by have:¬((k:Int)<(l.length:Int)):=fun e=>h (Xd e);omega
  subst e;rw[Km]at h2;exact⟨trivial,h2.symm,trivial⟩
theorem Bk(a b:Int)  :
  let A:=True;if decide (a<b)=true then A/\(-1:Int)=bj a b/\A else if decide (b<a)=true then A/\(1:Int)=bj a b/\A else A/\(0:Int)=bj a b/\A:=by
 conv=>zeta
 unfold bj;refine aa (fun h=>?_) (fun h=>aa (fun k=>?_) (fun k=>?_))
 ·exact⟨trivial,(Kf (Xo h)).symm,trivial⟩
 ·have h:¬a<b:=fun e=>h (Xd e);exact⟨trivial,by rw[Kb h,Kf (Xo k)],trivial⟩
 ·have h:¬a<b:=fun e=>h (Xd e);have k:¬b<a:=fun e=>k (Xd e);exact⟨trivial,by rw[Kb h,Kb k],trivial⟩
theorem Bl(a b:Str)  :
  let A:=True;if Op.bytesLess a b=true then A/\(-1:Int)=fw a b/\A else if(!(Op.bytesLess a b||decide (a=b)))=true then A/\(1:Int)=fw a b/\A else A/\(0:Int)=fw a b/\A:=by
 conv=>zeta
 simp only[Gu];unfold fw;refine aa (fun h=>?_) (fun h=>aa (fun k=>?_) (fun k=>?_))
 ·exact⟨trivial,(Kf (Xo h)).symm,trivial⟩
 ·have h:¬a<b:=fun e=>h (Xd e);have k:¬a=b:=by intro e;rw[Xd e,NA]at k;exact absurd k (by decide)
  exact⟨trivial,by rw[Kb h,Kf (DQ h k)],trivial⟩
 ·have h:¬a<b:=fun e=>h (Xd e);have k:a=b:=by refine Nf.1 fun e=>k ?_;rw[Xf h,Xf e];rfl
  subst k;exact⟨trivial,by rw[Kb h,Kb h],trivial⟩
theorem IN(a b:Str)  :
  let A:=True/\(1:Int)=nzT a b/\True;if decide (a=[])=true then if decide (b=[])=true then True/\(0:Int)=nzT a b/\True else A else A:=by
 conv=>zeta
 unfold nzT;by_cases h:a=[]<;>by_cases k:b=[]<;>simp[h,k]
theorem Bn(a b:Str)(ho:(a.length<=4096/\b.length<=4096)) :
  let A:=True;let B:=(48:UInt8);let C:=(0:Int)=(0:Int);let D:=aM a=aM a;let E:=aM b=aM b;let F:=false=false;let G:=F/\F/\F/\A;let H:=b=b/\C/\D/\E/\G;let I:=([48]:Str);let J:=(9223372036854775807:Nat);let K:=C/\D/\E/\F/\G;let L:=if(!aM a)=true then A/\fw a b=gJ a b/\A else(∃(x:Nat),x<=List.length b-List.length a/\a=List.replicate x B++a/\H)/\∀(x:Nat),let N:=List.replicate x B++a;let O:=(↑(List.length N):Int);let P:=List.replicate x B++a=List.replicate x B++a/\K;x<=List.length b-List.length a->if decide (O<(↑(List.length b):Int))=true then List.length I+List.length N<=J/\∃(y:Nat),y<=List.length b-List.length a/\List.length b-List.length a-y<List.length b-List.length a-x/\I++N=List.replicate y B++a/\H else(∃(x_1:Nat),x_1<=List.length a-List.length b/\b=List.replicate x_1 B++b/\P)/\∀(x_1:Nat),let Q:=List.replicate x_1 B++b;x_1<=List.length a-List.length b->if decide ((↑(List.length Q):Int)<O)=true then List.length I+List.length Q<=J/\∃(y:Nat),y<=List.length a-List.length b/\List.length a-List.length b-y<List.length a-List.length b-x_1/\I++Q=List.replicate y B++b/\P else A/\fw N Q=gJ a b/\A;let M:=if aM b=true then if(!aM a)=true then A/\(1:Int)=gJ a b/\A else L else L;if aM a=true then if(!aM b)=true then A/\(-1:Int)=gJ a b/\A else M else M:=by
 conv=>zeta
 have hc:gJ a b=if aM a=true then(if aM b=true then xP a b else -1)else if aM b=true then 1 else fw a b:=rfl
 cases ha:aM a with
 |false=>
  cases hb:aM b with|false=>rw[ha,hb]at hc;simpa[hc]using hc|true=>rw[ha,hb]at hc;simpa[hc]using hc
 |true=>
  cases hb:aM b with
  |false=>rw[ha,hb]at hc;simpa[hc]using hc
  |true=>
   rw[ha,hb,Kf rfl,Kf rfl,<-Ij ha hb]at hc;rw[hc];unfold AA;simp only[MX,Lg,KP,Lf];obtain⟨o1,o2⟩:=ho;refine⟨⟨0,Kg _,(by repeat' (first|exact trivial|rfl|apply And.intro))⟩,?_⟩;intro k h1;have lk:(List.replicate k (48:UInt8)++a).length=k+a.length:=by rw[Kw,MG]
   apply aa<;>intro h
   ·have h:=Xo h;rw[lk]at h⊢;exact⟨by simp only[L9];omega,k+1,by omega,by omega,(by repeat' (first|exact trivial|rfl|apply And.intro))⟩
   ·have h:¬((List.replicate k (48:UInt8)++a).length:Int)<(b.length:Int):=fun e=>h (Xd e);rw[lk]at h;have ek:k=b.length-a.length:=by omega
    refine⟨⟨0,Kg _,(by repeat' (first|exact trivial|rfl|apply And.intro))⟩,?_⟩;intro j j1;have lj:(List.replicate j (48:UInt8)++b).length=j+b.length:=by rw[Kw,MG]
    apply aa<;>intro g
    ·have g:=Xo g;rw[lk,lj]at g;rw[lj];exact⟨by simp only[L9];omega,j+1,by omega,by omega,(by repeat' (first|exact trivial|rfl|apply And.intro))⟩
    ·have g:¬((List.replicate j (48:UInt8)++b).length:Int)<((List.replicate k (48:UInt8)++a).length:Int):=fun e=>g (Xd e);rw[lk,lj]at g;have ej:j=a.length-b.length:=by omega
     rw[ek,ej];exact⟨trivial,(by repeat' (first|exact trivial|rfl|apply And.intro))⟩
theorem Hs(a b:Vers)(ho:(a.pre.length<=4096/\b.pre.length<=4096)) :
  let A:=(3:Nat);let B:=[bj a.major b.major,bj a.minor b.minor,bj a.patch b.patch];let C:=(0:Int);let D:=True;let E:=a=a/\b=b/\List.length B=List.length B/\D;let F:=a=a/\b=b/\B=B/\E;let G:=(↑(List.length B):Int);let H:=dfl (Ty.int IntKind.i64);let I:=(1:Int);let J:=List.length b.pre;let K:=List.length a.pre;let L:=(D/\D)/\(D/\D)/\inR IntKind.i64 (bj (↑J:Int) (↑K:Int)*nzT a.pre b.pre)/\D/\bj (↑J:Int) (↑K:Int)*nzT a.pre b.pre=fP a b/\D;let M:=(4096:Nat);let N:=(46:UInt8);let O:=splitB N a.pre;let P:=splitB N b.pre;let Q:=a=a/\b=b/\B=B/\false=false/\false=false/\splitB N a.pre=splitB N a.pre/\splitB N b.pre=splitB N b.pre/\E;let R:=(↑(List.length O):Int);let S:=(↑(List.length P):Int);let T:=dfl Ty.str;let U:=D/\bj R S=fP a b/\D;(∃(x:Nat),(x<=A/\∀(j:Nat),j<x->List.getD B j C=C)/\C=(↑x:Int)/\F)/\∀(x:Nat),let V:=(↑x:Int);let W:=C<=V/\V<G;(x<=A/\∀(j:Nat),j<x->List.getD B j C=C)->if decide (V<(3:Int))=true then W/\if(!decide (List.getD B (Int.toNat V) H=C))=true then W/\D/\List.getD B (Int.toNat V) H=fP a b/\D else inR IntKind.i64 (V+I)/\∃(y:Nat),(y<=A/\∀(j:Nat),j<y->List.getD B j C=C)/\A-y<A-x/\V+I=(↑y:Int)/\F else if decide (a.pre=[])=true then L else if decide (b.pre=[])=true then L else(Nat.le K M/\D)/\(Nat.le J M/\D)/\(∃(x_1:Nat),(x_1<=List.length O/\x_1<=List.length P/\gj O P=gj (List.drop x_1 O) (List.drop x_1 P))/\C=(↑x_1:Int)/\V=V/\Q)/\∀(x_1:Nat),let X:=(↑x_1:Int);let Y:=List.getD O (Int.toNat X) T;let Z:=List.getD P (Int.toNat X) T;x_1<=List.length O/\x_1<=List.length P/\gj O P=gj (List.drop x_1 O) (List.drop x_1 P)->if decide (X<R)=true then if decide (X<S)=true then(C<=X/\X<R)/\(C<=X/\X<S)/\(List.length Y<=M/\List.length Z<=M)/\if(!decide (gJ Y Z=C))=true then D/\gJ Y Z=fP a b/\D else inR IntKind.i64 (X+I)/\∃(y:Nat),(y<=List.length O/\y<=List.length P/\gj O P=gj (List.drop y O) (List.drop y P))/\List.length O-y<List.length O-x_1/\X+I=(↑y:Int)/\V=V/\Q else U else U:=by
 conv=>zeta
 have hv:=vW a b;have l3:[bj a.major b.major,bj a.minor b.minor,bj a.patch b.patch].length=3:=rfl;simp only[Kh];refine⟨⟨0,⟨by omega,fun j hj=>by omega⟩,(by repeat' (first|exact trivial|rfl|apply And.intro))⟩,?_⟩;rintro k ⟨h1,h2⟩;apply aa<;>intro h
 ·have h:=Xo h;have hk:k<3:=by omega
  refine⟨⟨by omega,by rw[l3];omega⟩,aa (fun c=>?_) (fun c=>?_)⟩
  ·have c:¬[bj a.major b.major,bj a.minor b.minor,bj a.patch b.patch].getD k (dfl (.int .i64))=0:=by simpa only[Ko,KD]using c
   replace c:¬[bj a.major b.major,bj a.minor b.minor,bj a.patch b.patch].getD k 0=0:=c;have e:=uu h2 hk c;have e0:kV a b=[bj a.major b.major,bj a.minor b.minor,bj a.patch b.patch].getD k 0:=e;rw[Kf (by rw[e0];exact c),e0]at hv;exact⟨⟨by omega,by rw[l3];omega⟩,trivial,hv.symm,trivial⟩
  ·have c:[bj a.major b.major,bj a.minor b.minor,bj a.patch b.patch].getD k (dfl (.int .i64))=0:=by simpa only[Ko,KD,Nf]using c
   replace c:[bj a.major b.major,bj a.minor b.minor,bj a.patch b.patch].getD k 0=0:=c;refine⟨aO (by omega) (by omega),k+1,⟨by omega,fun j hj=>?_⟩,by omega,by omega,(by repeat' (first|exact trivial|rfl|apply And.intro))⟩;rcases Nat.lt_or_eq_of_le (Nat.le_of_lt_succ hj)with e|e
   ·exact h2 j e
   ·rw[e];exact c
 ·have hk:k=3:=by have:¬(k:Int)<3:=fun e=>h (Xd e);omega
  subst hk;have c:kV a b=0:=xR.2 ⟨h2 0 (by omega),h2 1 (by omega),h2 2 (by omega)⟩;have hn:=fun hp=>Js c hp
  have hi:inR .i64 (bj (b.pre.length:Int) (a.pre.length:Int) *nzT a.pre b.pre):=by
   have:=Gt (b.pre.length:Int) (a.pre.length:Int);rcases Ik a.pre b.pre with e|e
   ·rw[e,Int.mul_zero];exact aO (by omega) (by omega)
   ·rw[e,Int.mul_one];exact aO (by omega) (by omega)
  rw[Kb (fun e=>e c)]at hv;refine aa (fun p=>?_) (fun p=>aa (fun q=>?_) (fun q=>?_))
  ·exact⟨⟨trivial,trivial⟩,⟨trivial,trivial⟩,hi,trivial,hn (.inl (Xo p)),trivial⟩
  ·exact⟨⟨trivial,trivial⟩,⟨trivial,trivial⟩,hi,trivial,hn (.inr (Xo q)),trivial⟩
  ·have p:¬a.pre=[]:=fun e=>p (Xd e);have q:¬b.pre=[]:=fun e=>q (Xd e);rw[Kb p,Kb q]at hv;have la:=cN 46 a.pre;have lb:=cN 46 b.pre;have ma:=oC 46 a.pre;have mb:=oC 46 b.pre;generalize splitB 46 a.pre=x at hv la ma⊢;generalize splitB 46 b.pre=y at hv lb mb⊢;refine⟨⟨ho.1,trivial⟩,⟨ho.2,trivial⟩,⟨0,⟨Kg _,Kg _,rfl⟩,(by repeat' (first|exact trivial|rfl|apply And.intro))⟩,?_⟩;rintro j ⟨j1,j2,j3⟩;have fin:(j=x.length∨j=y.length)->bj (x.length:Int) (y.length:Int)=fP a b:=fun e=>by rw[hv,j3,xQ j1 j2 e]
   refine aa (fun d=>aa (fun d2=>?_) (fun d2=>?_)) (fun d=>?_)
   ·have d:=Xo d;have d2:=Xo d2;have k1:j<x.length:=by omega
    have k2:j<y.length:=by omega
    have hs:=uq k1 k2;have mx:=ma _ (aP x j (dfl .str) k1);have my:=mb _ (aP y j (dfl .str) k2);refine⟨by omega,by omega,⟨Ld mx ho.1,Ld my ho.2⟩,aa (fun e=>?_) (fun e=>?_)⟩
    ·have e:¬gJ (x.getD j (dfl .str)) (y.getD j (dfl .str))=0:=by simpa using e
     rw[Kb e]at hs;exact⟨trivial,by rw[hv,j3,hs],trivial⟩
    ·have e:gJ (x.getD j (dfl .str)) (y.getD j (dfl .str))=0:=by simpa using e
     rw[Kf e]at hs;refine⟨aO (by omega) (by omega),j+1,⟨by omega,by omega,by rw[j3,hs]⟩,by omega,by omega,?_⟩
     repeat' (first|exact trivial|rfl|apply And.intro)
   ·have d2:¬((j:Int)<(y.length:Int)):=fun e=>d2 (Xd e);exact⟨trivial,fin (by omega),trivial⟩
   ·have d:¬((j:Int)<(x.length:Int)):=fun e=>d (Xd e);exact⟨trivial,fin (by omega),trivial⟩
theorem Bp(l:List Bnd)(hl:Wf (.lst (.st .bound)) l) :
  let A:=(↑(List.length l):Int);let B:=True/\(50:Int)=gZ l/\True;let C:=(0:Int);let D:=l=l/\false=false/\True;let E:=dfl (Ty.st SN.bound);let F:=(1:Int);if decide ((20:Int)<A)=true then B else(∃(x:Nat),(x<=List.length l/\List.all l fx=List.all (List.drop x l) fx)/\C=(↑x:Int)/\D)/\∀(x:Nat),let G:=(↑x:Int);let H:=C<=G/\G<A;let I:=List.getD l (Int.toNat G) E;x<=List.length l/\List.all l fx=List.all (List.drop x l) fx->if decide (G<A)=true then H/\if decide (I.op<F)=true then B else H/\if decide ((5:Int)<I.op)=true then B else H/\if(!decide (bq I.v=C))=true then B else inR IntKind.i64 (G+F)/\∃(y:Nat),(y<=List.length l/\List.all l fx=List.all (List.drop y l) fx)/\List.length l-y<List.length l-x/\G+F=(↑y:Int)/\D else True/\C=gZ l/\True:=by
 conv=>zeta
 have ln:=hl.len;refine aa (fun h=>?_) (fun h0=>?_)
 ·have h:=Xo h;refine⟨trivial,?_,trivial⟩;unfold gZ;rw[Kf (by omega)]
 have h0:¬20<l.length:=fun e=>h0 (Xd (by omega));simp only[Kh];refine⟨⟨0,⟨Kg _,rfl⟩,(by repeat' (first|exact trivial|rfl|apply And.intro))⟩,?_⟩;rintro k ⟨h1,h2⟩;apply aa<;>intro h
 ·have h:=Xo h;have hk:k<l.length:=by omega
  rw[ai l k (dfl (.st .bound)) hk,KR]at h2;have no:fx (l.getD k (dfl (.st .bound)))=false->True/\(50:Int)=gZ l/\True:=fun e=>⟨trivial,CE (by rw[h2,e];rfl),trivial⟩;have yes:fx (l.getD k (dfl (.st .bound)))=true->l.all fx=(l.drop (k+1)).all fx:=fun e=>by rw[h2,e,KC]
  unfold fx at no yes;refine⟨by omega,aa (fun c=>no ?_) (fun c=>⟨by omega,aa (fun c2=>no ?_) (fun c2=>⟨by omega,aa (fun d=>no ?_) (fun d=>?_)⟩)⟩)⟩
  ·have c:=Xo c;rw[Xf (by omega),Ki]
  ·have c2:=Xo c2;rw[Xf (by omega),Ki]
  ·have d:¬bq (l.getD k (dfl (.st .bound))).v=0:=by simpa using d
   rw[Xf d,KJ]
  ·have c:1<=(l.getD k (dfl (.st .bound))).op/\(l.getD k (dfl (.st .bound))).op<=5:=by have c:¬(l.getD k (dfl (.st .bound))).op<1:=fun e=>c (Xd e);have c2:¬5<(l.getD k (dfl (.st .bound))).op:=fun e=>c2 (Xd e);omega
   have d:bq (l.getD k (dfl (.st .bound))).v=0:=by simpa using d
   exact⟨aw hk ln,k+1,⟨by omega,yes (by rw[Xd c,Xd d];rfl)⟩,by omega,by omega,(by repeat' (first|exact trivial|rfl|apply And.intro))⟩
 ·have e:k=l.length:=by have:¬((k:Int)<(l.length:Int)):=fun e=>h (Xd e);omega
  subst e;rw[Km]at h2;exact⟨trivial,xS h0 h2,trivial⟩
theorem Ht(v:Vers)(b:Bnd)(ho:(v.pre.length<=4096/\b.v.pre.length<=4096)) :
  let A:=True;let B:=(0:Int);(List.length v.pre<=(4096:Nat)/\List.length b.v.pre<=(4096:Nat))/\if decide (b.op=(1:Int))=true then A/\decide (fP v b.v<B)=lI v b/\A else if decide (b.op=(2:Int))=true then A/\decide (fP v b.v<=B)=lI v b/\A else if decide (b.op=(3:Int))=true then A/\decide (fP v b.v=B)=lI v b/\A else if decide (b.op=(4:Int))=true then A/\decide (B<=fP v b.v)=lI v b/\A else if decide (b.op=(5:Int))=true then A/\decide (B<fP v b.v)=lI v b/\A else A/\false=lI v b/\A:=by
 conv=>zeta
 refine⟨ho,?_⟩;unfold lI Gq
 repeat' (apply aa<;>intro h)
 all_goals (refine⟨trivial,?_,trivial⟩;simp only[Kc]at *;simp[*])
theorem Bq(v:Vers)(l:List Bnd)(hl:Wf (.lst (.st .bound)) l)(ho:(v.pre.length<=4096/\∀b∈l,b.v.pre.length<=4096)) :
  let A:=v=v/\l=l/\v=v/\True;let B:=(↑(List.length l):Int);let C:=dfl (Ty.st SN.bound);(∃(x:Nat),(x<=List.length l/\bB v l=bB v (List.drop x l))/\(0:Int)=(↑x:Int)/\A)/\∀(x:Nat),let D:=(↑x:Int);let E:=List.getD l (Int.toNat D) C;x<=List.length l/\bB v l=bB v (List.drop x l)->if decide (D<B)=true then((0:Int)<=D/\D<B)/\(List.length v.pre<=(4096:Nat)/\List.length E.v.pre<=(4096:Nat))/\if(!lI v E)=true then True/\false=bB v l/\True else inR IntKind.i64 (D+(1:Int))/\∃(y:Nat),(y<=List.length l/\bB v l=bB v (List.drop y l))/\List.length l-y<List.length l-x/\D+(1:Int)=(↑y:Int)/\A else True/\true=bB v l/\True:=by
 conv=>zeta
 have ln:=hl.len;simp only[Kh];refine⟨⟨0,⟨Kg _,rfl⟩,(by repeat' (first|exact trivial|rfl|apply And.intro))⟩,?_⟩;rintro k ⟨h1,h2⟩;apply aa<;>intro h
 ·have h:=Xo h;have hk:k<l.length:=by omega
  rw[ai l k (dfl (.st .bound)) hk,show ∀(x:Bnd)(r:List Bnd),bB v (x::r)=(lI v x&&bB v r)from fun _ _=>rfl]at h2;refine⟨by omega,⟨ho.1,ho.2 _ (aP l k _ hk)⟩,aa (fun c=>?_) (fun c=>?_)⟩
  ·have c:lI v (l.getD k (dfl (.st .bound)))=false:=by simpa using c
   rw[c,Ki]at h2;exact⟨trivial,h2.symm,trivial⟩
  ·have c:lI v (l.getD k (dfl (.st .bound)))=true:=by simpa using c
   rw[c,KC]at h2;exact⟨aw hk ln,k+1,⟨by omega,h2⟩,by omega,by omega,(by repeat' (first|exact trivial|rfl|apply And.intro))⟩
 ·have e:k=l.length:=by have:¬((k:Int)<(l.length:Int)):=fun e=>h (Xd e);omega
  subst e;rw[Km]at h2;exact⟨trivial,h2.symm,trivial⟩
theorem Br(n:Nat)(x:Shape)(ho:sz x<=n) :
  sz x<=n/\True/\(!allS ao x)=!allS ao x/\True:=by
 exact⟨ho,trivial,rfl,trivial⟩
theorem Bt(n:Nat)(l:List Shape)(hl:Wf (.lst (.st .shape)) l)(ho:∀x∈l,sz x<=n) :
  let A:=allS ao;let B:=(0:Nat);let C:=(↑(List.length l):Int);let D:=l=l/\C=C/\True;let E:=dfl (Ty.st SN.shape);(∃(x:Nat),(x<=List.length l/\b9 A (List.drop x l) x=b9 A l B)/\(0:Int)=(↑x:Int)/\D)/\∀(x:Nat),let F:=(↑x:Int);let G:=List.getD l (Int.toNat F) E;x<=List.length l/\b9 A (List.drop x l) x=b9 A l B->if decide (F<C)=true then((0:Int)<=F/\F<C)/\sz G<=n/\if(!allS ao G)=true then True/\F=b9 A l B/\True else inR IntKind.i64 (F+(1:Int))/\∃(y:Nat),(y<=List.length l/\b9 A (List.drop y l) y=b9 A l B)/\List.length l-y<List.length l-x/\F+(1:Int)=(↑y:Int)/\D else True/\(-1:Int)=b9 A l B/\True:=by
 conv=>zeta
 have ln:=hl.len;simp only[Kh];refine⟨⟨0,⟨Kg _,by simp⟩,(by repeat' (first|exact trivial|rfl|apply And.intro))⟩,?_⟩;rintro k ⟨h1,h2⟩;apply aa<;>intro h
 ·replace h:=Xo h;have hk:k<l.length:=by omega
  rw[ai l k (dfl (.st .shape)) hk,b9]at h2;refine⟨by omega,ho _ (aP l k _ hk),aa (fun c=>?_) (fun c=>?_)⟩
  ·have c:allS ao (l.getD k (dfl (.st .shape)))=false:=by simpa using c
   rw[c,Kb Lz]at h2;rw[<-h2];exact Xr
  ·have c:allS ao (l.getD k (dfl (.st .shape)))=true:=by simpa using c
   rw[Kf c]at h2;exact⟨aw hk ln,k+1,⟨by omega,h2⟩,by omega,by omega,(by repeat' (first|exact trivial|rfl|apply And.intro))⟩
 ·replace h:¬((k:Int)<(l.length:Int)):=fun e=>h (Xd e);have e:k=l.length:=by omega
  subst e;rw[Km,b9]at h2;rw[<-h2];exact Xr
theorem Bu(n:Nat)(l:List Shape)(hl:Wf (.lst (.st .shape)) l)(ho:∀x∈l,sz x<=n) :
  (∀(x:Shape),x∈l->sz x<=n)/\True/\decide ((0:Int)<=b9 (allS ao) l (0:Nat))=!List.all l (allS ao)/\True:=by
 exact⟨ho,trivial,iA (allS ao) l 0,trivial⟩
theorem Hu(n:Nat)(s:Shape)(ho:sz s<=n+1) :
  if(!decide (s.kind=(10:Int)))=true then(∀(x:Shape),x∈s.parts->sz x<=n)/\True/\(!!List.all s.parts (allS ao))=allS ao s/\True else True/\false=allS ao s/\True:=by
 have e0:allS ao s=(ao s&&s.parts.all (allS ao)):=by rw[iQ,rM]
 have h0:=iP s;have hm:∀x∈s.parts,sz x<=n:=fun x hx=>by have:=eZ hx;omega
 rw[e0];apply aa<;>intro h
 ·have h:ao s=true:=h;rw[h,KC];exact⟨hm,trivial,by simp,trivial⟩
 ·have h:ao s=false:=by simpa[ao]using h
  rw[h];exact Xr
theorem EF(l:List Str)(ho:l.length *16<=140737488355328) :
  let A:=(List.mergeSort l fun(x y:Str)=>decide (x<=y));List.length l*(16:Nat)<=(140737488355328:Nat)/\List.length A=List.length A/\True/\decide ((↑(List.length (Lib.compact A)):Int)=(↑(List.length l):Int))=decide (List.Nodup l)/\True:=by
 conv=>zeta
 have hc:=fM l;unfold eK at hc;refine⟨ho,rfl,trivial,?_,trivial⟩;rw[L0,<-hc];omega
theorem Hv(d:Dcl)(ho:bT d=true) :
  let A:=(0:Int);let B:=(↑(List.length d.shape.names):Int);let C:=(↑(List.length d.shape.parts):Int);let D:=True;let E:=d=d/\false=false/\d=d/\D;let F:=false=noS d.shape/\E;let G:=(↑(List.length d.term.names):Int);let H:=(↑(List.length d.term.vars):Int);let I:=(↑(List.length d.term.shapes):Int);let J:=(↑(List.length d.term.parts):Int);let K:=noS d.shape=noS d.shape/\d=d/\false=false/\d=d/\d.term=d.term/\D;let L:=false=noT d.term/\K;let M:=D/\false=cY d/\D;let N:=if bO d.name=true then if decide (bH d.shape=A)=true then sz d.shape<=(400:Nat)/\if allS ao d.shape=true then D/\noT d.term=cY d/\D else M else M else M;(if decide (d.shape.kind=A)=true then if decide (d.shape.pkg=[])=true then if decide (d.shape.name=[])=true then inR IntKind.i64 (B+C)/\decide (B+C=A)=noS d.shape/\E else F else F else F)/\(if decide (d.term.kind=A)=true then if decide (d.term.pkg=[])=true then if decide (d.term.name=[])=true then if decide (d.term.n=A)=true then if decide (d.term.pos=A)=true then inR IntKind.i64 (G+H)/\inR IntKind.i64 (G+H+I)/\inR IntKind.i64 (G+H+I+J)/\decide (G+H+I+J=A)=noT d.term/\K else L else L else L else L else L)/\if decide (d.kind=(1:Int))=true then N else if decide (d.kind=(2:Int))=true then N else if decide (d.kind=(3:Int))=true then if au d.name=true then cG d.term=true/\if decide (db d.term=A)=true then D/\noS d.shape=cY d/\D else M else M else M:=by
 conv=>zeta
 obtain⟨o4,o5⟩:=xV ho;obtain⟨s1,s2,s3,s4,s5,s6⟩:=Gz ho;have dS:decide ((d.shape.names.length:Int)+(d.shape.parts.length:Int)=0)=decide (d.shape.names.length+d.shape.parts.length=0):=L0.2 (by omega);have dT:decide ((d.term.names.length:Int)+(d.term.vars.length:Int)+(d.term.shapes.length:Int)+(d.term.parts.length:Int)=0)=decide (d.term.names.length+d.term.vars.length+d.term.shapes.length+d.term.parts.length=0):=L0.2 (by omega);have i1:inR .i64 ((d.shape.names.length:Int)+(d.shape.parts.length:Int)):=aO (by omega) (by omega);have i2:inR .i64 ((d.term.names.length:Int)+(d.term.vars.length:Int)):=aO (by omega) (by omega);have i3:inR .i64 ((d.term.names.length:Int)+(d.term.vars.length:Int)+(d.term.shapes.length:Int)):=aO (by omega) (by omega);have i4:inR .i64 ((d.term.names.length:Int)+(d.term.vars.length:Int)+(d.term.shapes.length:Int)+(d.term.parts.length:Int)):=aO (by omega) (by omega);have nS:noS d.shape=(decide (d.shape.kind=0)&&decide (d.shape.pkg=[])&&decide (d.shape.name=[])&&decide (d.shape.names.length+d.shape.parts.length=0)):=rfl;have nT:noT d.term=(decide (d.term.kind=0)&&decide (d.term.pkg=[])&&decide (d.term.name=[])&&decide (d.term.n=0)&&decide (d.term.pos=0)&&decide (d.term.names.length+d.term.vars.length+d.term.shapes.length+d.term.parts.length=0)):=rfl;refine⟨?_,?_,?_⟩
 ·rw[nS,dS];refine aa (fun a=>aa (fun b=>aa (fun c=>⟨i1,?_,(by repeat' (first|exact trivial|rfl|apply And.intro))⟩) (fun c=>⟨?_,(by repeat' (first|exact trivial|rfl|apply And.intro))⟩)) (fun b=>⟨?_,(by repeat' (first|exact trivial|rfl|apply And.intro))⟩)) (fun a=>⟨?_,(by repeat' (first|exact trivial|rfl|apply And.intro))⟩)
  ·rw[a,b,c];rfl
  ·rw[bF c,KJ,Ki]
  ·rw[bF b,KJ,Ki,Ki]
  ·rw[bF a,Ki,Ki,Ki]
 ·rw[nT,dT];refine aa (fun a=>aa (fun b=>aa (fun c=>aa (fun e=>aa (fun f=>⟨i2,i3,i4,?_,(by repeat' (first|exact trivial|rfl|apply And.intro))⟩) (fun f=>⟨?_,(by repeat' (first|exact trivial|rfl|apply And.intro))⟩)) (fun e=>⟨?_,(by repeat' (first|exact trivial|rfl|apply And.intro))⟩)) (fun c=>⟨?_,(by repeat' (first|exact trivial|rfl|apply And.intro))⟩)) (fun b=>⟨?_,(by repeat' (first|exact trivial|rfl|apply And.intro))⟩)) (fun a=>⟨?_,(by repeat' (first|exact trivial|rfl|apply And.intro))⟩)
  ·rw[a,b,c,e,f];rfl
  ·rw[bF f,KJ,Ki]
  ·rw[bF e,KJ,Ki,Ki]
  ·rw[bF c,KJ,Ki,Ki,Ki]
  ·rw[bF b,KJ,Ki,Ki,Ki,Ki]
  ·rw[bF a,Ki,Ki,Ki,Ki,Ki]
 clear nS nT dS dT
 have ty:d.kind=1∨d.kind=2->(if bO d.name=true then if decide (bH d.shape=0)=true then sz d.shape<=400/\if allS ao d.shape=true then True/\noT d.term=cY d/\True else True/\false=cY d/\True else True/\false=cY d/\True else True/\false=cY d/\True):=by
  intro k;unfold cY;rw[Kf k];refine aa (fun a=>aa (fun b=>⟨(iR (Xo b)).1,aa (fun c=>⟨trivial,?_,trivial⟩) (fun c=>⟨trivial,?_,trivial⟩)⟩) (fun b=>⟨trivial,?_,trivial⟩)) (fun a=>⟨trivial,?_,trivial⟩)
  ·rw[a,b,c];rfl
  ·rw[bF c,KJ,Ki]
  ·rw[bF b,KJ,Ki,Ki]
  ·rw[bF a,Ki,Ki,Ki]
 refine aa (fun k=>ty (.inl (Xo k))) (fun k1=>aa (fun k=>ty (.inr (Xo k))) (fun k2=>?_));have k1:¬d.kind=1:=fun e=>k1 (Xd e);have k2:¬d.kind=2:=fun e=>k2 (Xd e);have dk:cY d=if d.kind=3 then au d.name&&decide (db d.term=0)&&noS d.shape else false:=by unfold cY;exact Kb (fun e=>e.elim k1 k2)
 rw[dk];refine aa (fun k=>?_) (fun k=>⟨trivial,(Kb (fun e=>k (Xd e))).symm,trivial⟩);rw[Kf (Xo k)];refine aa (fun a=>⟨o5,aa (fun b=>⟨trivial,?_,trivial⟩) (fun b=>⟨trivial,?_,trivial⟩)⟩) (fun a=>⟨trivial,?_,trivial⟩)
 ·rw[a,b];rfl
 ·rw[bF b,KJ,Ki]
 ·rw[bF a,Ki,Ki]
theorem EG(m:Modu)(hm:Wf (.st .modu) m)(ho:(m.decls.all bT=true/\m.decls.length<=1000000)) :
  let A:=True/\(100:Int)=bu m/\True;let B:=(↑(List.length m.imports):Int);let C:=(↑(List.length m.exports):Int);let D:=(0:Int);let E:=(fun(x:Impt)=>x.name);let F:=m=m;let G:=false=false;let H:=m.imports=m.imports;let I:=B=B;let J:=F/\True;let K:=dfl (Ty.st SN.imp);let L:=(16:Nat);let M:=(140737488355328:Nat);let N:=(1:Int);let O:=[([73,110,116]:Str),([66,111,111,108]:Str),([84,101,120,116]:Str),([65,110,121]:Str)];let P:=(fun(x:Dcl)=>x.name);let Q:=m.decls=m.decls;let R:=(↑(List.length m.decls):Int);let S:=R=R;let T:=dfl (Ty.st SN.decl);let U:=m.exports=m.exports;if(!au m.name)=true then A else if decide ((8:Int)<B)=true then A else if decide ((60:Int)<C)=true then A else if decide (m.pos<D)=true then A else(∃(x:Nat),let V:=List.take x m.imports;(x<=List.length m.imports/\List.all m.imports gP=List.all (List.drop x m.imports) gP)/\[m.name]=m.name::List.map E V/\D=(↑x:Int)/\F/\G/\H/\I/\List.length [m.name]=List.length (m.name::List.map E V)/\J)/\∀(x:Nat),let V:=(↑x:Int);let W:=List.getD m.imports (Int.toNat V) K;let X:=List.take x m.imports;let Y:=(m.name::List.map E X);let Z:=List.length Y=List.length Y;let a:=[W.name];let c:=m.name::List.map E X=m.name::List.map E X;let d:=V=V;let e:=Z/\J;x<=List.length m.imports/\List.all m.imports gP=List.all (List.drop x m.imports) gP->if decide (V<B)=true then(D<=V/\V<B)/\if(!au W.name)=true then A else if(!decide (bq W.pin=D))=true then A else if(!decide (gZ W.range=D))=true then A else(List.length W.pin.pre<=(4096:Nat)/\∀(b:Bnd),b∈W.range->List.length b.v.pre<=(4096:Nat))/\if(!bB W.pin W.range)=true then A else if decide (W.pos<D)=true then A else(Z/\(List.length Y+List.length a)*L<=M)/\inR IntKind.i64 (V+N)/\∃(y:Nat),let f:=List.take y m.imports;(y<=List.length m.imports/\List.all m.imports gP=List.all (List.drop y m.imports) gP)/\List.length m.imports-y<List.length m.imports-x/\m.name::List.map E X++a=m.name::List.map E f/\V+N=(↑y:Int)/\F/\G/\H/\I/\List.length (m.name::List.map E X++a)=List.length (m.name::List.map E f)/\J else(∃(x_1:Nat),let f:=List.take x_1 m.decls;(x_1<=List.length m.decls/\List.all m.decls gL=List.all (List.drop x_1 m.decls) gL)/\O=dZ++List.map P f/\D=(↑x_1:Int)/\c/\d/\F/\G/\H/\I/\G/\Q/\S/\List.length O=List.length (dZ++List.map P f)/\e)/\∀(x_1:Nat),let f:=(↑x_1:Int);let g:=List.getD m.decls (Int.toNat f) T;let h:=List.take x_1 m.decls;let i:=dZ++List.map P h;let j:=List.length i=List.length i;let k:=[g.name];let l:=dZ++List.map P h=dZ++List.map P h/\f=f/\c/\d/\F/\G/\H/\I/\G/\Q/\S/\G/\U/\C=C/\j/\e;x_1<=List.length m.decls/\List.all m.decls gL=List.all (List.drop x_1 m.decls) gL->if decide (f<R)=true then(D<=f/\f<R)/\bT g=true/\if(!cY g)=true then A else if decide (g.pos<D)=true then A else(j/\(List.length i+List.length k)*L<=M)/\inR IntKind.i64 (f+N)/\∃(y:Nat),let n:=List.take y m.decls;(y<=List.length m.decls/\List.all m.decls gL=List.all (List.drop y m.decls) gL)/\List.length m.decls-y<List.length m.decls-x_1/\dZ++List.map P h++k=dZ++List.map P n/\f+N=(↑y:Int)/\c/\d/\F/\G/\H/\I/\G/\Q/\S/\List.length (dZ++List.map P h++k)=List.length (dZ++List.map P n)/\e else(∃(x_2:Nat),(x_2<=List.length m.exports/\List.all m.exports fQ=List.all (List.drop x_2 m.exports) fQ)/\D=(↑x_2:Int)/\l)/\∀(x_2:Nat),let n:=(↑x_2:Int);let o:=List.getD m.exports (Int.toNat n) (dfl Ty.str);let p:=inR IntKind.i64 (n+N)/\∃(y:Nat),(y<=List.length m.exports/\List.all m.exports fQ=List.all (List.drop y m.exports) fQ)/\List.length m.exports-y<List.length m.exports-x_2/\n+N=(↑y:Int)/\l;x_2<=List.length m.exports/\List.all m.exports fQ=List.all (List.drop x_2 m.exports) fQ->if decide (n<C)=true then(D<=n/\n<C)/\if(!au o)=true then if(!bO o)=true then A else p else p else List.length Y*L<=M/\if(!decide (List.Nodup Y))=true then A else List.length i*L<=M/\if(!decide (List.Nodup i))=true then A else List.length m.exports*L<=M/\if(!decide (List.Nodup m.exports))=true then A else True/\D=bu m/\True:=by
 conv=>zeta
 have bad:okM m=false->True/\(100:Int)=bu m/\True:=fun e=>⟨trivial,sb e,trivial⟩;have hb:(au m.name=true/\m.imports.length<=8/\m.exports.length<=60/\0<=m.pos->False)->True/\(100:Int)=bu m/\True:=fun e=>bad (pn (bF (fun k=>e (nk.1 k))));obtain⟨o1,o2⟩:=ho;rw[Kp]at o1;refine aa (fun a=>hb (fun e=>nbN a e.1)) (fun a1=>aa (fun a=>hb (fun e=>by have:=Xo a;omega)) (fun a2=>aa (fun a=>hb (fun e=>by have:=Xo a;omega)) (fun a3=>aa (fun a=>hb (fun e=>by have:=Xo a;omega)) (fun a4=>?_))));have a2:¬(8:Int)<m.imports.length:=fun e=>a2 (Xd e);have a3:¬(60:Int)<m.exports.length:=fun e=>a3 (Xd e);have a4:¬m.pos<0:=fun e=>a4 (Xd e);have hH:sa m=true:=nk.2 ⟨nbP a1,by omega,by omega,by omega⟩;clear hb a1;simp only[Kh];refine⟨⟨0,⟨Kg _,rfl⟩,(by repeat' (first|exact trivial|rfl|apply And.intro))⟩,?_⟩;rintro k ⟨k1,k2⟩;have lk:(m.name::(m.imports.take k).map (·.name)).length=k+1:=by rw[Kq,Lr,LH];omega
 apply aa<;>intro h
 ·have h:=Xo h;have hk:k<m.imports.length:=by omega
  rw[ai m.imports k (dfl (.st .imp)) hk,KR]at k2;have he:(m.name::(m.imports.take k).map (·.name))++[(m.imports.getD k (dfl (.st .imp))).name]=m.name::(m.imports.take (k+1)).map (·.name):=by rw[bQ m.imports k (dfl (.st .imp)) hk,M6];rfl
  have no:(au (m.imports.getD k (dfl (.st .imp))).name=true/\bq (m.imports.getD k (dfl (.st .imp))).pin=0/\gZ (m.imports.getD k (dfl (.st .imp))).range=0/\bB (m.imports.getD k (dfl (.st .imp))).pin (m.imports.getD k (dfl (.st .imp))).range=true/\0<=(m.imports.getD k (dfl (.st .imp))).pos->False)->True/\(100:Int)=bu m/\True:=fun e=>bad (sd (by rw[k2,bF (fun q=>e (qb.1 q))];rfl));refine⟨by omega,aa (fun c=>no (fun e=>nbN c e.1)) (fun c1=>aa (fun c=>no (fun e=>ndN c e.2.1)) (fun c2=>aa (fun c=>no (fun e=>ndN c e.2.2.1)) (fun c3=>?_)))⟩;have c2:bq (m.imports.getD k (dfl (.st .imp))).pin=0:=ndP c2;have c3:gZ (m.imports.getD k (dfl (.st .imp))).range=0:=ndP c3;refine⟨⟨Ld (mF c2) (by decide),fun b hb=>Ld (xW c3 b hb) (by decide)⟩,aa (fun c=>no (fun e=>nbN c e.2.2.2.1)) (fun c4=>aa (fun c=>no (fun e=>by have:=Xo c;omega)) (fun c5=>?_))⟩;have c5:¬(m.imports.getD k (dfl (.st .imp))).pos<0:=fun e=>c5 (Xd e);have yes:gP (m.imports.getD k (dfl (.st .imp)))=true:=qb.2 ⟨nbP c1,c2,c3,nbP c4,by omega⟩;rw[yes,KC]at k2;refine⟨⟨by first|rfl|trivial,by rw[lk,L9];omega⟩,aO (by omega) (by omega),k+1,⟨by omega,k2⟩,by omega,he,by omega,(by repeat' (first|exact trivial|rfl|exact Lu List.length he|apply And.intro))⟩
 have ek:k=m.imports.length:=by have:¬((k:Int)<(m.imports.length:Int)):=fun e=>h (Xd e);omega
 subst ek;rw[Km]at k2;have kI:m.imports.all gP=true:=k2;clear k2;simp only[KW];refine⟨⟨0,⟨Kg _,rfl⟩,(by repeat' (first|exact trivial|rfl|apply And.intro))⟩,?_⟩;rintro j ⟨j1,j2⟩;have lj:(dZ++(m.decls.take j).map (·.name)).length=j+4:=by rw[Kw,Lr,LH];show 4+_=_;omega
 apply aa<;>intro h
 ·have h:=Xo h;have hj:j<m.decls.length:=by omega
  rw[ai m.decls j (dfl (.st .decl)) hj,KR]at j2;have he:(dZ++(m.decls.take j).map (·.name))++[(m.decls.getD j (dfl (.st .decl))).name]=dZ++(m.decls.take (j+1)).map (·.name):=by rw[bQ m.decls j (dfl (.st .decl)) hj,M6,KQ];rfl
  have no:(cY (m.decls.getD j (dfl (.st .decl)))=true/\0<=(m.decls.getD j (dfl (.st .decl))).pos->False)->True/\(100:Int)=bu m/\True:=fun e=>bad (se (by rw[j2,bF (fun q=>e (qc.1 q))];rfl));refine⟨by omega,o1 _ (aP m.decls j _ hj),aa (fun c=>no (fun e=>nbN c e.1)) (fun c1=>aa (fun c=>no (fun e=>by have:=Xo c;omega)) (fun c2=>?_))⟩;have c2:¬(m.decls.getD j (dfl (.st .decl))).pos<0:=fun e=>c2 (Xd e);have yes:gL (m.decls.getD j (dfl (.st .decl)))=true:=qc.2 ⟨nbP c1,by omega⟩;rw[yes,KC]at j2;refine⟨⟨by first|rfl|trivial,by rw[lj,L9];omega⟩,aO (by omega) (by omega),j+1,⟨by omega,j2⟩,by omega,he,by omega,(by repeat' (first|exact trivial|rfl|exact Lu List.length he|apply And.intro))⟩
 have ej:j=m.decls.length:=by have:¬((j:Int)<(m.decls.length:Int)):=fun e=>h (Xd e);omega
 subst ej;rw[Km]at j2;have kD:m.decls.all gL=true:=j2;clear j2;simp only[KW]at lj lk⊢;refine⟨⟨0,⟨Kg _,rfl⟩,(by repeat' (first|exact trivial|rfl|apply And.intro))⟩,?_⟩;rintro i ⟨i1,i2⟩;apply aa<;>intro h
 ·have h:=Xo h;have hi:i<m.exports.length:=by omega
  rw[ai m.exports i (dfl .str) hi,KR]at i2;have yes:fQ (m.exports.getD i (dfl .str))=true->inR .i64 ((i:Int)+1)/\m.exports.all fQ=(m.exports.drop (i+1)).all fQ:=fun e=>⟨aO (by omega) (by omega),by rw[i2,e,KC]⟩;refine⟨by omega,aa (fun c=>aa (fun c2=>?_) (fun c2=>?_)) (fun c=>?_)⟩
  ·have no:fQ (m.exports.getD i (dfl .str))=false:=bF (fun q=>by
    rcases lG.1 q with e|e
    ·exact nbN c e
    ·exact nbN c2 e)
   exact bad (sf (by rw[i2,no];rfl))
  ·obtain⟨y1,y2⟩:=yes (lG.2 (.inr (nbP c2)));exact⟨y1,i+1,⟨by omega,y2⟩,by omega,by omega,(by repeat' (first|exact trivial|rfl|apply And.intro))⟩
  ·obtain⟨y1,y2⟩:=yes (lG.2 (.inl (nbP c)));exact⟨y1,i+1,⟨by omega,y2⟩,by omega,by omega,(by repeat' (first|exact trivial|rfl|apply And.intro))⟩
 have ei:i=m.exports.length:=by have:¬((i:Int)<(m.exports.length:Int)):=fun e=>h (Xd e);omega
 subst ei;rw[Km]at i2;have hE:=GA hH kI kD i2;have e1:Im m=m.name::m.imports.map (·.name):=rfl;have e2:Io m=dZ++m.decls.map (·.name):=rfl;rw[e1,e2]at hE;refine⟨by rw[lk];omega,aa (fun c=>bad ?_) (fun c=>⟨by rw[lj];omega,aa (fun d=>bad ?_) (fun d=>⟨by omega,aa (fun e=>bad ?_) (fun e=>⟨trivial,pk ?_,trivial⟩)⟩)⟩)⟩
 ·have c:decide (m.name::m.imports.map (·.name)).Nodup=false:=by simpa only[Ko]using c
  rw[hE,c,Ki,Ki]
 ·have d:decide (dZ++m.decls.map (·.name)).Nodup=false:=by simpa only[Ko]using d
  rw[hE,d,KJ,Ki]
 ·have e:decide m.exports.Nodup=false:=by simpa only[Ko]using e
  rw[hE,e,KJ]
 ·have c:decide (m.name::m.imports.map (·.name)).Nodup=true:=by simpa only[Ko,Mq]using c
  have d:decide (dZ++m.decls.map (·.name)).Nodup=true:=by simpa only[Ko,Mq]using d
  have e:decide m.exports.Nodup=true:=by simpa only[Ko,Mq]using e
  rw[hE,c,d,e];rfl
theorem Bv(s:Str)(l:List Str)(hl:Wf (.lst .str) l) :
  let A:=s=s/\l=l/\True;let B:=(↑(List.length l):Int);(∃(x:Nat),(x<=List.length l/\decide (s∈l)=decide (s∈List.drop x l))/\(0:Int)=(↑x:Int)/\A)/\∀(x:Nat),let C:=(↑x:Int);x<=List.length l/\decide (s∈l)=decide (s∈List.drop x l)->if decide (C<B)=true then((0:Int)<=C/\C<B)/\if decide (List.getD l (Int.toNat C) (dfl Ty.str)=s)=true then True/\true=decide (s∈l)/\True else inR IntKind.i64 (C+(1:Int))/\∃(y:Nat),(y<=List.length l/\decide (s∈l)=decide (s∈List.drop y l))/\List.length l-y<List.length l-x/\C+(1:Int)=(↑y:Int)/\A else True/\false=decide (s∈l)/\True:=by
 conv=>zeta
 have ln:=hl.len;simp only[Kh,Lt,KV,KI];refine⟨⟨0,⟨Kg _,by simp⟩,rfl⟩,?_⟩;rintro k ⟨h1,h2⟩;apply aa<;>intro h
 ·replace h:=Xo h;have hk:k<l.length:=by omega
  rw[ai l k (dfl .str) hk]at h2;refine⟨by omega,aa (fun a=>?_) (fun a=>?_)⟩
  ·rw[h2,Xo a];simp
  ·refine⟨aw hk ln,k+1,⟨by omega,?_⟩,by omega,by omega⟩;rw[h2,L0,Ks];constructor
   ·rintro(h|h)
    ·exact absurd (Xd h.symm) a
    ·exact h
   ·exact Or.inr
 ·replace h:¬((k:Int)<(l.length:Int)):=fun e=>h (Xd e);have e:k=l.length:=by omega
  subst e;rw[h2,Km];simp
theorem yE(n:Nat)(s:Shape)(hs:Wf (.st .shape) s)(hn:sz s<=n+1) :
  let A:=s=s/\s=s/\True;let B:=(↑(List.length s.parts):Int);let C:=dfl (Ty.st SN.shape);(∃(x:Nat),(x<=List.length s.parts/\allS ao s=(ao s&&allL ao (List.drop x s.parts)))/\(0:Int)=(↑x:Int)/\A)/\∀(x:Nat),let D:=(↑x:Int);let E:=List.getD s.parts (Int.toNat D) C;x<=List.length s.parts/\allS ao s=(ao s&&allL ao (List.drop x s.parts))->if decide (D<B)=true then((0:Int)<=D/\D<B)/\sz E<=n/\if(!allS ao E)=true then True/\true=!allS ao s/\True else inR IntKind.i64 (D+(1:Int))/\∃(y:Nat),(y<=List.length s.parts/\allS ao s=(ao s&&allL ao (List.drop y s.parts)))/\List.length s.parts-y<List.length s.parts-x/\D+(1:Int)=(↑y:Int)/\A else True/\decide (s.kind=(10:Int))=!allS ao s/\True:=by
 conv=>zeta
 have ln:=hs.parts.len;have hz:=iP s;simp only[Kh,Lt,KV,KI];refine⟨⟨0,⟨Kg _,by rw[iQ];rfl⟩,rfl⟩,?_⟩;rintro k ⟨h1,h3⟩;apply aa<;>intro h
 ·replace h:=Xo h;have hk:k<s.parts.length:=by omega
  have hm:=eZ (aP s.parts k (dfl (.st .shape)) hk);rw[ai s.parts k (dfl (.st .shape)) hk]at h3;simp only[allL]at h3;refine⟨by omega,by omega,aa (fun e=>?_) (fun e=>?_)⟩
  ·have e:allS ao (s.parts.getD k (dfl (.st .shape)))=false:=by simpa using e
   rw[e]at h3;rw[h3];simp
  ·have e:allS ao (s.parts.getD k (dfl (.st .shape)))=true:=by simpa using e
   rw[e,KC]at h3;exact⟨aw hk ln,k+1,⟨by omega,h3⟩,by omega,by omega⟩
 ·replace h:¬((k:Int)<(s.parts.length:Int)):=fun e=>h (Xd e);have e:k=s.parts.length:=by omega
  subst e;rw[h3,Km];simp[allL,ao]
theorem Bw(l:List Str)(hl:Wf (.lst .str) l) :
  let A:=(0:Int);let B:=l=l/\True;let C:=(↑(List.length l):Int);(∃(x:Nat),(x<=List.length l/\List.Nodup (List.take x l))/\A=(↑x:Int)/\B)/\∀(x:Nat),let D:=(↑x:Int);x<=List.length l/\List.Nodup (List.take x l)->if decide (D<C)=true then(A<=D/\D<C)/\(A<=A/\A<=D/\D<=C)/\if decide (List.getD l (Int.toNat D) (dfl Ty.str)∈List.drop (Int.toNat A) (List.take (Int.toNat D) l))=true then True/\false=decide (List.Nodup l)/\True else inR IntKind.i64 (D+(1:Int))/\∃(y:Nat),(y<=List.length l/\List.Nodup (List.take y l))/\List.length l-y<List.length l-x/\D+(1:Int)=(↑y:Int)/\B else True/\true=decide (List.Nodup l)/\True:=by
 conv=>zeta
 have ln:=hl.len;simp only[Kh,Mx,LF];refine⟨⟨0,⟨Kg _,NH⟩,(by repeat' (first|exact trivial|rfl|apply And.intro))⟩,?_⟩;rintro k ⟨h1,h2⟩;apply aa<;>intro h
 ·have h:=Xo h;have hk:k<l.length:=by omega
  have ht:=AN hk;refine⟨by omega,by omega,aa (fun c=>?_) (fun c=>?_)⟩
  ·have c:=Xo c;refine⟨trivial,(Xf fun e=>?_).symm,trivial⟩;exact(ht.1 (List.Nodup.sublist (List.take_sublist _ _) e)).2 c
  ·have c:=fun e=>c (Xd e);exact⟨aw hk ln,k+1,⟨by omega,ht.2 ⟨h2,c⟩⟩,by omega,by omega,(by repeat' (first|exact trivial|rfl|apply And.intro))⟩
 ·have e:k=l.length:=by have:¬((k:Int)<(l.length:Int)):=fun e=>h (Xd e);omega
  subst e;rw[KW]at h2;exact⟨trivial,(Xd h2).symm,trivial⟩
theorem EH(d:Dcl)(hd:Wf (.st .decl) d)(ho:bT d=true) :
  let A:=(0:Int);let B:=True;let C:=B/\false=cY d/\B;let D:=if bO d.name=true then if decide (bH d.shape=A)=true then sz d.shape<=(400:Nat)/\if(!!allS ao d.shape)=true then szT d.term<=szT d.term/\B/\eqT d.term {kind:=A,pkg:=[],name:=[],n:=A,names:=[],vars:=[],shapes:=[],parts:=[],pos:=A:Trm} true=cY d/\B else C else C else C;if decide (d.kind=(3:Int))=true then if au d.name=true then dt d.term=true/\if decide (db d.term=A)=true then sz d.shape<=sz d.shape/\B/\eqS d.shape {kind:=A,pkg:=[],name:=[],names:=[],parts:=[]:Shape}=cY d/\B else C else C else if(!decide (d.kind=(1:Int)))=true then if(!decide (d.kind=(2:Int)))=true then C else D else D:=by
 conv=>zeta
 obtain⟨o4,o5⟩:=xV ho;have e1:eqS d.shape ⟨0,[],[],[],[]⟩=noS d.shape:=Jt d.shape;have e2:eqT d.term ⟨0,[],[],0,[],[],[],[],0⟩ true=noT d.term:=Ju d.term;rw[e1,e2]
 have ty:d.kind=1∨d.kind=2->(if bO d.name=true then if decide (bH d.shape=0)=true then sz d.shape<=400/\if(!!allS ao d.shape)=true then szT d.term<=szT d.term/\True/\noT d.term=cY d/\True else True/\false=cY d/\True else True/\false=cY d/\True else True/\false=cY d/\True):=by
  intro k;unfold cY;rw[Kf k,Ng];refine aa (fun a=>aa (fun b=>⟨(iR (Xo b)).1,aa (fun c=>⟨Kn _,trivial,?_,trivial⟩) (fun c=>⟨trivial,?_,trivial⟩)⟩) (fun b=>⟨trivial,?_,trivial⟩)) (fun a=>⟨trivial,?_,trivial⟩)
  ·rw[a,b,c];rfl
  ·rw[bF c,KJ,Ki]
  ·rw[bF b,KJ,Ki,Ki]
  ·rw[bF a,Ki,Ki,Ki]
 refine aa (fun k=>?_) (fun k3=>aa (fun k1=>aa (fun k2=>?_) (fun k2=>ty (.inr (ndP k2)))) (fun k1=>ty (.inl (ndP k1))))
 ·have k:=Xo k;have dk:cY d=(au d.name&&decide (db d.term=0)&&noS d.shape):=by unfold cY;rw[Kb (by omega),Kf k]
  rw[dk];refine aa (fun a=>⟨o4,aa (fun b=>⟨Kn _,trivial,?_,trivial⟩) (fun b=>⟨trivial,?_,trivial⟩)⟩) (fun a=>⟨trivial,?_,trivial⟩)
  ·rw[a,b];rfl
  ·rw[bF b,KJ,Ki]
  ·rw[bF a,Ki,Ki]
 ·refine⟨trivial,?_,trivial⟩;have k1:=ndN k1;have k2:=ndN k2;have k3:¬d.kind=3:=fun e=>k3 (Xd e);unfold cY;rw[Kb (by omega),Kb k3]
theorem Bx(m:Modu)(hm:Wf (.st .modu) m)(ho:(m.decls.all bT=true/\m.decls.length<=1000000)) :
  let A:=True/\(100:Int)=bu m/\True;let B:=(↑(List.length m.imports):Int);let C:=(↑(List.length m.exports):Int);let D:=(0:Int);let E:=(fun(x:Impt)=>x.name);let F:=m=m;let G:=false=false;let H:=F/\True;let I:=dfl (Ty.st SN.imp);let J:=(140737488355328:Nat);let K:=(1:Int);let L:=[([73,110,116]:Str),([66,111,111,108]:Str),([84,101,120,116]:Str),([65,110,121]:Str)];let M:=(fun(x:Dcl)=>x.name);let N:=(↑(List.length m.decls):Int);let O:=dfl (Ty.st SN.decl);if(!au m.name)=true then A else if decide ((8:Int)<B)=true then A else if decide ((60:Int)<C)=true then A else if decide (m.pos<D)=true then A else(∃(x:Nat),let P:=List.take x m.imports;(x<=List.length m.imports/\List.all m.imports gP=List.all (List.drop x m.imports) gP)/\[m.name]=m.name::List.map E P/\D=(↑x:Int)/\F/\G/\List.length [m.name]=List.length (m.name::List.map E P)/\H)/\∀(x:Nat),let P:=(↑x:Int);let Q:=List.take x m.imports;let R:=(m.name::List.map E Q);let S:=List.length R=List.length R;let T:=List.getD m.imports (Int.toNat P) I;let U:=[T.name];let V:=m.name::List.map E Q=m.name::List.map E Q;let W:=P=P;let X:=S/\H;x<=List.length m.imports/\List.all m.imports gP=List.all (List.drop x m.imports) gP->if decide (P<B)=true then(D<=P/\P<B)/\(S/\(List.length R+List.length U)*(16:Nat)<=J)/\if(!au T.name)=true then A else if(!decide (bq T.pin=D))=true then A else if(!decide (gZ T.range=D))=true then A else(List.length T.pin.pre<=(4096:Nat)/\∀(b:Bnd),b∈T.range->List.length b.v.pre<=(4096:Nat))/\if(!bB T.pin T.range)=true then A else if decide (T.pos<D)=true then A else inR IntKind.i64 (P+K)/\∃(y:Nat),let Y:=List.take y m.imports;(y<=List.length m.imports/\List.all m.imports gP=List.all (List.drop y m.imports) gP)/\List.length m.imports-y<List.length m.imports-x/\m.name::List.map E Q++U=m.name::List.map E Y/\P+K=(↑y:Int)/\F/\G/\List.length (m.name::List.map E Q++U)=List.length (m.name::List.map E Y)/\H else(∃(x_1:Nat),let Y:=List.take x_1 m.decls;(x_1<=List.length m.decls/\List.all m.decls gL=List.all (List.drop x_1 m.decls) gL)/\L=dZ++List.map M Y/\D=(↑x_1:Int)/\V/\W/\F/\G/\G/\List.length L=List.length (dZ++List.map M Y)/\X)/\∀(x_1:Nat),let Y:=(↑x_1:Int);let Z:=D<=Y/\Y<N;let a:=List.take x_1 m.decls;let c:=dZ++List.map M a;let d:=List.length c=List.length c;let e:=List.getD m.decls (Int.toNat Y) O;let f:=[e.name];let g:=dZ++List.map M a=dZ++List.map M a/\Y=Y/\V/\W/\F/\G/\G/\G/\d/\X;x_1<=List.length m.decls/\List.all m.decls gL=List.all (List.drop x_1 m.decls) gL->if decide (Y<N)=true then Z/\(d/\(List.length c+List.length f)*(16:Nat)<=J)/\Z/\bT e=true/\if(!cY e)=true then A else Z/\if decide (e.pos<D)=true then A else inR IntKind.i64 (Y+K)/\∃(y:Nat),let h:=List.take y m.decls;(y<=List.length m.decls/\List.all m.decls gL=List.all (List.drop y m.decls) gL)/\List.length m.decls-y<List.length m.decls-x_1/\dZ++List.map M a++f=dZ++List.map M h/\Y+K=(↑y:Int)/\V/\W/\F/\G/\G/\List.length (dZ++List.map M a++f)=List.length (dZ++List.map M h)/\X else(∃(x_2:Nat),(x_2<=List.length m.exports/\List.all m.exports fQ=List.all (List.drop x_2 m.exports) fQ)/\D=(↑x_2:Int)/\g)/\∀(x_2:Nat),let h:=(↑x_2:Int);let i:=D<=h/\h<C;let j:=List.getD m.exports (Int.toNat h) (dfl Ty.str);let k:=inR IntKind.i64 (h+K)/\∃(y:Nat),(y<=List.length m.exports/\List.all m.exports fQ=List.all (List.drop y m.exports) fQ)/\List.length m.exports-y<List.length m.exports-x_2/\h+K=(↑y:Int)/\g;x_2<=List.length m.exports/\List.all m.exports fQ=List.all (List.drop x_2 m.exports) fQ->if decide (h<C)=true then i/\if(!au j)=true then i/\if(!bO j)=true then A else k else k else if(!decide (List.Nodup R))=true then A else if(!decide (List.Nodup c))=true then A else if(!decide (List.Nodup m.exports))=true then A else True/\D=bu m/\True:=by
 conv=>zeta
 have bad:okM m=false->True/\(100:Int)=bu m/\True:=fun e=>⟨trivial,sb e,trivial⟩;have hb:(au m.name=true/\m.imports.length<=8/\m.exports.length<=60/\0<=m.pos->False)->True/\(100:Int)=bu m/\True:=fun e=>bad (pn (bF (fun k=>e (nk.1 k))));obtain⟨o1,o2⟩:=ho;rw[Kp]at o1;refine aa (fun a=>hb (fun e=>nbN a e.1)) (fun a1=>aa (fun a=>hb (fun e=>by have:=Xo a;omega)) (fun a2=>aa (fun a=>hb (fun e=>by have:=Xo a;omega)) (fun a3=>aa (fun a=>hb (fun e=>by have:=Xo a;omega)) (fun a4=>?_))));have a2:¬(8:Int)<m.imports.length:=fun e=>a2 (Xd e);have a3:¬(60:Int)<m.exports.length:=fun e=>a3 (Xd e);have a4:¬m.pos<0:=fun e=>a4 (Xd e);have hH:sa m=true:=nk.2 ⟨nbP a1,by omega,by omega,by omega⟩;clear hb a1;simp only[Kh];refine⟨⟨0,⟨Kg _,rfl⟩,(by repeat' (first|exact trivial|rfl|apply And.intro))⟩,?_⟩;rintro k ⟨k1,k2⟩;have lk:(m.name::(m.imports.take k).map (·.name)).length=k+1:=by rw[Kq,Lr,LH];omega
 apply aa<;>intro h
 ·have h:=Xo h;have hk:k<m.imports.length:=by omega
  rw[ai m.imports k (dfl (.st .imp)) hk,KR]at k2;have he:(m.name::(m.imports.take k).map (·.name))++[(m.imports.getD k (dfl (.st .imp))).name]=m.name::(m.imports.take (k+1)).map (·.name):=by rw[bQ m.imports k (dfl (.st .imp)) hk,M6];rfl
  have no:(au (m.imports.getD k (dfl (.st .imp))).name=true/\bq (m.imports.getD k (dfl (.st .imp))).pin=0/\gZ (m.imports.getD k (dfl (.st .imp))).range=0/\bB (m.imports.getD k (dfl (.st .imp))).pin (m.imports.getD k (dfl (.st .imp))).range=true/\0<=(m.imports.getD k (dfl (.st .imp))).pos->False)->True/\(100:Int)=bu m/\True:=fun e=>bad (sd (by rw[k2,bF (fun q=>e (qb.1 q))];rfl));refine⟨by omega,⟨by first|rfl|trivial,by rw[lk,L9];omega⟩,aa (fun c=>no (fun e=>nbN c e.1)) (fun c1=>aa (fun c=>no (fun e=>ndN c e.2.1)) (fun c2=>aa (fun c=>no (fun e=>ndN c e.2.2.1)) (fun c3=>?_)))⟩;have c2:bq (m.imports.getD k (dfl (.st .imp))).pin=0:=ndP c2;have c3:gZ (m.imports.getD k (dfl (.st .imp))).range=0:=ndP c3;refine⟨⟨Ld (mF c2) (by decide),fun b hb=>Ld (xW c3 b hb) (by decide)⟩,aa (fun c=>no (fun e=>nbN c e.2.2.2.1)) (fun c4=>aa (fun c=>no (fun e=>by have:=Xo c;omega)) (fun c5=>?_))⟩;have c5:¬(m.imports.getD k (dfl (.st .imp))).pos<0:=fun e=>c5 (Xd e);have yes:gP (m.imports.getD k (dfl (.st .imp)))=true:=qb.2 ⟨nbP c1,c2,c3,nbP c4,by omega⟩;rw[yes,KC]at k2;refine⟨aO (by omega) (by omega),k+1,⟨by omega,k2⟩,by omega,he,by omega,(by repeat' (first|exact trivial|rfl|exact Lu List.length he|apply And.intro))⟩
 have ek:k=m.imports.length:=by have:¬((k:Int)<(m.imports.length:Int)):=fun e=>h (Xd e);omega
 subst ek;rw[Km]at k2;have kI:m.imports.all gP=true:=k2;clear k2;simp only[KW];refine⟨⟨0,⟨Kg _,rfl⟩,(by repeat' (first|exact trivial|rfl|apply And.intro))⟩,?_⟩;rintro j ⟨j1,j2⟩;have lj:(dZ++(m.decls.take j).map (·.name)).length=j+4:=by rw[Kw,Lr,LH];show 4+_=_;omega
 apply aa<;>intro h
 ·have h:=Xo h;have hj:j<m.decls.length:=by omega
  rw[ai m.decls j (dfl (.st .decl)) hj,KR]at j2;have he:(dZ++(m.decls.take j).map (·.name))++[(m.decls.getD j (dfl (.st .decl))).name]=dZ++(m.decls.take (j+1)).map (·.name):=by rw[bQ m.decls j (dfl (.st .decl)) hj,M6,KQ];rfl
  have no:(cY (m.decls.getD j (dfl (.st .decl)))=true/\0<=(m.decls.getD j (dfl (.st .decl))).pos->False)->True/\(100:Int)=bu m/\True:=fun e=>bad (se (by rw[j2,bF (fun q=>e (qc.1 q))];rfl));refine⟨by omega,⟨by first|rfl|trivial,by rw[lj,L9];omega⟩,by omega,o1 _ (aP m.decls j _ hj),aa (fun c=>no (fun e=>nbN c e.1)) (fun c1=>⟨by omega,aa (fun c=>no (fun e=>by have:=Xo c;omega)) (fun c2=>?_)⟩)⟩;have c2:¬(m.decls.getD j (dfl (.st .decl))).pos<0:=fun e=>c2 (Xd e);have yes:gL (m.decls.getD j (dfl (.st .decl)))=true:=qc.2 ⟨nbP c1,by omega⟩;rw[yes,KC]at j2;refine⟨aO (by omega) (by omega),j+1,⟨by omega,j2⟩,by omega,he,by omega,(by repeat' (first|exact trivial|rfl|exact Lu List.length he|apply And.intro))⟩
 have ej:j=m.decls.length:=by have:¬((j:Int)<(m.decls.length:Int)):=fun e=>h (Xd e);omega
 subst ej;rw[Km]at j2;have kD:m.decls.all gL=true:=j2;clear j2;simp only[KW]at lj lk⊢;refine⟨⟨0,⟨Kg _,rfl⟩,(by repeat' (first|exact trivial|rfl|apply And.intro))⟩,?_⟩;rintro i ⟨i1,i2⟩;apply aa<;>intro h
 ·have h:=Xo h;have hi:i<m.exports.length:=by omega
  rw[ai m.exports i (dfl .str) hi,KR]at i2;have yes:fQ (m.exports.getD i (dfl .str))=true->inR .i64 ((i:Int)+1)/\m.exports.all fQ=(m.exports.drop (i+1)).all fQ:=fun e=>⟨aO (by omega) (by omega),by rw[i2,e,KC]⟩;refine⟨by omega,aa (fun c=>⟨by omega,aa (fun c2=>?_) (fun c2=>?_)⟩) (fun c=>?_)⟩
  ·have no:fQ (m.exports.getD i (dfl .str))=false:=bF (fun q=>by
    rcases lG.1 q with e|e
    ·exact nbN c e
    ·exact nbN c2 e)
   exact bad (sf (by rw[i2,no];rfl))
  ·obtain⟨y1,y2⟩:=yes (lG.2 (.inr (nbP c2)));exact⟨y1,i+1,⟨by omega,y2⟩,by omega,by omega,(by repeat' (first|exact trivial|rfl|apply And.intro))⟩
  ·obtain⟨y1,y2⟩:=yes (lG.2 (.inl (nbP c)));exact⟨y1,i+1,⟨by omega,y2⟩,by omega,by omega,(by repeat' (first|exact trivial|rfl|apply And.intro))⟩
 have ei:i=m.exports.length:=by have:¬((i:Int)<(m.exports.length:Int)):=fun e=>h (Xd e);omega
 subst ei;rw[Km]at i2;have hE:=GA hH kI kD i2;have e1:Im m=m.name::m.imports.map (·.name):=rfl;have e2:Io m=dZ++m.decls.map (·.name):=rfl;rw[e1,e2]at hE;refine aa (fun c=>bad ?_) (fun c=>aa (fun d=>bad ?_) (fun d=>aa (fun e=>bad ?_) (fun e=>⟨trivial,pk ?_,trivial⟩)))
 ·have c:decide (m.name::m.imports.map (·.name)).Nodup=false:=by simpa only[Ko]using c
  rw[hE,c,Ki,Ki]
 ·have d:decide (dZ++m.decls.map (·.name)).Nodup=false:=by simpa only[Ko]using d
  rw[hE,d,KJ,Ki]
 ·have e:decide m.exports.Nodup=false:=by simpa only[Ko]using e
  rw[hE,e,KJ]
 ·have c:decide (m.name::m.imports.map (·.name)).Nodup=true:=by simpa only[Ko,Mq]using c
  have d:decide (dZ++m.decls.map (·.name)).Nodup=true:=by simpa only[Ko,Mq]using d
  have e:decide m.exports.Nodup=true:=by simpa only[Ko,Mq]using e
  rw[hE,c,d,e];rfl
theorem EI(l:List Str)(ho:l.length *16<=140737488355328) :
  let A:=(List.mergeSort l fun(x y:Str)=>decide (x<=y));List.length l*(16:Nat)<=(140737488355328:Nat)/\List.length A=List.length A/\True/\decide ((↑(List.length (Lib.compact A)):Int)=(↑(List.length l):Int))=decide (List.Nodup l)/\True:=by
 conv=>zeta
 have hc:=fM l;unfold eK at hc;refine⟨ho,rfl,trivial,?_,trivial⟩;rw[L0,<-hc];omega
theorem EJ(n:Nat)(m:List (Nam×Int))(s:Shape)(hs:Wf (.st .shape) s)(ho:sz s<=n+1/\m.length+(useS s).length<=9000000000000000000) :
  let A:=(0:Int);let B:=(↑(mix m {pkg:=s.pkg,name:=s.name:Nam}):Int);let C:=(dF m {pkg:=s.pkg,name:=s.name:Nam});let D:=(dA m {pkg:=s.pkg,name:=s.name:Nam} (Option.getD C A));let E:=s=s;let F:=s.parts=s.parts;let G:=(↑(List.length s.parts):Int);let H:=(1:Int);let I:=aI m (hU s);let J:=E/\True;let K:=dfl (Ty.st SN.shape);let L:=(9000000000000000000:Nat);let M:=(∃(x:Nat),x<=List.length s.parts/\A=(↑x:Int)/\E/\false=false/\F/\G=G/\m=aI I (useSL (List.take x s.parts))/\J)/\∀(x:Nat),let N:=(↑x:Int);let O:=List.getD s.parts (Int.toNat N) K;let P:=useSL (List.take x s.parts);x<=List.length s.parts->if decide (N<G)=true then(A<=N/\N<G)/\(sz O<=n/\List.length (aI I P)+List.length (useS O)<=L)/\inR IntKind.i64 (N+H)/\∃(y:Nat),y<=List.length s.parts/\List.length s.parts-y<List.length s.parts-x/\N+H=(↑y:Int)/\E/\false=false/\F/\G=G/\aI (aI I P) (useS O)=aI I (useSL (List.take y s.parts))/\J else True/\aI I P=aI m (useS s)/\True;if decide (s.kind=(9:Int))=true then if(!decide (s.pkg=[]))=true then List.length m<=(9223372036854775807:Nat)/\(A<=B/\Int.toNat B<List.length D)/\(∃(x:Nat),x<=List.length s.parts/\A=(↑x:Int)/\E/\true=true/\F/\G=G/\gM D (Int.toNat B) (IntKind.wrap IntKind.i64 (Option.getD C A+H))=aI I (useSL (List.take x s.parts))/\J)/\∀(x:Nat),let N:=(↑x:Int);let O:=List.getD s.parts (Int.toNat N) K;let P:=useSL (List.take x s.parts);x<=List.length s.parts->if decide (N<G)=true then(A<=N/\N<G)/\(sz O<=n/\List.length (aI I P)+List.length (useS O)<=L)/\inR IntKind.i64 (N+H)/\∃(y:Nat),y<=List.length s.parts/\List.length s.parts-y<List.length s.parts-x/\N+H=(↑y:Int)/\E/\true=true/\F/\G=G/\aI (aI I P) (useS O)=aI I (useSL (List.take y s.parts))/\J else True/\aI I P=aI m (useS s)/\True else M else M:=by
 conv=>zeta
 have ln:=hs.parts.len;obtain⟨o1,o2⟩:=ho;have hz:=iP s;have hu:useS s=hU s++useSL s.parts:=CA s;rw[hu,Kw]at o2
 have tail:∀x:Nat,x<=s.parts.length->if decide ((x:Int)<(s.parts.length:Int))=true then((0:Int)<=(x:Int)/\(x:Int)<(s.parts.length:Int))/\(sz (s.parts.getD x (dfl (.st .shape)))<=n/\(aI (aI m (hU s)) (useSL (s.parts.take x))).length+(useS (s.parts.getD x (dfl (.st .shape)))).length<=9000000000000000000)/\inR .i64 ((x:Int)+1)/\∃y:Nat,y<=s.parts.length/\s.parts.length-y<s.parts.length-x/\(x:Int)+1=(y:Int)/\aI (aI (aI m (hU s)) (useSL (s.parts.take x))) (useS (s.parts.getD x (dfl (.st .shape))))=aI (aI m (hU s)) (useSL (s.parts.take y))else aI (aI m (hU s)) (useSL (s.parts.take x))=aI m (useS s):=by
  intro k h1;apply aa<;>intro h
  ·replace h:=Xo h;have hk:k<s.parts.length:=by omega
   have hm:=eZ (aP s.parts k (dfl (.st .shape)) hk);have ht:=jU s.parts k (dfl (.st .shape)) hk;have l1:=eP (useSL (s.parts.take k)) (aI m (hU s));have l2:=eP (hU s) m;have l3:=ny s.parts (k+1);rw[ht,Kw]at l3;exact⟨by omega,⟨by omega,by omega⟩,aw hk ln,k+1,by omega,by omega,by omega,by rw[ht,gI]⟩
  ·have e:k=s.parts.length:=by have:¬((k:Int)<(s.parts.length:Int)):=fun e=>h (Xd e);omega
   rw[e,KW,hu,gI]
 simp only[Kh,Lt,KV,KI];refine aa (fun h1=>aa (fun h2=>?_) (fun h2=>?_)) (fun h1=>?_)
 ·have h1:=Xo h1;have h2:s.pkg≠[]:=by simpa using h2
  have ho:hU s=[⟨s.pkg,s.name⟩]:=Kf ⟨h1,h2⟩;rw[ho]at tail o2⊢;refine⟨by omega,⟨by omega,B4 _ _ _⟩,⟨0,Kg _,rfl,?_⟩,tail⟩;rw[mJ];rfl
 ·have h2:s.pkg=[]:=by simpa using h2
  have ho:hU s=[]:=Kb fun q=>q.2 h2;rw[ho]at tail⊢;exact⟨⟨0,Kg _,rfl,rfl⟩,tail⟩
 ·have ho:hU s=[]:=Kb fun q=>h1 (Xd q.1);rw[ho]at tail⊢;exact⟨⟨0,Kg _,rfl,rfl⟩,tail⟩
theorem Hw(N n:Nat)(m:List (Nam×Int))(t:Trm)(ht:Wf (.st .term) t)(ho:szT t<=n+1/\allT (mxU N) t=true/\m.length+(useT t).length<=9000000000000000000) :
  let A:=(0:Int);let B:=(↑(mix m {pkg:=t.pkg,name:=t.name:Nam}):Int);let C:=(dF m {pkg:=t.pkg,name:=t.name:Nam});let D:=(dA m {pkg:=t.pkg,name:=t.name:Nam} (Option.getD C A));let E:=t=t;let F:=true=true;let G:=t.shapes=t.shapes;let H:=(↑(List.length t.shapes):Int);let I:=H=H;let J:=(1:Int);let K:=aI m (cC t);let L:=E/\True;let M:=dfl (Ty.st SN.shape);let O:=(9000000000000000000:Nat);let P:=false=false;let Q:=t.parts=t.parts;let R:=(↑(List.length t.parts):Int);let S:=aI K (useSL t.shapes);let T:=dfl (Ty.st SN.term);let U:=(∃(x:Nat),x<=List.length t.shapes/\A=(↑x:Int)/\E/\P/\G/\I/\m=aI K (useSL (List.take x t.shapes))/\L)/\∀(x:Nat),let V:=(↑x:Int);let W:=List.getD t.shapes (Int.toNat V) M;let X:=useSL (List.take x t.shapes);x<=List.length t.shapes->if decide (V<H)=true then(A<=V/\V<H)/\(sz W<=N/\List.length (aI K X)+List.length (useS W)<=O)/\inR IntKind.i64 (V+J)/\∃(y:Nat),y<=List.length t.shapes/\List.length t.shapes-y<List.length t.shapes-x/\V+J=(↑y:Int)/\E/\P/\G/\I/\aI (aI K X) (useS W)=aI K (useSL (List.take y t.shapes))/\L else(∃(x_1:Nat),x_1<=List.length t.parts/\A=(↑x_1:Int)/\V=V/\E/\P/\G/\I/\P/\Q/\R=R/\aI K X=aI S (useTL (List.take x_1 t.parts))/\L)/\∀(x_1:Nat),let Y:=(↑x_1:Int);let Z:=List.getD t.parts (Int.toNat Y) T;let a:=useTL (List.take x_1 t.parts);x_1<=List.length t.parts->if decide (Y<R)=true then(A<=Y/\Y<R)/\(szT Z<=n/\allT (mxU N) Z=true/\List.length (aI S a)+List.length (useT Z)<=O)/\inR IntKind.i64 (Y+J)/\∃(y:Nat),y<=List.length t.parts/\List.length t.parts-y<List.length t.parts-x_1/\Y+J=(↑y:Int)/\V=V/\E/\P/\G/\I/\P/\Q/\R=R/\aI (aI S a) (useT Z)=aI S (useTL (List.take y t.parts))/\L else True/\aI S a=aI m (useT t)/\True;if decide (t.kind=(5:Int))=true then if(!decide (t.pkg=[]))=true then List.length m<=(9223372036854775807:Nat)/\(A<=B/\Int.toNat B<List.length D)/\(∃(x:Nat),x<=List.length t.shapes/\A=(↑x:Int)/\E/\F/\G/\I/\gM D (Int.toNat B) (IntKind.wrap IntKind.i64 (Option.getD C A+J))=aI K (useSL (List.take x t.shapes))/\L)/\∀(x:Nat),let V:=(↑x:Int);let W:=List.getD t.shapes (Int.toNat V) M;let X:=useSL (List.take x t.shapes);x<=List.length t.shapes->if decide (V<H)=true then(A<=V/\V<H)/\(sz W<=N/\List.length (aI K X)+List.length (useS W)<=O)/\inR IntKind.i64 (V+J)/\∃(y:Nat),y<=List.length t.shapes/\List.length t.shapes-y<List.length t.shapes-x/\V+J=(↑y:Int)/\E/\F/\G/\I/\aI (aI K X) (useS W)=aI K (useSL (List.take y t.shapes))/\L else(∃(x_1:Nat),x_1<=List.length t.parts/\A=(↑x_1:Int)/\V=V/\E/\F/\G/\I/\P/\Q/\R=R/\aI K X=aI S (useTL (List.take x_1 t.parts))/\L)/\∀(x_1:Nat),let Y:=(↑x_1:Int);let Z:=List.getD t.parts (Int.toNat Y) T;let a:=useTL (List.take x_1 t.parts);x_1<=List.length t.parts->if decide (Y<R)=true then(A<=Y/\Y<R)/\(szT Z<=n/\allT (mxU N) Z=true/\List.length (aI S a)+List.length (useT Z)<=O)/\inR IntKind.i64 (Y+J)/\∃(y:Nat),y<=List.length t.parts/\List.length t.parts-y<List.length t.parts-x_1/\Y+J=(↑y:Int)/\V=V/\E/\F/\G/\I/\P/\Q/\R=R/\aI (aI S a) (useT Z)=aI S (useTL (List.take y t.parts))/\L else True/\aI S a=aI m (useT t)/\True else U else U:=by
 conv=>zeta
 have ls:=ht.term_shapes.len;have lp:=ht.term_parts.len;obtain⟨o1,o3,o2⟩:=ho;have hz:=gi t;have hu:useT t=cC t++(useSL t.shapes++useTL t.parts):=qa t;rw[hu,Kw,Kw]at o2;rw[allT_eq,Ka,allTL_all,Kp]at o3;have o4:=o3.1;rw[mxU,Kp]at o4;have l2:=eP (cC t) m
 have tail2:∀x:Nat,x<=t.parts.length->if decide ((x:Int)<(t.parts.length:Int))=true then((0:Int)<=(x:Int)/\(x:Int)<(t.parts.length:Int))/\(szT (t.parts.getD x (dfl (.st .term)))<=n/\allT (mxU N) (t.parts.getD x (dfl (.st .term)))=true/\(aI (aI (aI m (cC t)) (useSL t.shapes)) (useTL (t.parts.take x))).length+(useT (t.parts.getD x (dfl (.st .term)))).length<=9000000000000000000)/\inR .i64 ((x:Int)+1)/\∃y:Nat,y<=t.parts.length/\t.parts.length-y<t.parts.length-x/\(x:Int)+1=(y:Int)/\aI (aI (aI (aI m (cC t)) (useSL t.shapes)) (useTL (t.parts.take x))) (useT (t.parts.getD x (dfl (.st .term))))=aI (aI (aI m (cC t)) (useSL t.shapes)) (useTL (t.parts.take y))else aI (aI (aI m (cC t)) (useSL t.shapes)) (useTL (t.parts.take x))=aI m (useT t):=by
  intro k h1;apply aa<;>intro h
  ·replace h:=Xo h;have hk:k<t.parts.length:=by omega
   have hmm:=aP t.parts k (dfl (.st .term)) hk;have hm:=eV hmm;have hh:=sw t.parts k (dfl (.st .term)) hk;have l1:=eP (useTL (t.parts.take k)) (aI (aI m (cC t)) (useSL t.shapes));have l5:=eP (useSL t.shapes) (aI m (cC t));have l3:=yl t.parts (k+1);rw[hh,Kw]at l3;exact⟨by omega,⟨by omega,o3.2 _ hmm,by omega⟩,aw hk lp,k+1,by omega,by omega,by omega,by rw[hh,gI (aI (aI m (cC t)) (useSL t.shapes))]⟩
  ·have e:k=t.parts.length:=by have:¬((k:Int)<(t.parts.length:Int)):=fun e=>h (Xd e);omega
   rw[e,KW,hu,gI,gI]
 have tail:∀x:Nat,x<=t.shapes.length->if decide ((x:Int)<(t.shapes.length:Int))=true then((0:Int)<=(x:Int)/\(x:Int)<(t.shapes.length:Int))/\(sz (t.shapes.getD x (dfl (.st .shape)))<=N/\(aI (aI m (cC t)) (useSL (t.shapes.take x))).length+(useS (t.shapes.getD x (dfl (.st .shape)))).length<=9000000000000000000)/\inR .i64 ((x:Int)+1)/\∃y:Nat,y<=t.shapes.length/\t.shapes.length-y<t.shapes.length-x/\(x:Int)+1=(y:Int)/\aI (aI (aI m (cC t)) (useSL (t.shapes.take x))) (useS (t.shapes.getD x (dfl (.st .shape))))=aI (aI m (cC t)) (useSL (t.shapes.take y))else(∃z:Nat,z<=t.parts.length/\(0:Int)=(z:Int)/\aI (aI m (cC t)) (useSL (t.shapes.take x))=aI (aI (aI m (cC t)) (useSL t.shapes)) (useTL (t.parts.take z)))/\∀q:Nat,q<=t.parts.length->if decide ((q:Int)<(t.parts.length:Int))=true then((0:Int)<=(q:Int)/\(q:Int)<(t.parts.length:Int))/\(szT (t.parts.getD q (dfl (.st .term)))<=n/\allT (mxU N) (t.parts.getD q (dfl (.st .term)))=true/\(aI (aI (aI m (cC t)) (useSL t.shapes)) (useTL (t.parts.take q))).length+(useT (t.parts.getD q (dfl (.st .term)))).length<=9000000000000000000)/\inR .i64 ((q:Int)+1)/\∃y:Nat,y<=t.parts.length/\t.parts.length-y<t.parts.length-q/\(q:Int)+1=(y:Int)/\aI (aI (aI (aI m (cC t)) (useSL t.shapes)) (useTL (t.parts.take q))) (useT (t.parts.getD q (dfl (.st .term))))=aI (aI (aI m (cC t)) (useSL t.shapes)) (useTL (t.parts.take y))else aI (aI (aI m (cC t)) (useSL t.shapes)) (useTL (t.parts.take q))=aI m (useT t):=by
  intro k h1;apply aa<;>intro h
  ·replace h:=Xo h;have hk:k<t.shapes.length:=by omega
   have hmm:=aP t.shapes k (dfl (.st .shape)) hk;have hh:=jU t.shapes k (dfl (.st .shape)) hk;have l1:=eP (useSL (t.shapes.take k)) (aI m (cC t));have l3:=ny t.shapes (k+1);rw[hh,Kw]at l3;exact⟨by omega,⟨Xo (o4 _ hmm),by omega⟩,aw hk ls,k+1,by omega,by omega,by omega,by rw[hh,gI (aI m (cC t))]⟩
  ·have e:k=t.shapes.length:=by have:¬((k:Int)<(t.shapes.length:Int)):=fun e=>h (Xd e);omega
   exact⟨⟨0,Kg _,rfl,by rw[e,KW];rfl⟩,tail2⟩
 clear tail2 o3 o4;simp only[Kh,Lt,KV,KI];refine aa (fun h1=>aa (fun h2=>?_) (fun h2=>?_)) (fun h1=>?_)
 ·have h1:=Xo h1;have h2:t.pkg≠[]:=by simpa using h2
  have ho:cC t=[⟨t.pkg,t.name⟩]:=Kf ⟨h1,h2⟩;rw[ho]at tail o2⊢;refine⟨by omega,⟨by omega,B4 _ _ _⟩,⟨0,Kg _,rfl,?_⟩,tail⟩;rw[mJ];rfl
 ·have h2:t.pkg=[]:=by simpa using h2
  have ho:cC t=[]:=Kb fun q=>q.2 h2;rw[ho]at tail⊢;exact⟨⟨0,Kg _,rfl,rfl⟩,tail⟩
 ·have ho:cC t=[]:=Kb fun q=>h1 (Xd q.1);rw[ho]at tail⊢;exact⟨⟨0,Kg _,rfl,rfl⟩,tail⟩
theorem Hx(m:List (Nam×Int))  :
  True/\m=m/\True:=by
 exact Xr
theorem Hy(m:Modu)(hm:Wf (.st .modu) m)(ho:m.decls.all bT=true/\m.decls.length<=60) :
  let A:=(0:Int);let B:=bu m=A;let C:=m.decls=m.decls;let D:=(↑(List.length m.decls):Int);let E:=m=m/\True;let F:=dfl (Ty.st SN.decl);let G:=(9000000000000000000:Nat);(List.all m.decls bT=true/\List.length m.decls<=(1000000:Nat))/\if(!decide (B))=true then True/\bV m=[]/\True else(∃(x:Nat),(B/\x<=List.length m.decls)/\A=(↑x:Int)/\m=m/\false=false/\C/\D=D/\[]=aI [] (cz (List.take x m.decls))/\E)/\∀(x:Nat),let H:=(↑x:Int);let I:=List.getD m.decls (Int.toNat H) F;let J:=aI [] (cz (List.take x m.decls));let K:=useS I.shape;B/\x<=List.length m.decls->if decide (H<D)=true then(A<=H/\H<D)/\(sz I.shape<=(400:Nat)/\List.length J+List.length K<=G)/\(szT I.term<=(4096:Nat)/\allT (mxU (400:Nat)) I.term=true/\List.length (aI J K)+List.length (useT I.term)<=G)/\inR IntKind.i64 (H+(1:Int))/\∃(y:Nat),(B/\y<=List.length m.decls)/\List.length m.decls-y<List.length m.decls-x/\H+(1:Int)=(↑y:Int)/\m=m/\false=false/\C/\D=D/\aI (aI J K) (useT I.term)=aI [] (cz (List.take y m.decls))/\E else List.length J*(32:Nat)<=(140737488355328:Nat)/\True/\fO (List.map (fun(x:den (Ty.st SN.nm)×den (Ty.int IntKind.i64))=>x.1) J)=bV m/\True:=by
 conv=>zeta
 obtain⟨o1,o2⟩:=ho;have ld:=hm.modu_decls.len;simp only[Kh,Lt,KV,KI];refine⟨⟨o1,by omega⟩,aa (fun h=>?_) (fun h=>?_)⟩
 ·exact Kb fun e=>by rw[Xd e]at h;cases h
 have h:bu m=0:=by simpa using h
 obtain⟨q1,q2⟩:=sy h o2;refine⟨⟨0,⟨h,Kg _⟩,rfl,rfl⟩,?_⟩;rintro k ⟨_,h1⟩;apply aa<;>intro c
 ·have c:=Xo c;have hk:k<m.decls.length:=by omega
  obtain⟨u1,u2,u3,u4⟩:=q1 _ (aP m.decls k (dfl (.st .decl)) hk);have l1:=eP (cz (m.decls.take k)) [];have l2:=eP (useS (m.decls.getD k (dfl (.st .decl))).shape) (aI [] (cz (m.decls.take k)));have l3:=yn m.decls k;have ht:=sx m.decls k (dfl (.st .decl)) hk;rw[px,Kw]at u4;rw[KT]at l1;exact⟨by omega,⟨u1,by omega⟩,⟨u2,u3,by omega⟩,aw hk ld,k+1,⟨h,by omega⟩,by omega,by omega,by rw[ht,gI,px,gI]⟩
 ·have e:k=m.decls.length:=by have:¬((k:Int)<(m.decls.length:Int)):=fun e=>c (Xd e);omega
  subst e;rw[KW];have l1:=eP (cz m.decls) [];rw[KT]at l1;exact⟨by omega,GW h⟩
theorem EK(u:Nam)(x:Impt)  :
  True/\decide (u.pkg=x.name)=!pL x u/\x=x/\True:=by
 exact⟨trivial,(Ng _).symm,rfl,trivial⟩
theorem EL(l:List Nam)(x:Impt)(hl:Wf (.lst (.st .nm)) l) :
  let A:=pL x;let B:=(0:Nat);let C:=(↑(List.length l):Int);let D:=x=x/\True;let E:=l=l/\C=C/\D;(∃(x_1:Nat),(x_1<=List.length l/\b9 A (List.drop x_1 l) x_1=b9 A l B)/\(0:Int)=(↑x_1:Int)/\E)/\∀(x_1:Nat),let F:=(↑x_1:Int);x_1<=List.length l/\b9 A (List.drop x_1 l) x_1=b9 A l B->if decide (F<C)=true then((0:Int)<=F/\F<C)/\if(!pL x (List.getD l (Int.toNat F) (dfl (Ty.st SN.nm))))=true then True/\F=b9 A l B/\D else inR IntKind.i64 (F+(1:Int))/\∃(y:Nat),(y<=List.length l/\b9 A (List.drop y l) y=b9 A l B)/\List.length l-y<List.length l-x_1/\F+(1:Int)=(↑y:Int)/\E else True/\(-1:Int)=b9 A l B/\D:=by
 conv=>zeta
 have ln:=hl.len;simp only[Kh,Lt,KV,KI];refine⟨⟨0,⟨Kg _,by simp⟩,rfl⟩,?_⟩;rintro k ⟨h1,h2⟩;apply aa<;>intro h
 ·replace h:=Xo h;have hk:k<l.length:=by omega
  rw[ai l k (dfl (.st .nm)) hk,b9]at h2;refine⟨by omega,aa (fun c=>?_) (fun c=>?_)⟩
  ·have c:pL x (l.getD k (dfl (.st .nm)))=false:=by simpa using c
   rw[c,Kb Lz]at h2;exact h2
  ·have c:pL x (l.getD k (dfl (.st .nm)))=true:=by simpa using c
   rw[Kf c]at h2;exact⟨aw hk ln,k+1,⟨by omega,h2⟩,by omega,by omega⟩
 ·replace h:¬((k:Int)<(l.length:Int)):=fun e=>h (Xd e);have e:k=l.length:=by omega
  subst e;rw[Km,b9]at h2;exact h2
theorem EM(l:List Nam)(x:Impt)  :
  True/\decide ((0:Int)<=b9 (pL x) l (0:Nat))=eQ l x/\x=x/\True:=by
 exact⟨trivial,(iA _ l 0).trans (Eb l x),rfl,trivial⟩
theorem Hz(m:Modu)(hm:Wf (.st .modu) m)(ho:m.decls.all bT=true/\m.decls.length<=60/\m.imports.length<=20) :
  let A:=List.all m.decls bT=true;let B:=(0:Int);let C:=bu m=B;let D:=bV m;let E:=bV m=bV m;let F:=false=false;let G:=m.imports=m.imports;let H:=(↑(List.length m.imports):Int);let I:=m=m/\True;let J:=dfl (Ty.st SN.imp);let K:=(1:Int);(A/\List.length m.decls<=(60:Nat))/\(A/\List.length m.decls<=(1000000:Nat))/\if(!decide (C))=true then True/\mf m=[]/\True else(∃(x:Nat),let L:=List.take x m.imports;(C/\x<=List.length m.imports)/\bC D L=[]/\B=(↑x:Int)/\m=m/\E/\F/\G/\H=H/\List.length (bC D L)=(0:Nat)/\I)/\∀(x:Nat),let L:=(↑x:Int);let M:=List.getD m.imports (Int.toNat L) J;let N:=List.take x m.imports;let O:=bC D N;let P:=[M.name];let Q:=inR IntKind.i64 (L+K);C/\x<=List.length m.imports->if decide (L<H)=true then(B<=L/\L<H)/\if(!eQ D M)=true then(List.length O=List.length O/\(List.length O+List.length P)*(16:Nat)<=(140737488355328:Nat))/\Q/\∃(y:Nat),let R:=List.take y m.imports;(C/\y<=List.length m.imports)/\List.length m.imports-y<List.length m.imports-x/\bC D N++P=bC D R/\L+K=(↑y:Int)/\m=m/\E/\F/\G/\H=H/\List.length (bC D N++P)=List.length (bC D R)/\I else Q/\∃(y:Nat),let R:=List.take y m.imports;(C/\y<=List.length m.imports)/\List.length m.imports-y<List.length m.imports-x/\bC D N=bC D R/\L+K=(↑y:Int)/\m=m/\E/\F/\G/\H=H/\List.length O=List.length (bC D R)/\I else True/\bC D N=mf m/\True:=by
 conv=>zeta
 obtain⟨o1,o2,o3⟩:=ho;have li:=hm.modu_imports.len;have fin:bu m=0->mf m=bC (bV m) m.imports:=fun e=>Kf e;simp only[Kh,Lt,KV,KI];refine⟨⟨o1,o2⟩,⟨o1,by omega⟩,aa (fun h=>?_) (fun h=>?_)⟩
 ·exact Kb fun e=>by rw[Xd e]at h;cases h
 have h:bu m=0:=by simpa using h
 refine⟨⟨0,⟨h,Kg _⟩,rfl,rfl,rfl⟩,?_⟩;rintro k ⟨_,h1⟩;apply aa<;>intro c
 ·have c:=Xo c;have hk:k<m.imports.length:=by omega
  have ht:=sA (bV m) m.imports k (dfl (.st .imp)) hk;have hn:=oM (bV m) (m.imports.take k);rw[LH]at hn;refine⟨by omega,aa (fun f=>?_) (fun f=>?_)⟩
  ·have f:¬eQ (bV m) (m.imports.getD k (dfl (.st .imp)))=true:=fun g=>by rw[g]at f;cases f
   rw[Kb f]at ht;exact⟨by rw[L9];omega,aw hk li,k+1,⟨h,by omega⟩,by omega,ht.symm,by omega,by rw[ht]⟩
  ·have f:eQ (bV m) (m.imports.getD k (dfl (.st .imp)))=true:=by simpa using f
   rw[Kf f]at ht;exact⟨aw hk li,k+1,⟨h,by omega⟩,by omega,ht.symm,by omega,by rw[ht]⟩
 ·have e:k=m.imports.length:=by have:¬((k:Int)<(m.imports.length:Int)):=fun e=>c (Xd e);omega
  rw[fin h,e,KW]
theorem HA(l:List Nam)(g q:Str)(hl:Wf (.lst (.st .nm)) l)(ho:l.length<=1000000000000) :
  let A:=(0:Int);let B:=True;let C:=l=l/\g=g/\q=q/\B;let D:=(↑(List.length l):Int);let E:=dfl (Ty.st SN.nm);let F:=(1:Int);let G:=B/\l=cA l {pkg:=g,name:=q:Nam}/\B;let H:=A<=A;let I:=([]:List Nam);let J:=List.length I=List.length I;let K:=Int.toNat A;let L:=(32:Nat);let M:=(140737488355328:Nat);let N:=[{pkg:=g,name:=q:Nam}];let O:=D<=D;let P:=List.take (Int.toNat D) l;(∃(x:Nat),(x<=List.length l/\cA l {pkg:=g,name:=q:Nam}=List.take x l++cA (List.drop x l) {pkg:=g,name:=q:Nam})/\A=(↑x:Int)/\C)/\∀(x:Nat),let Q:=(↑x:Int);let R:=A<=Q/\Q<D;let S:=Int.toNat Q;let T:=List.getD l S E;let U:=inR IntKind.i64 (Q+F)/\∃(y:Nat),(y<=List.length l/\cA l {pkg:=g,name:=q:Nam}=List.take y l++cA (List.drop y l) {pkg:=g,name:=q:Nam})/\List.length l-y<List.length l-x/\Q+F=(↑y:Int)/\C;let V:=List.take S l;let W:=[]++List.drop K V;let X:=[]++List.drop K V++N;let Y:=(H/\A<=Q/\Q<=D)/\(J/\(List.length I+List.length (List.drop K V))*L<=M)/\(List.length W=List.length W/\(List.length W+List.length N)*L<=M)/\(A<=Q/\Q<=D/\O)/\(List.length X=List.length X/\(List.length X+List.length (List.drop S P))*L<=M)/\B/\[]++List.drop K V++N++List.drop S P=cA l {pkg:=g,name:=q:Nam}/\B;let Z:=if decide (Q<D)=true then R/\if decide (T.pkg=g)=true then R/\if decide (T.name=q)=true then G else Y else Y else Y;x<=List.length l/\cA l {pkg:=g,name:=q:Nam}=List.take x l++cA (List.drop x l) {pkg:=g,name:=q:Nam}->if decide (Q<D)=true then R/\if Op.bytesLess T.pkg g=true then U else R/\if decide (T.pkg=g)=true then R/\if Op.bytesLess T.name q=true then U else Z else Z else Z:=by
 conv=>zeta
 have ln:=hl.len;have t0:((0:Int)=((0:Nat):Int)):=rfl;refine⟨⟨0,⟨Kg _,by simp⟩,(by repeat' (first|exact trivial|rfl|apply And.intro))⟩,?_⟩;rintro x ⟨h1,h2⟩
 have key:∀(n:x<l.length->ltU (l.getD x (dfl (.st .nm))) ⟨g,q⟩=false),if decide ((x:Int)<(l.length:Int))=true then((0:Int)<=(x:Int)/\(x:Int)<(l.length:Int))/\if decide ((l.getD (Int.toNat (x:Int)) (dfl (.st .nm))).pkg=g)=true then((0:Int)<=(x:Int)/\(x:Int)<(l.length:Int))/\if decide ((l.getD (Int.toNat (x:Int)) (dfl (.st .nm))).name=q)=true then True/\l=cA l ⟨g,q⟩/\True else GU l g q x else GU l g q x else GU l g q x:=by
  intro n;refine aa (fun a=>?_) (fun a=>wa h1 ho (oK h2 n fun e=>absurd (Xd (Int.ofNat_lt.2 e)) a));have hx:x<l.length:=by have:=Xo a;omega
  refine⟨by omega,aa (fun b=>⟨by omega,aa (fun c=>?_) (fun c=>?_)⟩) (fun b=>?_)⟩
  ·exact⟨trivial,E7 hx h2 (GV (Xo b) (Xo c)),trivial⟩
  ·exact wa h1 ho (oK (d:=dfl (.st .nm)) h2 n fun _ e=>c (Xd (Lu Nam.name e)))
  ·exact wa h1 ho (oK (d:=dfl (.st .nm)) h2 n fun _ e=>b (Xd (Lu Nam.pkg e)))
 refine aa (fun a=>?_) (fun a=>key fun e=>absurd (Xd (Int.ofNat_lt.2 e)) a);have hx:x<l.length:=by have:=Xo a;omega
 have nx:∀k:ltU (l.getD x (dfl (.st .nm))) ⟨g,q⟩=true,inR .i64 ((x:Int)+1)/\∃y:Nat,(y<=l.length/\cA l ⟨g,q⟩=l.take y++cA (l.drop y) ⟨g,q⟩)/\l.length-y<l.length-x/\(x:Int)+1=(y:Int)/\l=l/\g=g/\q=q/\True:=fun k=>⟨aw hx ln,x+1,⟨by omega,E6 hx h2 k⟩,by omega,by omega,(by repeat' (first|exact trivial|rfl|apply And.intro))⟩;refine⟨by omega,aa (fun b=>nx (Iy b)) (fun b=>⟨by omega,aa (fun c=>⟨by omega,aa (fun d=>nx (Iz c d)) (fun d=>key fun _=>IB b d)⟩) (fun c=>key fun _=>IA b c)⟩)⟩
theorem By(n:Nat)(l:List Nam)(s:Shape)(hl:Wf (.lst (.st .nm)) l)(hs:Wf (.st .shape) s)(ho:sz s<=n+1/\l.length+(useS s).length<=1000000000000) :
  let A:=(1000000000000:Nat);let B:=an l (hU s);let C:=(0:Int);let D:=s=s/\True;let E:=s=s/\true=true/\D;let F:=(↑(List.length s.parts):Int);let G:=dfl (Ty.st SN.shape);let H:=(1:Int);let I:=s=s/\false=false/\D;let J:=(∃(x:Nat),x<=List.length s.parts/\l=an B (useSL (List.take x s.parts))/\C=(↑x:Int)/\I)/\∀(x:Nat),let K:=(↑x:Int);let L:=List.getD s.parts (Int.toNat K) G;let M:=useSL (List.take x s.parts);x<=List.length s.parts->if decide (K<F)=true then(C<=K/\K<F)/\(sz L<=n/\List.length (an B M)+List.length (useS L)<=A)/\inR IntKind.i64 (K+H)/\∃(y:Nat),y<=List.length s.parts/\List.length s.parts-y<List.length s.parts-x/\an (an B M) (useS L)=an B (useSL (List.take y s.parts))/\K+H=(↑y:Int)/\I else True/\an B M=an l (useS s)/\True;if decide (s.kind=(9:Int))=true then if(!decide (s.pkg=[]))=true then List.length l<=A/\(∃(x:Nat),x<=List.length s.parts/\cA l {pkg:=s.pkg,name:=s.name:Nam}=an B (useSL (List.take x s.parts))/\C=(↑x:Int)/\E)/\∀(x:Nat),let K:=(↑x:Int);let L:=List.getD s.parts (Int.toNat K) G;let M:=useSL (List.take x s.parts);x<=List.length s.parts->if decide (K<F)=true then(C<=K/\K<F)/\(sz L<=n/\List.length (an B M)+List.length (useS L)<=A)/\inR IntKind.i64 (K+H)/\∃(y:Nat),y<=List.length s.parts/\List.length s.parts-y<List.length s.parts-x/\an (an B M) (useS L)=an B (useSL (List.take y s.parts))/\K+H=(↑y:Int)/\E else True/\an B M=an l (useS s)/\True else J else J:=by
 conv=>zeta
 have ln:=hs.parts.len;obtain⟨o1,o2⟩:=ho;have hz:=iP s;have hu:useS s=hU s++useSL s.parts:=CA s;rw[hu,Kw]at o2
 have tail:∀x:Nat,x<=s.parts.length->if decide ((x:Int)<(s.parts.length:Int))=true then((0:Int)<=(x:Int)/\(x:Int)<(s.parts.length:Int))/\(sz (s.parts.getD x (dfl (.st .shape)))<=n/\(an (an l (hU s)) (useSL (s.parts.take x))).length+(useS (s.parts.getD x (dfl (.st .shape)))).length<=1000000000000)/\inR .i64 ((x:Int)+1)/\∃y:Nat,y<=s.parts.length/\s.parts.length-y<s.parts.length-x/\an (an (an l (hU s)) (useSL (s.parts.take x))) (useS (s.parts.getD x (dfl (.st .shape))))=an (an l (hU s)) (useSL (s.parts.take y))/\(x:Int)+1=(y:Int)else an (an l (hU s)) (useSL (s.parts.take x))=an l (useS s):=by
  intro k h1;apply aa<;>intro h
  ·replace h:=Xo h;have hk:k<s.parts.length:=by omega
   have hm:=eZ (aP s.parts k (dfl (.st .shape)) hk);have ht:=jU s.parts k (dfl (.st .shape)) hk;have l1:=dK (useSL (s.parts.take k)) (an l (hU s));have l2:=dK (hU s) l;have l3:=ny s.parts (k+1);rw[ht,Kw]at l3;exact⟨by omega,⟨by omega,by omega⟩,aw hk ln,k+1,by omega,by omega,by rw[ht,fv],by omega⟩
  ·have e:k=s.parts.length:=by have:¬((k:Int)<(s.parts.length:Int)):=fun e=>h (Xd e);omega
   rw[e,KW,hu,fv]
 simp only[Kh,Lt,KV,KI];refine aa (fun h1=>aa (fun h2=>?_) (fun h2=>?_)) (fun h1=>?_)
 ·have h1:=Xo h1;have h2:s.pkg≠[]:=by simpa using h2
  have ho:hU s=[⟨s.pkg,s.name⟩]:=Kf ⟨h1,h2⟩;rw[ho]at tail o2⊢;exact⟨by omega,⟨0,Kg _,rfl,rfl⟩,tail⟩
 ·have h2:s.pkg=[]:=by simpa using h2
  have ho:hU s=[]:=Kb fun q=>q.2 h2;rw[ho]at tail⊢;exact⟨⟨0,Kg _,rfl,rfl⟩,tail⟩
 ·have ho:hU s=[]:=Kb fun q=>h1 (Xd q.1);rw[ho]at tail⊢;exact⟨⟨0,Kg _,rfl,rfl⟩,tail⟩
end Go.AL.Seat
end
