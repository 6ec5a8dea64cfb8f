/- What the functions' conditions say, proved. Plain facts. No condition. -/
import Derived.Test.YtldkmcedeenlnaaGreatDoorT06
set_option linter.all false
set_option maxRecDepth 100000
section
open Go Go.AL Go.Pd
namespace Go.AL.Seat
theorem I6(n s:Nat)(sp:List Nam)(x:CS)(t:Trm)(ht:Wf (.st .term) t)(ho:CmO (n+1) sp x t) :
  let A:=(1:Int);let B:=List.length x.1=List.length x.1;let C:=B/\B;let D:=t.pos;let E:=[(AL.Opn.mk (A) (t.n) ([]) ([]) ([]) D)];let F:=(88:Nat);let G:=(140737488355328:Nat);let H:=True;let I:=(n+(1:Nat));let J:=aX I t sp x;let K:=List.length x.1+List.length E=List.length J.1;let L:=(2:Nat);let M:=s=s+L*wN I t;let N:=List.length sp=List.length sp;let O:=sp=sp;let P:=List.length x.2=List.length J.2;let Q:=M/\O/\P/\P/\P/\x.2=J.2/\H;let R:=(0:Int);let S:=[(AL.Opn.mk ((2:Int)) (R) (t.name) ([]) ([]) D)];let T:=List.length x.1+List.length S=List.length J.1;let U:=[(AL.Opn.mk ((3:Int)) (A) ([]) ([]) ([]) D)];let V:=List.length x.1+List.length U=List.length J.1;let W:=[(AL.Opn.mk ((3:Int)) (R) ([]) ([]) ([]) D)];let X:=List.length x.1+List.length W=List.length J.1;let Y:=B/\B/\B;let Z:=s=s/\N;let a:=List.length x.2=List.length x.2;let b:=a/\a/\a;let c:=List.length x.1;let d:=(AV.agg [AV.glst c c (901:Nat),AV.glst s (List.length sp) (902:Nat),AV.ptr (903:Nat) (0:Nat)]);let e:=List.length x.2;let f:=(AV.glst e e (904:Nat));let g:=Ty.st SN.chunk;let h:=[mE sp t];let i:=List.length x.1+List.length h=List.length J.1;let j:=(x.1,x.2);let k:=aX n;let l:=jK k t sp j;let m:=List.length l.1=List.length l.1;let o:=[(AL.Opn.mk ((6:Int)) ((↑e:Int)) ([]) ([]) ([]) D)];let p:=List.length l.1+List.length o=List.length J.1;let r:=List.length l.2=List.length J.2;let u:=oQ k t sp j;let v:=List.length u.1=List.length J.1;let w:=s+L*wK n t=s+L*wN I t;let y:=List.length u.2=List.length J.2;let z:=nO k t sp j;let A0:=List.length z.1=List.length J.1;let A1:=List.length z.2=List.length J.2;let A2:=(↑(List.length t.parts):Int);let A3:=dfl (Ty.st SN.term);let A4:=List.getD t.parts (Int.toNat R) A3;let A5:=aX n A4 sp j;let A6:=List.length A5.1=List.length A5.1;let A7:=[(AL.Opn.mk ((12:Int)) (R) ([]) ([]) ([]) D)];let A8:=A5.1++A7;let A9:=List.length A5.1+List.length A7=List.length A8;let B0:=List.length A5.2=List.length A5.2;let B1:=sp++[nm0 t.name];let B2:=(A5.1++A7,A5.2);let B3:=List.getD t.parts (Int.toNat A) A3;let B4:=aX n B3 B1 B2;let B5:=List.length B4.1=List.length B4.1;let B6:=[(AL.Opn.mk ((13:Int)) (A) ([]) ([]) ([]) D)];let B7:=List.length B4.1+List.length B6=List.length J.1;let B8:=s+L*wN n A4+L*(wN n B3+(1:Nat))=s+L*wN I t;let B9:=List.length B4.2=List.length J.2;let C0:=fP k sp t.parts j;let C1:=List.length C0.1=List.length C0.1;let C2:=[(eV t).1];let C3:=List.length C0.1+List.length C2=List.length J.1;let C4:=s+L*mj (wN n) t.parts=s+L*wN I t;let C5:=List.length C0.2=List.length J.2;let C6:=C4/\O/\C5/\C5/\C5/\C0.2=J.2/\H;let C7:=List.length C0.1=List.length J.1;if decide (t.kind=A)=true then(C/\(List.length x.1+List.length E)*F<=G)/\H/\K/\List.length (x.1++E)=List.length J.1/\M/\N/\K/\x.1++E=J.1/\Q else if decide (t.kind=(2:Int))=true then(C/\(List.length x.1+List.length S)*F<=G)/\H/\T/\List.length (x.1++S)=List.length J.1/\M/\N/\T/\x.1++S=J.1/\Q else if decide (t.kind=(3:Int))=true then(C/\(List.length x.1+List.length U)*F<=G)/\H/\V/\List.length (x.1++U)=List.length J.1/\M/\N/\V/\x.1++U=J.1/\Q else if decide (t.kind=(4:Int))=true then(C/\(List.length x.1+List.length W)*F<=G)/\H/\X/\List.length (x.1++W)=List.length J.1/\M/\N/\X/\x.1++W=J.1/\Q else if decide (t.kind=(5:Int))=true then((Y/\Z/\b/\∀(q:Prop),some (List.length sp<=(9223372036854775807:Nat))=some q->q)/\SObj.box d=SObj.box d/\SObj.grow (Ty.st SN.op) c x.1=SObj.grow (Ty.st SN.op) c x.1/\SObj.grow (Ty.st SN.nm) s sp=SObj.grow (Ty.st SN.nm) s sp/\SObj.box f=SObj.box f/\SObj.grow g e x.2=SObj.grow g e x.2/\H)/\(C/\(List.length x.1+List.length h)*F<=G)/\H/\i/\List.length (x.1++h)=List.length J.1/\M/\N/\i/\x.1++h=J.1/\Q else if decide (t.kind=(6:Int))=true then(Y/\Z/\b/\∀(q:Prop),some (CmK n (6:Nat) sp j t)=some q->q)/\((m/\m)/\(List.length l.1+List.length o)*F<=G)/\H/\p/\List.length (l.1++o)=List.length J.1/\M/\N/\p/\l.1++o=J.1/\M/\O/\r/\r/\r/\l.2=J.2/\H else if decide (t.kind=(12:Int))=true then(Y/\Z/\b/\∀(q:Prop),some (CmK n (12:Nat) sp j t)=some q->q)/\H/\v/\v/\w/\N/\v/\u.1=J.1/\w/\O/\y/\y/\y/\u.2=J.2/\H else if decide (t.kind=(13:Int))=true then(Y/\Z/\b/\∀(q:Prop),some (CmK n (13:Nat) sp j t)=some q->q)/\H/\A0/\A0/\w/\N/\A0/\z.1=J.1/\w/\O/\A1/\A1/\A1/\z.2=J.2/\H else if decide (t.kind=(14:Int))=true then(R<=R/\R<A2)/\(Y/\Z/\b/\∀(q:Prop),some (CmO n sp j A4)=some q->q)/\((A6/\A6)/\(List.length A5.1+List.length A7)*F<=G)/\(R<=A/\A<A2)/\((A9/\List.length A8=List.length A8/\A9)/\(s+L*wN n A4=s+L*wN n A4/\N)/\(B0/\B0/\B0)/\∀(q:Prop),some (CmO n B1 B2 B3)=some q->q)/\((B5/\B5)/\(List.length B4.1+List.length B6)*F<=G)/\H/\B7/\List.length (B4.1++B6)=List.length J.1/\B8/\N/\B7/\B4.1++B6=J.1/\B8/\O/\B9/\B9/\B9/\B4.2=J.2/\H else(Y/\Z/\b/\∀(q:Prop),some (CmL n sp j t.parts)=some q->q)/\List.length t.names*(16:Nat)<=G/\if(eV t).2=true then((C1/\C1)/\(List.length C0.1+List.length C2)*F<=G)/\H/\C3/\List.length (C0.1++C2)=List.length J.1/\C4/\N/\C3/\C0.1++C2=J.1/\C6 else H/\C7/\C7/\C4/\N/\C7/\C0.1=J.1/\C6:=by
 conv=>zeta
 have d0:dfl (.st .term)=(default:Trm):=rfl;have t0:Int.toNat 0=0:=rfl;have t1:Int.toNat 1=1:=rfl;have hz1:=dh t;obtain⟨h1,h2,h3,h4,h5⟩:=id ho;have nm:=eK (b6 h2);have es:=cz t;simp only[d0,t0,t1,GZ,Mr];apply aa<;>intro h
 ·replace h:t.kind=1:=Xo h;have w:wN (n+1) t=0:=oU (by omega);rw[KI sp x h,w]
  repeat' (first|exact trivial|omega|rfl|(simp only[Mq,Mr]<;>omega)|apply And.intro)
 replace h:¬t.kind=1:=fun z=>h (Xd z);have n1:=h;apply aa<;>intro h
 ·replace h:t.kind=2:=Xo h;have w:wN (n+1) t=0:=oU (by omega);rw[KJ sp x h,w]
  repeat' (first|exact trivial|omega|rfl|(simp only[Mq,Mr]<;>omega)|apply And.intro)
 replace h:¬t.kind=2:=fun z=>h (Xd z);have n2:=h;apply aa<;>intro h
 ·replace h:t.kind=3:=Xo h;have w:wN (n+1) t=0:=oU (by omega);rw[KK sp x h,w]
  repeat' (first|exact trivial|omega|rfl|(simp only[Mq,Mr]<;>omega)|apply And.intro)
 replace h:¬t.kind=3:=fun z=>h (Xd z);have n3:=h;apply aa<;>intro h
 ·replace h:t.kind=4:=Xo h;have w:wN (n+1) t=0:=oU (by omega);rw[KM sp x h,w]
  repeat' (first|exact trivial|omega|rfl|(simp only[Mq,Mr]<;>omega)|apply And.intro)
 replace h:¬t.kind=4:=fun z=>h (Xd z);have n4:=h;apply aa<;>intro h
 ·replace h:t.kind=5:=Xo h;have w:wN (n+1) t=0:=oU (by omega);rw[KN sp x h,w];have ls:sp.length<=9223372036854775807:=by omega
  repeat' (first|exact trivial|omega|rfl|(intro q hq;cases hq;assumption)|(simp only[Mq,Mr]<;>omega)|apply And.intro)
 replace h:¬t.kind=5:=fun z=>h (Xd z);have n5:=h;apply aa<;>intro h
 ·replace h:t.kind=6:=Xo h;have w:wN (n+1) t=0:=oU (by omega);rw[KO sp x h,w];have f1:=(CR (kq n) (by omega) h2 h sp x).1;have ls:CmK n 6 sp x t:=⟨h,ho⟩;simp only[f1]
  repeat' (first|exact trivial|omega|rfl|(intro q hq;cases hq;assumption)|(simp only[Mq,Mr]<;>omega)|apply And.intro)
 replace h:¬t.kind=6:=fun z=>h (Xd z);have n6:=h;apply aa<;>intro h
 ·replace h:t.kind=12:=Xo h;have w:wN (n+1) t=wK n t:=rfl;rw[H2 sp x h,w];have ls:CmK n 12 sp x t:=⟨h,ho⟩
  repeat' (first|exact trivial|rfl|(intro q hq;cases hq;assumption)|apply And.intro)
 replace h:¬t.kind=12:=fun z=>h (Xd z);have n7:=h;apply aa<;>intro h
 ·replace h:t.kind=13:=Xo h;have w:wN (n+1) t=wK n t:=rfl;rw[H3 sp x h,w];have ls:CmK n 13 sp x t:=⟨h,ho⟩
  repeat' (first|exact trivial|rfl|(intro q hq;cases hq;assumption)|apply And.intro)
 replace h:¬t.kind=13:=fun z=>h (Xd z);have n8:=h;apply aa<;>intro h
 ·replace h:t.kind=14:=Xo h;have hc:=qq (b6 h2) h;have w:=w_14 (n:=n) h;rw[H4 sp x h,w];have e0:=aY (l:=t.parts) (i:=0) (by omega);have e1:=aY (l:=t.parts) (i:=1) (by omega);rw[Nq]at e0;simp only[Nat.reduceAdd]at e0 e1;have o0:CmO n sp x (t.parts.getD 0 default):=ho.part (by omega) (Bd.refl x) (by omega) (by omega) (by omega);have b0:=o0.here;simp only[vY];generalize aX n (t.parts.getD 0 default) sp x=y at *
  have a0:=b0.trans (Bd.app y [⟨12,0,[],[],[],t.pos⟩]);have o1:CmO n (sp++[nm0 t.name]) (y.1++[⟨12,0,[],[],[],t.pos⟩],y.2) (t.parts.getD 1 default):=ho.part (by omega) a0 (by omega) (by simp only[Mr];omega) (by simp only[Mq,Mr];omega);have b1:=a0.trans o1.here;generalize aX n (t.parts.getD 1 default) (sp++[nm0 t.name]) (y.1++[⟨12,0,[],[],[],t.pos⟩],y.2)=z at *
  obtain⟨q1,q2,q3,q4⟩:=b0;obtain⟨r1,r2,r3,r4⟩:=b1;simp only[Mr]at r2
  repeat' (first|exact trivial|omega|rfl|(intro q hq;cases hq;assumption)|(simp only[Mq,Mr]<;>omega)|apply And.intro)
 replace h:¬t.kind=14:=fun z=>h (Xd z);have hr:¬t.kind=1/\¬t.kind=2/\¬t.kind=3/\¬t.kind=4/\¬t.kind=5/\¬t.kind=6/\¬t.kind=12/\¬t.kind=13/\¬t.kind=14:=⟨n1,n2,n3,n4,n5,n6,n7,n8,h⟩;have w:=w_r (n:=n) hr;rw[KP sp x hr,w];have ol:=ho.parts;have b0:=nP (kq n) sp t.parts x (by omega) (sx h2);unfold tO;generalize fP (aX n) sp t.parts x=y at *
 obtain⟨q1,q2,q3,q4⟩:=b0;refine⟨⟨?_,?_,?_,fun q hq=>by cases hq;exact ol⟩,by omega,aa (fun h=>?_) (fun h=>?_)⟩
 ·repeat' (first|exact trivial|rfl|apply And.intro)
 ·repeat' (first|exact trivial|rfl|apply And.intro)
 ·repeat' (first|exact trivial|rfl|apply And.intro)
 ·simp only[Mu h]
  repeat' (first|exact trivial|omega|rfl|(simp only[Mq,Mr]<;>omega)|apply And.intro)
 ·simp only[Mp h]
  repeat' (first|exact trivial|omega|rfl|apply And.intro)
theorem Ke(n:Nat)(t:Trm)(l:List Bndg)(ht:Wf (.st .term) t)(hl:Wf (.lst (.st .bind)) l)(ho:AA n t l) :
  let A:=(0:Int);let B:=True;let C:=if aZ t≠A then[]else El n t l;let D:=aZ t=aZ t;let E:=(↑(List.length l):Int);let F:=(0:Nat);let G:=F=F;let H:=den (Ty.st SN.op);let I:=mf H=mf H;let J:=[{args:=A,ops:=[]:Chnk}];let K:=List.length J=List.length J;let L:=t=t/\K/\J=J/\K/\K/\B;let M:=dfl (Ty.st SN.bind);let N:=F=List.length ([]:List Opn);let O:=([],J);let P:=Int.toNat A;let Q:=dfl (Ty.st SN.chunk);cX t=true/\if(!decide (aZ t=A))=true then B/\(C)=[]/\D/\B else(∃(x:Nat),x<=List.length l/\A=(↑x:Int)/\t=t/\l=l/\A=A/\D/\false=false/\l=l/\E=E/\G/\G/\x=F/\x=F/\G/\I/\x=F/\List.map nmB (List.take x l)=[]/\L)/\∀(x:Nat),let R:=(↑x:Int);let S:=List.take x l;let T:=List.map nmB S;let U:=x=x/\x=List.length T;let V:=List.getD l (Int.toNat R) M;let W:=[{pkg:=V.pkg,name:=V.name:Nam}];let X:=aX n t T O;let Y:=List.length X.1=List.length X.1;let Z:=List.length X.2=List.length X.2;x<=List.length l->if decide (R<E)=true then(A<=R/\R<E)/\(U/\(List.length T+List.length W)*(32:Nat)<=(140737488355328:Nat))/\inR IntKind.i64 (R+(1:Int))/\∃(y:Nat),let a:=x+List.length W=y;y<=List.length l/\List.length l-y<List.length l-x/\R+(1:Int)=(↑y:Int)/\t=t/\l=l/\A=A/\D/\false=false/\l=l/\E=E/\G/\G/\a/\List.length (List.map nmB S++W)=y/\G/\I/\a/\List.map nmB S++W=List.map nmB (List.take y l)/\L else((N/\N/\N)/\U/\(K/\K/\K)/\∀(q:Prop),some (CmO n T O t)=some q->q)/\((Y/\Y)/\B)/\(A<=A/\A<(↑(List.length X.2):Int))/\(Z/\Int.toNat A<List.length X.2)/\((Z/\List.length X.2=List.length (List.set X.2 P {args:=(List.getD X.2 P Q).args,ops:=X.1:Chnk}))/\B)/\B/\(List.set X.2 P {args:=(List.getD X.2 P Q).args,ops:=X.1:Chnk}=C)/\A=aZ t/\B:=by
 conv=>zeta
 obtain⟨hf,hn,hc⟩:=ho;refine⟨hf,aa (fun h=>?_) (fun h=>?_)⟩
 ·have h:aZ t≠0:=by simpa using h
  rw[Mu h]
  repeat' (first|exact trivial|rfl|apply And.intro)
 have h:aZ t=0:=by simpa using h
 have o:=hc h;rw[Mp (fun z=>z h),h];have dB:dfl (.st .bind)=(default:Bndg):=rfl;have t0:Int.toNat 0=0:=rfl;have eN:∀b:Bndg,({pkg:=b.pkg,name:=b.name:Nam})=nmB b:=fun _=>rfl;have eC:[({args:=0,ops:=[]}:Chnk)]=ch0:=rfl;simp only[dB,t0,eN,eC,Mr,Mv,N9];have hl:∀i,i<=l.length->(List.map nmB (l.take i)).length=i:=fun i hi=>by simp only[MZ,NI];omega
 refine⟨⟨0,ME _,?_⟩,?_⟩
 ·repeat' (first|exact trivial|rfl|apply And.intro)
 intro i hi;have hl':=hl i hi;apply aa<;>intro h
 ·replace h:=Xo h;have h:i<l.length:=by omega
  have e1:List.map nmB (l.take i)++[nmB (l.getD i default)]=List.map nmB (l.take (i+1)):=by rw[nQ h,NR];rfl
  rw[e1,hl',hl (i+1) h];refine⟨⟨by omega,by omega⟩,⟨⟨by first|exact trivial|rfl,by first|exact trivial|rfl⟩,by omega⟩,ai (by omega) (by omega),i+1,h,by omega,?_⟩
  repeat' (first|exact trivial|omega|rfl|apply And.intro)
 ·have h:¬(i:Int)<(l.length:Int):=fun z=>h (Xd z);have e:l.take i=l:=NH (by omega);rw[e]at hl'⊢;have b:=o.here;unfold El;generalize aX n t (l.map nmB) ([],ch0)=y at *
  obtain⟨q1,q2,q3,q4⟩:=b;have c1:ch0.length=1:=rfl;simp only[c1]at q3;simp only[Ob]
  repeat' (first|exact trivial|omega|rfl|(intro q hq;cases hq;assumption)|apply And.intro)
theorem I7(l:List Bndg)(hl:Wf (.lst (.st .bind)) l) :
  True/\decide ((↑(List.length l):Int)<=(100:Int))=decide (List.length l<=(100:Nat))/\True:=by
 refine⟨trivial,?_,trivial⟩;exact Nn.2 (by omega)
theorem Fb(n:Nat)(s:Trm)(m:Int)(hs:Wf (.st .term) s)(ho:szT s<=n+1/\0<=m/\m<=1000000) :
  let A:=(1:Int);let B:=(0:Int);let C:=s=s/\m=m/\B=B/\s=s/\True;let D:=(↑(List.length s.parts):Int);let E:=dfl (Ty.st SN.term);(∃(x:Nat×Int),(x.1<=List.length s.parts/\A<=x.2/\x.2<=m+A/\szcTL (List.drop x.1 s.parts) x.2 m=szcT s m)/\A=x.2/\B=(↑x.1:Int)/\C)/\∀(x:Nat×Int),let F:=(↑x.1:Int);let G:=m-x.2;let H:=List.getD s.parts (Int.toNat F) E;let I:=True/\x.2=szcT s m/\True;x.1<=List.length s.parts/\A<=x.2/\x.2<=m+A/\szcTL (List.drop x.1 s.parts) x.2 m=szcT s m->if decide (F<D)=true then if decide (x.2<=m)=true then(B<=F/\F<D)/\inR IntKind.i64 G/\(szT H<=n/\B<=m-x.2/\m-x.2<=(1000000:Int))/\inR IntKind.i64 (x.2+szcT H G)/\inR IntKind.i64 (F+A)/\∃(y:Nat×Int),(y.1<=List.length s.parts/\A<=y.2/\y.2<=m+A/\szcTL (List.drop y.1 s.parts) y.2 m=szcT s m)/\List.length s.parts-y.1<List.length s.parts-x.1/\x.2+szcT H G=y.2/\F+A=(↑y.1:Int)/\C else I else I:=by
 conv=>zeta
 have ln:=hs.term_parts.len;have hz:=cz s;obtain⟨ho1,ho2,ho3⟩:=ho;have h0:szcTL s.parts 1 m=szcT s m:=by cases s;rw[szcT]
 simp only[Mv,O4,Ni,N4];refine⟨⟨(0,1),⟨ME _,by omega,by omega,h0⟩,rfl,rfl⟩,?_⟩;rintro⟨k,c⟩ ⟨h1,h2,h3,h4⟩;simp only at h1 h2 h3 h4⊢;apply aa<;>intro hk
 ·replace hk:=Xo hk;have hk:k<s.parts.length:=by omega
  have hm:=cE (bW s.parts k (dfl (.st .term)) hk);rw[aU s.parts k (dfl (.st .term)) hk]at h4;simp only[szcTL]at h4;apply aa<;>intro hc
  ·replace hc:=Xo hc;rw[Mu hc]at h4;have hb:=szcT_bd (s.parts.getD k (dfl (.st .term))) (m-c) (by omega);exact⟨by omega,ai (by omega) (by omega),by omega,ai (by omega) (by omega),bu hk ln,(k+1,_),⟨by omega,by simp only;omega,by simp only;omega,h4⟩,by simp only;omega,rfl,rfl⟩
  ·rw[Mp (fun e=>hc (Xd e))]at h4;exact h4
 ·replace hk:¬((k:Int)<(s.parts.length:Int)):=fun e=>hk (Xd e);have e:k=s.parts.length:=by omega
  subst e;rw[MX]at h4;simp only[szcTL]at h4;exact h4
end Go.AL.Seat
end
section
open Go Go.AL Go.Proofs Go.Shelf Go.Pd
namespace Go.AL.Seat
variable [Tabs]
variable [SeatLaid]
theorem Fc:ag Tryz.prog 230 (p1 .str fun s=>.ret (.bool (ld s))):=
 aW (ee Tryz.func230) fun s _ _=>g0 sn a0 Tryz.func230 (HU s)
theorem Fe:ag Tryz.prog 229 (p1 (.st .shape) fun s=>⟨some (s.parts.length *16<=140737488355328),none,.bool (dL s),[]⟩):=
 aW (ee Tryz.func229) fun s hs ho=>g0 (sc iR (sc mZ (sc (mV) (sc (lu) sn)))) ⟨[(4,fun S0=>⟨Nat,fun k=>k<=s.names.length/\s.names.length=s.parts.length/\dL s=(((s.names.drop k).all az)&&decide s.names.Nodup),fun k=>[(16,.int .i64 k)],fun _=>[],fun k=>s.names.length-k⟩)],[],[]⟩ Tryz.func229 (HV s hs (ho _ rfl))
theorem I8:ag Tryz.prog 199 (p1 (.st .shape) fun s=>⟨some (s.parts.length *16<=140737488355328),none,.bool (bh s),[]⟩):=
 aW (ee Tryz.func199) fun s hs ho=>g0 (sc Fe (sc ma (sc iR (sc Fc sn)))) a0 Tryz.func199 (JY s hs (ho _ rfl))
theorem te:au Tryz.prog 198:=ee Tryz.func198
theorem tP(n:Nat)(s:AL.Shape)(hs:Wf (.st .shape) s)(hn:sz s<=n+1)(hb:n<=1000000)(hA:ag Tryz.prog 198 (pf (.st .shape) 199 fun s=>⟨some (sz s<=n),none,.bool (allS bh s),[]⟩)):aw Tryz.prog 198 [.st .shape s,.fn 199 []] [] (.ret (.bool (allS bh s))):=
 g0 (sc I8 (sc (hA) sn)) ⟨[(4,fun S0=>⟨Nat,fun k=>k<=s.parts.length/\allS bh s=allL bh (s.parts.drop k),fun k=>[(14,.int .i64 k)],fun _=>[],fun k=>s.parts.length-k⟩)],[],[]⟩ Tryz.func198 (Bu n s hs hn hb)
theorem yL:∀n:Nat,n<=1000000->ag Tryz.prog 198 (pf (.st .shape) 199 fun s=>⟨some (sz s<=n),none,.bool (allS bh s),[]⟩):=by
 intro n
 induction n with
 |zero=>exact fun _=>pC te fun a hs ho=>absurd (ho _ rfl) (by have:=jl a;omega)
 |succ n ih=>exact fun hb=>pC te fun a hs ho=>tP n a hs (ho _ rfl) (by omega) (ih (by omega))
theorem I9:ag Tryz.prog 228 (vR 268):=
 Ai (ee Tryz.func228) fun c hc=>g0 sn a0 Tryz.func228 (JZ c hc)
theorem Dp:au Tryz.prog 227:=ee Tryz.func227
theorem BC(n:Nat)(s:AL.Shape)(l c:Int)(hs:Wf (.st .shape) s)(hn:sz s<=n+1)(hc:0<=c/\c<=400/\1<=l/\l<=c+1)(hA:ag Tryz.prog 227 (qm 268 228 n)):aw Tryz.prog 227 [.st .shape s,.int .i64 l,.fn 228 [.ptr 900 0]] [(900,.box (.int .i64 c))] (Gs 268 s l c (sz s<=n+1)):=
 g0 (sc I9 (sc (hA) sn)) ⟨[(4,fun S0=>⟨Nat×Int,fun x=>x.1<=s.parts.length/\c+1+(szL (s.parts.take x.1):Int)<=400/\deepL (s.parts.drop x.1) (l+1) x.2=deepS s l,fun x=>[(7,.int .i64 x.2),(16,.int .i64 x.1)],fun x=>[(900,.box (.int .i64 (c+1+(szL (s.parts.take x.1):Int))))],fun x=>s.parts.length-x.1⟩)],[],[]⟩ Tryz.func227 (K0 n s l c hs hn hc)
theorem Ia:∀n:Nat,ag Tryz.prog 227 (qm 268 228 n):=by
 intro n
 induction n with
 |zero=>exact s5 Dp fun s l c hs hn hc=>absurd hn (by have:=jl s;omega)
 |succ n ih=>exact s5 Dp fun s l c hs hn hc=>BC n s l c hs hn hc ih
theorem yM(s:AL.Shape)(hs:Wf (.st .shape) s) :aw Tryz.prog 197 [.st .shape s] [] (.ret (.tup [.int .i64 (if sz s<=400 then(sz s:Int)else 401),.int .i64 (if sz s<=400 then deepS s 1 else 0),.bool (decide (sz s<=400))])):=
 fwpR_sound (C:=⟨tbl,_,fun _=>false,fun _=>[],fun _=>false,fun _=>false,fun _=>false⟩) (ann:=⟨[],[],[]⟩) (annC:=⟨[],[],[]⟩) mixed Ht (rV (Ia (sz s)) (uj)) Tryz.func197 Tryz.func226 (enters_of Tryz.func226 (by kernel_rfl) rfl) (@Eq.mpr _ _ (by kernel_rfl) (HW s hs))
theorem Ff:ag Tryz.prog 197 (p1 (.st .shape) fun s=>.ret (.tup [.int .i64 (if sz s<=400 then(sz s:Int)else 401),.int .i64 (if sz s<=400 then deepS s 1 else 0),.bool (decide (sz s<=400))])):=
 aW (ee Tryz.func197) fun s hs _=>yM s hs
theorem Fg:ag Tryz.prog 160 (p1 (.st .shape) fun s=>.ret (.int .i64 (cw s))):=
 aW (ee Tryz.func160) fun s _ _=>g0 (sc (Ff) (sc (yL 400 (by decide)) sn)) a0 Tryz.func160 (HX s)
theorem uL:au Tryz.prog 43:=ee Tryz.func43
theorem wc(n:Nat)(t:Trm)(m:Int)(hs:Wf (.st .term) t)(hz:szT t<=n+1)(h0:0<=m)(h1:m<=1000000)(hA:ag Tryz.prog 43 (p2 (.st .term) (.int .i64) fun t m=>⟨some (szT t<=n/\0<=m/\m<=1000000),none,.tup [.int .i64 (countT t m).1,.int .i64 (countT t m).2],[]⟩)):aw Tryz.prog 43 [.st .term t,.int .i64 m] [] (⟨some (szT t<=n+1/\0<=m/\m<=1000000),none,.tup [.int .i64 (countT t m).1,.int .i64 (countT t m).2],[]⟩):=
 g0 (sc (hA) sn) ⟨[(3,fun S0=>⟨Nat×Int×Int,fun y=>y.1<=t.parts.length/\1<=y.2.1/\y.2.1<=m+1/\0<=y.2.2/\y.2.2+1<=y.2.1/\countL (t.parts.drop y.1) m y.2.1 y.2.2=countL t.parts m 1 0,fun y=>[(6,.int .i64 y.2.1),(7,.int .i64 y.2.2),(15,.int .i64 y.1)],fun _=>[],fun y=>t.parts.length-y.1⟩)],[],[]⟩ Tryz.func43 (F4 n t m hs hz h0 h1)
theorem tg:∀n:Nat,ag Tryz.prog 43 (p2 (.st .term) (.int .i64) fun t m=>⟨some (szT t<=n/\0<=m/\m<=1000000),none,.tup [.int .i64 (countT t m).1,.int .i64 (countT t m).2],[]⟩)
 |0=>dx uL fun t m hs _ ho=>absurd (ho _ rfl).1 (by have:=dh t;omega)
 |n+1=>dx uL fun t m hs _ ho=>wc n t m hs (ho _ rfl).1 (ho _ rfl).2.1 (ho _ rfl).2.2 (tg n)
theorem yN:ag Tryz.prog 170 (pcl .str 96 fun x=>⟨none,none,.bool (!az x),[]⟩):=
 vS (ee Tryz.func170) fun x _ ho=>g0 (sc iR sn) a0 Tryz.func170 (Bv x)
theorem yO:ag Tryz.prog 205 (pfc (.lst .str) 170 96 fun l=>⟨none,none,.int .i64 (bP az l 0),[]⟩):=
 lj (ee Tryz.func205) fun l hl ho=>g0 (sc yN sn) ⟨[(2,fun S0=>⟨Nat,fun k=>k<=l.length/\bP az (l.drop k) k=bP az l 0,fun k=>[(8,.int .i64 k)],fun _=>[],fun k=>l.length-k⟩)],[],[]⟩ Tryz.func205 (Bw l hl)
theorem yP:ag Tryz.prog 169 (pfc (.lst .str) 170 96 fun l=>⟨none,none,.bool (!l.all az),[]⟩):=
 lj (ee Tryz.func169) fun l _ ho=>g0 (sc yO sn) a0 Tryz.func169 (Bx l)
theorem uM:ag Tryz.prog 128 (pf (.lst .str) 96 fun l=>⟨none,none,.bool (l.all az),[]⟩):=
 pC (ee Tryz.func128) fun l _ ho=>g0 (sc yP sn) a0 Tryz.func128 (HY l)
theorem Fh:ag Tryz.prog 127 (p1 (.lst .str) fun l=>⟨some (l.length *16<=140737488355328),none,.bool (l.all az&&decide l.Nodup),[]⟩):=
 aW (ee Tryz.func127) fun l _ ho=>g0 (sc mZ (sc (mV) (sc uM (sc (lu) sn)))) a0 Tryz.func127 (HZ l (ho _ rfl))
theorem BD:au Tryz.prog 166:=ee Tryz.func166
theorem tQ(n:Nat)(x:Shape) (ho:sz x<=n)(hA:ag Tryz.prog 167 (p1 (.st .shape) fun s=>⟨some (sz s<=n),none,.bool (allS aS s),[]⟩)):aw Tryz.prog 166 [.st .shape x,.ptr 900 0] [(900,.box (.fn 167 []))] (⟨some (sz x<=n),none,.bool (!(allS aS) x),[]⟩):=
 g0 (sc (hA) sn) a0 Tryz.func166 (By n x ho)
theorem yQ(n:Nat)(hA:ag Tryz.prog 167 (p1 (.st .shape) fun s=>⟨some (sz s<=n),none,.bool (allS aS s),[]⟩)):ag Tryz.prog 166 (pcl (.st .shape) 167 fun x=>⟨some (sz x<=n),none,.bool (!(allS aS) x),[]⟩):=
 vS BD fun x _ ho=>tQ n x (ho _ rfl) hA
theorem BE:au Tryz.prog 203:=ee Tryz.func203
theorem tR(n:Nat)(l:List AL.Shape) (hl:Wf (.lst (.st .shape)) l)(ho:∀x∈l,sz x<=n)(hA:ag Tryz.prog 167 (p1 (.st .shape) fun s=>⟨some (sz s<=n),none,.bool (allS aS s),[]⟩)):aw Tryz.prog 203 [.lst (.st .shape) l none,.fn 166 [.ptr 900 0]] [(900,.box (.fn 167 []))] (⟨some (∀x∈l,sz x<=n),none,.int .i64 (bP (allS aS) l 0),[]⟩):=
 g0 (sc ((yQ n hA)) sn) ⟨[(2,fun S0=>⟨Nat,fun k=>k<=l.length/\bP (allS aS) (l.drop k) k=bP (allS aS) l 0,fun k=>[(8,.int .i64 k)],fun _=>[],fun k=>l.length-k⟩)],[],[]⟩ Tryz.func203 (Bz n l hl ho)
theorem yR(n:Nat)(hA:ag Tryz.prog 167 (p1 (.st .shape) fun s=>⟨some (sz s<=n),none,.bool (allS aS s),[]⟩)):ag Tryz.prog 203 (pfc (.lst (.st .shape)) 166 167 fun l=>⟨some (∀x∈l,sz x<=n),none,.int .i64 (bP (allS aS) l 0),[]⟩):=
 lj BE fun l hl ho=>tR n l hl (ho _ rfl) hA
theorem BF:au Tryz.prog 165:=ee Tryz.func165
theorem tS(n:Nat)(l:List AL.Shape) (ho:∀x∈l,sz x<=n)(hA:ag Tryz.prog 167 (p1 (.st .shape) fun s=>⟨some (sz s<=n),none,.bool (allS aS s),[]⟩)):aw Tryz.prog 165 [.lst (.st .shape) l none,.fn 166 [.ptr 900 0]] [(900,.box (.fn 167 []))] (⟨some (∀x∈l,sz x<=n),none,.bool (!l.all (allS aS)),[]⟩):=
 g0 (sc ((yR n hA)) sn) a0 Tryz.func165 (BA n l ho)
theorem yS(n:Nat)(hA:ag Tryz.prog 167 (p1 (.st .shape) fun s=>⟨some (sz s<=n),none,.bool (allS aS s),[]⟩)):ag Tryz.prog 165 (pfc (.lst (.st .shape)) 166 167 fun l=>⟨some (∀x∈l,sz x<=n),none,.bool (!l.all (allS aS)),[]⟩):=
 lj BF fun l _ ho=>tS n l (ho _ rfl) hA
theorem Ib:au Tryz.prog 124:=ee Tryz.func124
theorem yT(n:Nat)(l:List AL.Shape) (ho:∀x∈l,sz x<=n)(hA:ag Tryz.prog 167 (p1 (.st .shape) fun s=>⟨some (sz s<=n),none,.bool (allS aS s),[]⟩)):aw Tryz.prog 124 [.lst (.st .shape) l none,.fn 167 []] [] (⟨some (∀x∈l,sz x<=n),none,.bool (l.all (allS aS)),[]⟩):=
 g0 (sc ((yS n hA)) sn) a0 Tryz.func124 (I0 n l ho)
theorem Fi(n:Nat)(hA:ag Tryz.prog 167 (p1 (.st .shape) fun s=>⟨some (sz s<=n),none,.bool (allS aS s),[]⟩)):ag Tryz.prog 124 (pf (.lst (.st .shape)) 167 fun l=>⟨some (∀x∈l,sz x<=n),none,.bool (l.all (allS aS)),[]⟩):=
 pC Ib fun l _ ho=>yT n l (ho _ rfl) hA
theorem Dq:au Tryz.prog 167:=ee Tryz.func167
theorem BG(n:Nat)(s:AL.Shape)(ho:sz s<=n+1)(hE:ag Tryz.prog 124 (pf (.lst (.st .shape)) 167 fun l=>⟨some (∀x∈l,sz x<=n),none,.bool (l.all (allS aS)),[]⟩)):aw Tryz.prog 167 [.st .shape s] [] (⟨some (sz s<=n+1),none,.bool (allS aS s),[]⟩):=
 g0 (sc (hE) sn) a0 Tryz.func167 (K8 n s ho)
theorem yU:∀n:Nat,ag Tryz.prog 167 (p1 (.st .shape) fun s=>⟨some (sz s<=n),none,.bool (allS aS s),[]⟩)
 |0=>aW Dq fun s _ ho=>absurd (ho _ rfl) (by have:=jl s;omega)
 |n+1=>aW Dq fun s _ ho=>BG n s (ho _ rfl) (Fi n (yU n))
theorem BH:ag Tryz.prog 125 (p1 (.st .shape) fun s=>.ret (.bool (decide (cw s=0)&&allS aS s))):=
 aW (ee Tryz.func125) fun s _ _=>g0 (sc Fg (sc (yU 400) sn)) a0 Tryz.func125 (F5 s)
theorem Kf:ag Tryz.prog 123 (p1 (.st .term) fun t=>.ret (.agg [.int .i64 (t.names.length:Int),.int .i64 (t.vars.length:Int),.int .i64 (t.shapes.length:Int),.int .i64 (t.parts.length:Int)])):=
 aW (ee Tryz.func123) fun t _ _=>g0 sn a0 Tryz.func123 (LZ t)
theorem Fj:ag Tryz.prog 126 (p1 .str fun s=>.ret (.bool (jb s))):=
 aW (ee Tryz.func126) fun s hs _=>g0 (sc (Ee) sn) ⟨[(2,fun S0=>⟨Nat,fun k=>k<=s.length/\(s.all di)=(s.drop k).all di,fun k=>[(8,.int .i64 k)],fun _=>[],fun k=>s.length-k⟩)],[],[]⟩ Tryz.func126 (I1 s hs)
theorem we:ag Tryz.prog 166 (pcl (.st .shape) 125 fun x=>⟨none,none,.bool (!bn x),[]⟩):=
 vS (ee Tryz.func166) fun x _ ho=>g0 (sc BH sn) a0 Tryz.func166 (yF x)
theorem wg:ag Tryz.prog 203 (pfc (.lst (.st .shape)) 166 125 fun l=>⟨none,none,.int .i64 (bP bn l 0),[]⟩):=
 lj (ee Tryz.func203) fun l hl ho=>g0 (sc we sn) ⟨[(2,fun S0=>⟨Nat,fun k=>k<=l.length/\bP bn (l.drop k) k=bP bn l 0,fun k=>[(8,.int .i64 k)],fun _=>[],fun k=>l.length-k⟩)],[],[]⟩ Tryz.func203 (yG l hl)
theorem wh:ag Tryz.prog 165 (pfc (.lst (.st .shape)) 166 125 fun l=>⟨none,none,.bool (!l.all bn),[]⟩):=
 lj (ee Tryz.func165) fun l _ ho=>g0 (sc wg sn) a0 Tryz.func165 (yH l)
theorem BI:ag Tryz.prog 124 (pf (.lst (.st .shape)) 125 fun l=>⟨none,none,.bool (l.all bn),[]⟩):=
 pC (ee Tryz.func124) fun l _ ho=>g0 (sc wh sn) a0 Tryz.func124 (F6 l)
theorem Fk:ag Tryz.prog 84 (p1 (.st .term) fun t=>⟨some (t.names.length<=8796093022208),none,.bool (ax t),[]⟩):=
 aW (ee Tryz.func84) fun t ht ho=>g0 (sc Kf (sc BI (sc Fj (sc iR (sc Fh (sc uM (sc ma sn))))))) ⟨[],[],[(2,fun S0=>⟨[(34,.bool (!jc t))],[]⟩)]⟩ Tryz.func84 (I2 t ht (ho _ rfl))
theorem yV:au Tryz.prog 130:=ee Tryz.func130
theorem th(n:Nat)(x:Trm) (ho:szT x<=n/\cX x=true)(hA:ag Tryz.prog 44 (p1 (.st .term) fun t=>⟨some (szT t<=n/\cX t=true),none,.bool (allT ax t),[]⟩)):aw Tryz.prog 130 [.st .term x,.ptr 900 0] [(900,.box (.fn 44 []))] (⟨some (szT x<=n/\cX x=true),none,.bool (!(allT ax) x),[]⟩):=
 g0 (sc (hA) sn) a0 Tryz.func130 (yI n x ho)
theorem wi(n:Nat)(hA:ag Tryz.prog 44 (p1 (.st .term) fun t=>⟨some (szT t<=n/\cX t=true),none,.bool (allT ax t),[]⟩)):ag Tryz.prog 130 (pcl (.st .term) 44 fun x=>⟨some (szT x<=n/\cX x=true),none,.bool (!(allT ax) x),[]⟩):=
 vS yV fun x _ ho=>th n x (ho _ rfl) hA
theorem yW:au Tryz.prog 171:=ee Tryz.func171
theorem tj(n:Nat)(l:List Trm) (hl:Wf (.lst (.st .term)) l)(ho:∀x∈l,szT x<=n/\cX x=true)(hA:ag Tryz.prog 44 (p1 (.st .term) fun t=>⟨some (szT t<=n/\cX t=true),none,.bool (allT ax t),[]⟩)):aw Tryz.prog 171 [.lst (.st .term) l none,.fn 130 [.ptr 900 0]] [(900,.box (.fn 44 []))] (⟨some (∀x∈l,szT x<=n/\cX x=true),none,.int .i64 (bP (allT ax) l 0),[]⟩):=
 g0 (sc ((wi n hA)) sn) ⟨[(2,fun S0=>⟨Nat,fun k=>k<=l.length/\bP (allT ax) (l.drop k) k=bP (allT ax) l 0,fun k=>[(8,.int .i64 k)],fun _=>[],fun k=>l.length-k⟩)],[],[]⟩ Tryz.func171 (yJ n l hl ho)
theorem wj(n:Nat)(hA:ag Tryz.prog 44 (p1 (.st .term) fun t=>⟨some (szT t<=n/\cX t=true),none,.bool (allT ax t),[]⟩)):ag Tryz.prog 171 (pfc (.lst (.st .term)) 130 44 fun l=>⟨some (∀x∈l,szT x<=n/\cX x=true),none,.int .i64 (bP (allT ax) l 0),[]⟩):=
 lj yW fun l hl ho=>tj n l hl (ho _ rfl) hA
theorem yX:au Tryz.prog 129:=ee Tryz.func129
theorem tm(n:Nat)(l:List Trm) (ho:∀x∈l,szT x<=n/\cX x=true)(hA:ag Tryz.prog 44 (p1 (.st .term) fun t=>⟨some (szT t<=n/\cX t=true),none,.bool (allT ax t),[]⟩)):aw Tryz.prog 129 [.lst (.st .term) l none,.fn 130 [.ptr 900 0]] [(900,.box (.fn 44 []))] (⟨some (∀x∈l,szT x<=n/\cX x=true),none,.bool (!l.all (allT ax)),[]⟩):=
 g0 (sc ((wj n hA)) sn) a0 Tryz.func129 (yK n l ho)
theorem wk(n:Nat)(hA:ag Tryz.prog 44 (p1 (.st .term) fun t=>⟨some (szT t<=n/\cX t=true),none,.bool (allT ax t),[]⟩)):ag Tryz.prog 129 (pfc (.lst (.st .term)) 130 44 fun l=>⟨some (∀x∈l,szT x<=n/\cX x=true),none,.bool (!l.all (allT ax)),[]⟩):=
 lj yX fun l _ ho=>tm n l (ho _ rfl) hA
theorem Fl:au Tryz.prog 85:=ee Tryz.func85
theorem wm(n:Nat)(l:List Trm) (ho:∀x∈l,szT x<=n/\cX x=true)(hA:ag Tryz.prog 44 (p1 (.st .term) fun t=>⟨some (szT t<=n/\cX t=true),none,.bool (allT ax t),[]⟩)):aw Tryz.prog 85 [.lst (.st .term) l none,.fn 44 []] [] (⟨some (∀x∈l,szT x<=n/\cX x=true),none,.bool (l.all (allT ax)),[]⟩):=
 g0 (sc ((wk n hA)) sn) a0 Tryz.func85 (F7 n l ho)
theorem BJ(n:Nat)(hA:ag Tryz.prog 44 (p1 (.st .term) fun t=>⟨some (szT t<=n/\cX t=true),none,.bool (allT ax t),[]⟩)):ag Tryz.prog 85 (pf (.lst (.st .term)) 44 fun l=>⟨some (∀x∈l,szT x<=n/\cX x=true),none,.bool (l.all (allT ax)),[]⟩):=
 pC Fl fun l _ ho=>wm n l (ho _ rfl) hA
theorem uN:au Tryz.prog 44:=ee Tryz.func44
theorem wq(n:Nat)(t:Trm)(ho:szT t<=n+1/\cX t=true)(hE:ag Tryz.prog 85 (pf (.lst (.st .term)) 44 fun l=>⟨some (∀x∈l,szT x<=n/\cX x=true),none,.bool (l.all (allT ax)),[]⟩)):aw Tryz.prog 44 [.st .term t] [] (⟨some (szT t<=n+1/\cX t=true),none,.bool (allT ax t),[]⟩):=
 g0 (sc Fk (sc (hE) sn)) a0 Tryz.func44 (F8 n t ho)
theorem tn:∀n:Nat,ag Tryz.prog 44 (p1 (.st .term) fun t=>⟨some (szT t<=n/\cX t=true),none,.bool (allT ax t),[]⟩)
 |0=>aW uN fun t _ ho=>absurd (ho _ rfl).1 (by have:=dh t;omega)
 |n+1=>aW uN fun t _ ho=>wq n t (ho _ rfl) (BJ n (tn n))
theorem wu(x:Trm)(ho:cX x=true) :aw Tryz.prog 22 [.st .term x] [] (⟨some (cX x=true),none,.int .i64 (aZ x),[]⟩):=
 g0 (sc (tg (szT x)) (sc (tn (szT x)) sn)) a0 Tryz.func22 (F9 x ho)
theorem BK:ag Tryz.prog 22 (p1 (.st .term) fun t=>⟨some (cX t=true),none,.int .i64 (aZ t),[]⟩):=
 aW (ee Tryz.func22) fun t _ ho=>wu t (ho _ rfl)
theorem tp:ag Tryz.prog 45 (Lr):=
 Jo (ee Tryz.func45) fun s xs ys ho=>g0 sn a0 Tryz.func45 (K9 s xs ys ho)
theorem uO:ag Tryz.prog 87 (GX):=
 GY (ee Tryz.func87) fun s xs=>g0 sn a0 Tryz.func87 (I3 s xs)
theorem Fm:ag Tryz.prog 46 (iT fun s sp x t=>⟨some (sp.length<=9223372036854775807),none,.st .op (mE sp t),ko s sp x⟩):=
 lX (ee Tryz.func46) fun s sp x t ht ho=>g0 sn ⟨[(2,fun S0=>⟨Nat,fun k=>k<=sp.length/\mE sp t=dG sp t k,fun k=>[(5,.int .i64 ((k:Int)-1))],fun _=>[],fun k=>k⟩)],[],[]⟩ Tryz.func46 (I4 s sp x t ht (ho _ rfl))
theorem yY:ag Tryz.prog 52 (pCp fun t=>⟨some (t.names.length *16<=140737488355328),none,.tup [.st .op (eV t).1,.bool (eV t).2],[]⟩):=
 Ll (ee Tryz.func52) fun t ht ho=>g1 nn (fun _=>[]) nn nn (fun d=>Nat.beq d 27) (sc (uI) sn) a0 Tryz.func52 (BB t ht (ho _ rfl))
theorem BL:ag Tryz.prog 86 (Lq):=
 Jn (ee Tryz.func86) fun s sp ho=>g1 nn (fun _=>[]) nn (fun d=>Nat.beq d 5005) nn sn a0 Tryz.func86 (Fa s sp ho)
theorem Ic:au Tryz.prog 50:=ee Tryz.func50
theorem yZ(n s:Nat)(sp:List Nam)(x:CS)(nm:Str)(t:Trm)(ht:Wf (.st .term) t)(ho:CmO n (sp++[nm0 nm]) x t)(hT:ag Tryz.prog 23 (iT fun s sp x t=>cmA n s sp x t)):aw Tryz.prog 50 [.ptr 900 0,.str nm,.cptr (.st .term t)] (ko s sp x) ((Lp n s sp x nm t)):=
 g1 nn (fun f=>if Nat.beq f 45||Nat.beq f 87 then[some 1001]else[]) nn (fun d=>Nat.beq d 14) nn (sc (hT) sn) a0 Tryz.func50 (I5 n s sp x nm t ht ho)
theorem uP(n:Nat)(hT:ag Tryz.prog 23 (iT fun s sp x t=>cmA n s sp x t)):ag Tryz.prog 50 (Jk fun s sp x nm t=>Lp n s sp x nm t):=
 Jl Ic fun s sp x nm t ht ho=>yZ n s sp x nm t ht (ho _ rfl) hT
theorem Kg:au Tryz.prog 51:=ee Tryz.func51
theorem BM(n s:Nat)(sp:List Nam)(x:CS)(l:List Trm)(hl:Wf (.lst (.st .term)) l)(ho:CmL n sp x l)(hT:ag Tryz.prog 23 (iT fun s sp x t=>cmA n s sp x t)):aw Tryz.prog 51 [.ptr 900 0,.lst (.st .term) l none] (ko s sp x) ((GW n s sp x l)):=
 g1 nn (fun f=>if Nat.beq f 45||Nat.beq f 87 then[some 1001]else[]) nn nn nn (sc (hT) sn) ⟨[(1,fun S0=>⟨Nat×Nat×CS,fun y=>y.1<=l.length/\y.2.1=s+2 *mj (wN n) (l.take y.1)/\y.2.2=fP (aX n) sp (l.take y.1) x,fun y=>[(7,.int .i64 y.1)],fun y=>ko y.2.1 sp y.2.2,fun y=>l.length-y.1⟩)],[],[]⟩ Tryz.func51 (Ka n s sp x l hl ho)
theorem Ie(n:Nat)(hT:ag Tryz.prog 23 (iT fun s sp x t=>cmA n s sp x t)):ag Tryz.prog 51 (CQ fun s sp x l=>GW n s sp x l):=
 GV Kg fun s sp x l hl ho=>BM n s sp x l hl (ho _ rfl) hT
theorem Kh:au Tryz.prog 48:=ee Tryz.func48
theorem BN(n s:Nat)(sp:List Nam)(x:CS)(t:Trm)(ht:Wf (.st .term) t)(ho:CmK n 12 sp x t)(hT:ag Tryz.prog 23 (iT fun s sp x t=>cmA n s sp x t)):aw Tryz.prog 48 [.ptr 900 0,.cptr (.st .term t)] (ko s sp x) ((Ln n s sp x t)):=
 g1 nn (fun f=>if Nat.beq f 45||Nat.beq f 87 then[some 1001]else[]) nn nn (fun d=>Nat.beq d 49||Nat.beq d 68) (sc (hT) (sc tp (sc uO sn))) a0 Tryz.func48 (Kb n s sp x t ht ho)
theorem Ig(n:Nat)(hT:ag Tryz.prog 23 (iT fun s sp x t=>cmA n s sp x t)):ag Tryz.prog 48 (iT fun s sp x t=>Ln n s sp x t):=
 lX Kh fun s sp x t ht ho=>BN n s sp x t ht (ho _ rfl) hT
theorem Ki:au Tryz.prog 47:=ee Tryz.func47
theorem BO(n s:Nat)(sp:List Nam)(x:CS)(t:Trm)(ht:Wf (.st .term) t)(ho:CmK n 6 sp x t)(hT:ag Tryz.prog 23 (iT fun s sp x t=>cmA n s sp x t)):aw Tryz.prog 47 [.ptr 900 0,.cptr (.st .term t)] (ko s sp x) ((Lm n s sp x t)):=
 g1 nn (fun f=>if Nat.beq f 45||Nat.beq f 87 then[some 1001]else[]) nn (fun d=>Nat.beq d 33||Nat.beq d 63) (fun d=>Nat.beq d 39) (sc (hT) (sc BL sn)) ⟨[(5,fun S0=>⟨Nat,fun i=>i<=t.names.length,fun i=>[(51,.int .i64 i)],fun i=>[(45,.box (.agg [.glst 0 0 700,.glst (sp.length+i) (sp.length+i) 6039,.ptr 903 0])),(700,.grow (.st .op) 0 []),(6039,.grow (.st .nm) (sp.length+i) (sp++(t.names.take i).map nm0))],fun i=>t.names.length-i⟩)],[(400010,[700])],[]⟩ Tryz.func47 (Kc n s sp x t ht ho)
theorem Ih(n:Nat)(hT:ag Tryz.prog 23 (iT fun s sp x t=>cmA n s sp x t)):ag Tryz.prog 47 (iT fun s sp x t=>Lm n s sp x t):=
 lX Ki fun s sp x t ht ho=>BO n s sp x t ht (ho _ rfl) hT
theorem Kj:au Tryz.prog 49:=ee Tryz.func49
theorem BP(n s:Nat)(sp:List Nam)(x:CS)(t:Trm)(ht:Wf (.st .term) t)(ho:CmK n 13 sp x t)(hT:ag Tryz.prog 23 (iT fun s sp x t=>cmA n s sp x t)):aw Tryz.prog 49 [.ptr 900 0,.cptr (.st .term t)] (ko s sp x) ((Lo n s sp x t)):=
 g1 nn (fun f=>if Nat.beq f 45||Nat.beq f 87 then[some 1001]else[]) nn nn (fun d=>Nat.beq d 24||Nat.beq d 106) (sc (hT) (sc tp (sc uO (sc (uI) (sc ((uP n hT)) sn))))) ⟨[(4,fun S0=>⟨Nat×Nat×List Int×List Int×CS,fun y=>y.1<=t.names.length/\y.2.1=s+2 *wN n (t.parts.getD 0 default)+2 *vZ (wN n) t y.1/\y.2.2.1.length=y.1/\y.2.2.2.1.length=y.1/\xW n t sp x y.1 y.2.2.2.1 y.2.2.2.2/\fB (aX n) t sp (t.names.length-y.1) y.1 y.2.2.1 y.2.2.2.1 y.2.2.2.2=fB (aX n) t sp t.names.length 0 [] [] (xV n t sp x),fun y=>[(37,.int .i64 y.1),(5,.lst (.int .i64) y.2.2.1 (some 701)),(6,.lst (.int .i64) y.2.2.2.1 (some 702))],fun y=>(701,.tail (.int .i64) y.2.2.1.length)::(702,.tail (.int .i64) y.2.2.2.1.length)::ko y.2.1 sp y.2.2.2.2,fun y=>t.names.length-y.1⟩),(12,fun S0=>Jm S0 fun js s1 x1=>⟨Nat×CS,fun y=>y.1<=js.length/\y.2.1.length=x1.1.length/\y.2.2=x1.2/\setAll x1.1.length (js.drop y.1) y.2.1=setAll x1.1.length js x1.1,fun y=>[(93,.int .i64 y.1)],fun y=>ko s1 sp y.2,fun y=>js.length-y.1⟩)],[],[]⟩ Tryz.func49 (Kd n s sp x t ht ho)
theorem Ii(n:Nat)(hT:ag Tryz.prog 23 (iT fun s sp x t=>cmA n s sp x t)):ag Tryz.prog 49 (iT fun s sp x t=>Lo n s sp x t):=
 lX Kj fun s sp x t ht ho=>BP n s sp x t ht (ho _ rfl) hT
theorem z6:au Tryz.prog 23:=ee Tryz.func23
theorem z7(n s:Nat)(sp:List Nam)(x:CS)(t:Trm)(ht:Wf (.st .term) t)(ho:CmO (n+1) sp x t)(hT:ag Tryz.prog 23 (iT fun s sp x t=>cmA n s sp x t))(hW:ag Tryz.prog 50 (Jk fun s sp x nm t=>Lp n s sp x nm t))(hA:ag Tryz.prog 51 (CQ fun s sp x l=>GW n s sp x l))(hC:ag Tryz.prog 48 (iT fun s sp x t=>Ln n s sp x t))(hF:ag Tryz.prog 47 (iT fun s sp x t=>Lm n s sp x t))(hM:ag Tryz.prog 49 (iT fun s sp x t=>Lo n s sp x t)):aw Tryz.prog 23 [.ptr 900 0,.cptr (.st .term t)] (ko s sp x) ((cmA (n+1) s sp x t)):=
 g1 nn (fun f=>if Nat.beq f 45||Nat.beq f 87 then[some 1001]else[]) nn nn (fun d=>Nat.beq d 91) (sc (hT) (sc tp (sc Fm (sc yY (sc (hW) (sc (hA) (sc (hC) (sc (hF) (sc (hM) sn))))))))) a0 Tryz.func23 (I6 n s sp x t ht ho)
theorem gG:∀n:Nat,ag Tryz.prog 23 (iT fun s sp x t=>cmA n s sp x t)
 |0=>lX z6 fun s sp x t _ ho=>absurd (ho _ rfl).1 (by have:=dh t;omega)
 |n+1=>lX z6 fun s sp x t ht ho=>z7 n s sp x t ht (ho _ rfl) (gG n) (uP n (gG n)) (Ie n (gG n)) (Ig n (gG n)) (Ih n (gG n)) (Ii n (gG n))
theorem BQ(n:Nat)(t:Trm)(l:List Bndg)(ht:Wf (.st .term) t)(hl:Wf (.lst (.st .bind)) l)(ho:AA n t l)(hT:ag Tryz.prog 23 (iT fun s sp x t=>cmA n s sp x t)):aw Tryz.prog 11 [.st .term t,.lst (.st .bind) l none] [] ((comA n t l)):=
 g1 nn (fun _=>[]) nn (fun d=>Nat.beq d 5017) nn (sc (hT) (sc (BK) sn)) ⟨[(7,fun S0=>⟨Nat,fun i=>i<=l.length,fun i=>[(22,.int .i64 i)],fun i=>[(19,.box (.agg [.glst 0 0 700,.glst i i 701,.ptr 7 0])),(700,.grow (.st .op) 0 []),(701,.grow (.st .nm) i ((l.take i).map nmB))],fun i=>l.length-i⟩)],[(11,[2]),(400012,[700]),(400013,[17])],[]⟩ Tryz.func11 (Ke n t l ht hl ho)
theorem Ij:ag Tryz.prog 11 (p2 (.st .term) (.lst (.st .bind)) fun t l=>comA (szT t) t l):=
 dx (ee Tryz.func11) fun t l ht hl ho=>BQ (szT t) t l ht hl (ho _ rfl) (gG (szT t))
theorem Fo:ag Tryz.prog 9 (p1 (.lst (.st .bind)) fun l=>.ret (.bool (decide (l.length<=100)))):=
 aW (ee Tryz.func9) fun l hl _=>g0 sn a0 Tryz.func9 (I7 l hl)
theorem uQ:au Tryz.prog 8:=ee Tryz.func8
theorem wv(n:Nat)(s:Trm)(m:Int)(hs:Wf (.st .term) s)(ho:szT s<=n+1/\0<=m/\m<=1000000)(hA:ag Tryz.prog 8 (p2 (.st .term) (.int .i64) fun s m=>⟨some (szT s<=n/\0<=m/\m<=1000000),none,.int .i64 (szcT s m),[]⟩)):aw Tryz.prog 8 [.st .term s,.int .i64 m] [] (⟨some (szT s<=n+1/\0<=m/\m<=1000000),none,.int .i64 (szcT s m),[]⟩):=
 g0 (sc (hA) sn) ⟨[(3,fun S0=>⟨Nat×Int,fun x=>x.1<=s.parts.length/\1<=x.2/\x.2<=m+1/\szcTL (s.parts.drop x.1) x.2 m=szcT s m,fun x=>[(5,.int .i64 x.2),(6,.int .i64 x.1)],fun _=>[],fun x=>s.parts.length-x.1⟩)],[],[]⟩ Tryz.func8 (Fb n s m hs ho)
theorem BR:∀n:Nat,ag Tryz.prog 8 (p2 (.st .term) (.int .i64) fun s m=>⟨some (szT s<=n/\0<=m/\m<=1000000),none,.int .i64 (szcT s m),[]⟩):=by
 intro n
 induction n with
 |zero=>exact dx uQ fun a m _ _ ho=>absurd (ho _ rfl).1 (by have:=dh a;omega)
 |succ n ih=>exact dx uQ fun a m ha _ ho=>wv n a m ha (ho _ rfl) ih
end Go.AL.Seat
end
section
open Go Go.AL Go.Pd
namespace Go.AL.Seat
theorem Kk(n:Nat)(s:Shape)(m:Int)(hs:Wf (.st .shape) s)(ho:sz s<=n+1/\0<=m/\m<=1000000) :
  let A:=(1:Int);let B:=(0:Int);let C:=s=s/\m=m/\B=B/\s=s/\True;let D:=(↑(List.length s.parts):Int);let E:=dfl (Ty.st SN.shape);(∃(x:Nat×Int),(x.1<=List.length s.parts/\A<=x.2/\x.2<=m+A/\sizeL (List.drop x.1 s.parts) x.2 m=sizeF s m)/\A=x.2/\B=(↑x.1:Int)/\C)/\∀(x:Nat×Int),let F:=(↑x.1:Int);let G:=m-x.2;let H:=List.getD s.parts (Int.toNat F) E;let I:=True/\x.2=sizeF s m/\True;x.1<=List.length s.parts/\A<=x.2/\x.2<=m+A/\sizeL (List.drop x.1 s.parts) x.2 m=sizeF s m->if decide (F<D)=true then if decide (x.2<=m)=true then(B<=F/\F<D)/\inR IntKind.i64 G/\(sz H<=n/\B<=m-x.2/\m-x.2<=(1000000:Int))/\inR IntKind.i64 (x.2+sizeF H G)/\inR IntKind.i64 (F+A)/\∃(y:Nat×Int),(y.1<=List.length s.parts/\A<=y.2/\y.2<=m+A/\sizeL (List.drop y.1 s.parts) y.2 m=sizeF s m)/\List.length s.parts-y.1<List.length s.parts-x.1/\x.2+sizeF H G=y.2/\F+A=(↑y.1:Int)/\C else I else I:=by
 conv=>zeta
 have ln:=hs.parts.len;have hz:=pD s;obtain⟨ho1,ho2,ho3⟩:=ho;have h0:sizeL s.parts 1 m=sizeF s m:=by cases s;rfl
 simp only[Mv,O4,Ni,N4];refine⟨⟨(0,1),⟨ME _,by omega,by omega,h0⟩,rfl,rfl⟩,?_⟩;rintro⟨k,c⟩ ⟨h1,h2,h3,h4⟩;simp only at h1 h2 h3 h4⊢;apply aa<;>intro hk
 ·replace hk:=Xo hk;have hk:k<s.parts.length:=by omega
  have hm:=lg (bW s.parts k (dfl (.st .shape)) hk);rw[aU s.parts k (dfl (.st .shape)) hk]at h4;simp only[sizeL]at h4;apply aa<;>intro hc
  ·replace hc:=Xo hc;rw[Mu hc]at h4;have hb:=sizeF_bd (s.parts.getD k (dfl (.st .shape))) (m-c) (by omega);exact⟨by omega,ai (by omega) (by omega),by omega,ai (by omega) (by omega),bu hk ln,(k+1,_),⟨by omega,by simp only;omega,by simp only;omega,h4⟩,by simp only;omega,rfl,rfl⟩
  ·rw[Mp (fun e=>hc (Xd e))]at h4;exact h4
 ·replace hk:¬((k:Int)<(s.parts.length:Int)):=fun e=>hk (Xd e);have e:k=s.parts.length:=by omega
  subst e;rw[MX]at h4;exact h4
theorem Fp(ns:List Str)(n:Int)(hl:Wf (.lst .str) ns) :
  let A:=(0:Int);let B:=True;let C:=ns=ns/\n=n/\B;let D:=(↑(List.length ns):Int);let E:=dfl Ty.str;let F:=B/\false=iv ns n/\B;let G:=ns=ns/\n=n/\true=true/\false=false/\B;let H:=(1:Int);(∃(x:Nat),let I:=List.take x ns;(x<=List.length ns/\List.all I az=true/\List.Nodup I)/\A=(↑x:Int)/\C)/\∀(x:Nat),let I:=List.take x ns;let J:=(↑x:Int);let K:=A<=J/\J<D;let L:=Int.toNat J;x<=List.length ns/\List.all I az=true/\List.Nodup I->if decide (J<D)=true then K/\if(!az (List.getD ns L E))=true then F else(∃(x_1:Nat),let M:=(↑x_1:Int);(M<=J/\¬List.getD ns L E∈List.take x_1 ns)/\A=M/\J=J/\G)/\∀(x_1:Nat),let M:=(↑x_1:Int);M<=J/\¬List.getD ns L E∈List.take x_1 ns->if decide (M<J)=true then(A<=M/\M<D)/\K/\if decide (List.getD ns (Int.toNat M) E=List.getD ns L E)=true then F else inR IntKind.i64 (M+H)/\∃(y:Nat),((↑y:Int)<=J/\¬List.getD ns L E∈List.take y ns)/\Int.toNat J-y<Int.toNat J-x_1/\M+H=(↑y:Int)/\J=J/\G else inR IntKind.i64 (J+H)/\∃(y:Nat),let N:=List.take y ns;(y<=List.length ns/\List.all N az=true/\List.Nodup N)/\List.length ns-y<List.length ns-x/\J+H=(↑y:Int)/\C else B/\decide (D=n)=iv ns n/\B:=by
 conv=>zeta
 have ln:=hl.len;simp only[Mv,O4,Ni,N4];refine⟨⟨0,⟨ME _,by simp,by simp⟩,rfl⟩,?_⟩;rintro k ⟨h1,h2,h3⟩;apply aa<;>intro h
 ·replace h:=Xo h;have hk:k<ns.length:=by omega
  have hmem:=bW ns k (dfl .str) hk;have ht:=lP ns k (dfl .str) hk;refine⟨by omega,aa (fun a=>?_) (fun a=>?_)⟩
  ·have a':ns.all az=false:=by rw[O1];intro e;have:=MI.1 e _ hmem;rw[this]at a;simp at a
   unfold iv;rw[a'];simp
  ·have a':az (ns.getD k (dfl .str))=true:=by simpa using a
   refine⟨⟨0,⟨by omega,by simp⟩,rfl⟩,?_⟩;rintro j ⟨j1,j2⟩;apply aa<;>intro b
   ·replace b:=Xo b;have hj:j<k:=by omega
    have hjn:j<ns.length:=by omega
    have htj:=lP ns j (dfl .str) hjn;refine⟨by omega,by omega,aa (fun c=>?_) (fun c=>?_)⟩
    ·replace c:=Xo c;have hnd:¬ns.Nodup:=by intro hn;rw[Oe]at hn;have:=O3.1 hn j k hjn hk hj;rw[Ms,Ms,Mn hjn,Mn hk]at c;exact this c
     unfold iv;simp[hnd]
    ·refine⟨bu hjn ln,j+1,⟨by omega,?_⟩,by omega,by omega⟩;rw[htj,MW,Nf,Ps];exact⟨j2,fun e=>c (Xd e.symm)⟩
   ·have hj:j=k:=by have:¬((j:Int)<(k:Int)):=fun e=>b (Xd e);omega
    subst hj;refine⟨bu hk ln,j+1,⟨by omega,?_,?_⟩,by omega,by omega⟩
    ·rw[ht,List.all_append,h2];simpa using a'
    ·rw[ht,PD];refine⟨h3,by simp,fun x hx y hy=>?_⟩;rw[Nf]at hy;subst hy;intro e;subst e;exact j2 hx
 ·replace h:¬((k:Int)<(ns.length:Int)):=fun e=>h (Xd e);have e:k=ns.length:=by omega
  subst e;rw[NS]at h2 h3;unfold iv;rw[h2];simp[h3]
theorem Ik(s:Shape)(hs:Wf (.st .shape) s) :
  let A:=(↑(List.length s.names):Int);let B:=(0:Int);let C:=True;let D:=(↑(List.length s.parts):Int);let E:=C/\decide (D=B)=bh s/\C;let F:=C/\false=bh s/\C;let G:=if decide (A=B)=true then E else F;let H:=if cH s.name=true then G else F;let I:=if cH s.name=true then F else F;let J:=if az s.pkg=true then H else if decide (s.pkg=[])=true then if decide (s.kind=(9:Int))=true then I else I else I;let K:=if decide (s.name=([73,110,116]:Str))=true then J else if decide (s.name=([66,111,111,108]:Str))=true then J else if decide (s.name=([84,101,120,116]:Str))=true then J else if az s.pkg=true then H else if decide (s.pkg=[])=true then if decide (s.kind=(9:Int))=true then if cH s.name=true then if(!decide (s.name=([65,110,121]:Str)))=true then G else F else F else I else I;let L:=C/\iv s.names D=bh s/\C;let M:=(1:Int);if decide (s.kind=(9:Int))=true then K else if decide (s.kind=(10:Int))=true then K else if(!decide (s.pkg=[]))=true then F else if(!decide (s.name=[]))=true then F else if decide (s.kind=(6:Int))=true then L else if decide (s.kind=(7:Int))=true then L else if decide (B<A)=true then F else if decide (s.kind=(8:Int))=true then C/\decide (M<=D)=bh s/\C else if decide (s.kind=(5:Int))=true then C/\decide (D=M)=bh s/\C else if decide (M<=s.kind)=true then if decide (s.kind<=(4:Int))=true then E else F else F:=by
 conv=>zeta
 have n0:((s.names.length:Int)=0)↔s.names=[]:=by rw[<-ND];omega
 have n1:(0<(s.names.length:Int))↔¬s.names=[]:=by rw[<-ND];omega
 have p0:((s.parts.length:Int)=0)↔s.parts=[]:=by rw[<-ND];omega
 have p1:((s.parts.length:Int)=1)↔s.parts.length=1:=by omega
 have p2:(1<=(s.parts.length:Int))↔¬s.parts=[]:=by rw[<-ND];omega
 have hn:iv s.names (s.parts.length:Int)=dL s:=by unfold iv dL;rw[Nn.2 (show((s.names.length:Int)=(s.parts.length:Int))↔s.names.length=s.parts.length by omega)]
 simp only[n0,n1,p0,p1,p2,hn,MD,Ni,N4];have hf:bh s=bh s:=rfl;conv at hf=>rhs;unfold bh
 unfold ld at hf;have hk:(s.kind=1∨s.kind=2∨s.kind=3∨s.kind=4)↔(1<=s.kind/\s.kind<=4):=by omega
 simp only[hk]at hf;clear hk n0 n1 p0 p1 p2 hn;revert hf;generalize bh s=F;generalize dL s=A;generalize cH s.name=B;generalize az s.pkg=C;generalize s.kind=K;intro hf
 repeat' (apply aa<;>intro _)
 all_goals (subst hf;(try simp_all);try (intros;omega))
theorem Il(n:Nat)(s:Shape)(hs:Wf (.st .shape) s)(hn:sz s<=n+1) :
  let A:=True/\false=allS bh s/\True;let B:=s=s/\false=false/\s=s/\True;let C:=(↑(List.length s.parts):Int);let D:=dfl (Ty.st SN.shape);if(!bh s)=true then A else(∃(x:Nat),(x<=List.length s.parts/\allS bh s=allL bh (List.drop x s.parts))/\(0:Int)=(↑x:Int)/\B)/\∀(x:Nat),let E:=(↑x:Int);let F:=List.getD s.parts (Int.toNat E) D;x<=List.length s.parts/\allS bh s=allL bh (List.drop x s.parts)->if decide (E<C)=true then((0:Int)<=E/\E<C)/\sz F<=n/\if(!allS bh F)=true then A else inR IntKind.i64 (E+(1:Int))/\∃(y:Nat),(y<=List.length s.parts/\allS bh s=allL bh (List.drop y s.parts))/\List.length s.parts-y<List.length s.parts-x/\E+(1:Int)=(↑y:Int)/\B else True/\true=allS bh s/\True:=by
 conv=>zeta
 have ln:=hs.parts.len;have hz:=pD s;simp only[Mv,O4,Ni,N4];apply aa<;>intro h
 ·have h:bh s=false:=by simpa using h
  rw[lQ,h];rfl
 have h:bh s=true:=by simpa using h
 refine⟨⟨0,⟨ME _,by rw[lQ,h];rfl⟩,rfl⟩,?_⟩;rintro k ⟨h1,h3⟩;apply aa<;>intro h
 ·replace h:=Xo h;have hk:k<s.parts.length:=by omega
  have hm:=lg (bW s.parts k (dfl (.st .shape)) hk);rw[aU s.parts k (dfl (.st .shape)) hk]at h3;simp only[allL]at h3;refine⟨by omega,by omega,?_⟩;cases e:allS bh (s.parts.getD k (dfl (.st .shape)))
  ·rw[e]at h3;rw[h3];simp
  ·simp only[e,MU]at h3;exact⟨bu hk ln,k+1,⟨by omega,h3⟩,by omega,by omega⟩
 ·replace h:¬((k:Int)<(s.parts.length:Int)):=fun e=>h (Xd e);have e:k=s.parts.length:=by omega
  subst e;rw[h3,MX];rfl
theorem Kl(n:Nat)(s:Shape)(hs:Wf (.st .shape) s)(hn:sz s<=n+1)(hb:n<=1000000) :
  let A:=(0:Int);let B:=(↑(maxDeep s.parts):Int);let C:=s=s/\A=A/\s=s/\True;let D:=(↑(List.length s.parts):Int);let E:=dfl (Ty.st SN.shape);let F:=(1:Int);(∃(x:Nat×Int),(x.1<=List.length s.parts/\A<=x.2/\max x.2 (↑(maxDeep (List.drop x.1 s.parts)):Int)=B)/\A=x.2/\A=(↑x.1:Int)/\C)/\∀(x:Nat×Int),let G:=(↑x.1:Int);let H:=List.getD s.parts (Int.toNat G) E;let I:=(↑(deepF H):Int);let J:=inR IntKind.i64 (G+F);x.1<=List.length s.parts/\A<=x.2/\max x.2 (↑(maxDeep (List.drop x.1 s.parts)):Int)=B->if decide (G<D)=true then(A<=G/\G<D)/\sz H<=n/\if decide (x.2<I)=true then J/\∃(y:Nat×Int),(y.1<=List.length s.parts/\A<=y.2/\max y.2 (↑(maxDeep (List.drop y.1 s.parts)):Int)=B)/\List.length s.parts-y.1<List.length s.parts-x.1/\I=y.2/\G+F=(↑y.1:Int)/\C else J/\∃(y:Nat×Int),(y.1<=List.length s.parts/\A<=y.2/\max y.2 (↑(maxDeep (List.drop y.1 s.parts)):Int)=B)/\List.length s.parts-y.1<List.length s.parts-x.1/\x.2=y.2/\G+F=(↑y.1:Int)/\C else inR IntKind.i64 (x.2+F)/\True/\x.2+F=(↑(deepF s):Int)/\True:=by
 conv=>zeta
 have ln:=hs.parts.len;have hz:=pD s;have hd:deepF s=maxDeep s.parts+1:=by cases s;rfl
 have hds:=maxDeep_sz s.parts;simp only[Mv,O4,Ni,N4];refine⟨⟨(0,0),⟨ME _,by simp,by simp only[Nq];omega⟩,rfl,rfl⟩,?_⟩;rintro⟨k,c⟩ ⟨h1,h2,h3⟩;simp only at h1 h2 h3⊢;apply aa<;>intro h
 ·replace h:=Xo h;have hk:k<s.parts.length:=by omega
  have hm:=lg (bW s.parts k (dfl (.st .shape)) hk);rw[aU s.parts k (dfl (.st .shape)) hk]at h3;simp only[maxDeep]at h3;refine⟨by omega,by omega,aa (fun a=>?_) (fun a=>?_)⟩
  ·replace a:=Xo a;exact⟨bu hk ln,(k+1,(deepF (s.parts.getD k (dfl (.st .shape))):Int)),⟨by omega,by simp only;omega,by simp only;omega⟩,by simp only;omega,rfl,rfl⟩
  ·replace a:¬c<(deepF (s.parts.getD k (dfl (.st .shape))):Int):=fun e=>a (Xd e);exact⟨bu hk ln,(k+1,c),⟨by omega,by simp only;omega,by simp only;omega⟩,by simp only;omega,rfl,rfl⟩
 ·replace h:¬((k:Int)<(s.parts.length:Int)):=fun e=>h (Xd e);have e:k=s.parts.length:=by omega
  subst e;rw[MX]at h3;simp only[maxDeep]at h3;exact⟨ai (by omega) (by omega),by omega⟩
theorem Fq(s:Shape)(hs:Wf (.st .shape) s) :
  let A:=(400:Int);let B:=True;let C:=sz s<=(400:Nat);(sz s<=sz s/\(0:Int)<=A/\A<=(1000000:Int))/\if decide (A<sizeF s A)=true then B/\(3:Int)=cw s/\B else C/\if decide ((40:Int)<(↑(deepF s):Int))=true then B/\(91:Int)=cw s/\B else C/\if(!allS bh s)=true then B/\(70:Int)=cw s/\B else B/\(0:Int)=cw s/\B:=by
 conv=>zeta
 simp only[O4,Ni,N4];rw[LG];refine⟨⟨Mx _,by omega,by omega⟩,aa (fun h=>?_) (fun h=>?_)⟩
 ·rw[Mu (Xo h)]
 ·have h':¬(400:Int)<sizeF s 400:=fun e=>h (Xd e);have hs4:sz s<=400:=by rw[sizeF_eq s 400 (by omega)]at h';omega
  rw[Mp h'];refine⟨hs4,aa (fun g=>?_) (fun g=>⟨hs4,?_⟩)⟩
  ·rw[Mu (Xo g)]
  ·rw[Mp (fun e=>g (Xd e))];cases allS bh s<;>simp
theorem Im(p:Int)  :
  let A:=True;let B:=A/\false=fb p/\A;if decide ((0:Int)<=p)=true then if decide (p<=(1114111:Int))=true then if decide (p<(55296:Int))=true then A/\true=fb p/\A else A/\decide ((57343:Int)<p)=fb p/\A else B else B:=by
 conv=>zeta
 unfold fb;by_cases a:0<=p<;>by_cases b:p<=1114111<;>by_cases c:p<55296<;>simp[a,b,c]
theorem Io(p:Int)(ho:0<=p/\p<=1114111) :
  let A:=(128:Int);let B:=True;let C:=(fun(n:Int)=>UInt8.ofNat (Int.toNat n));let D:=(64:Int);let E:=(0:Int);let F:=D≠E;let G:=Int.tdiv p D;let H:=F/\inR IntKind.i64 G;let I:=(192:Int)+Int.tdiv p D;let J:=F/\inR IntKind.i64 (Int.tmod p D);let K:=A+Int.tmod p D;let L:=inR IntKind.i64 (K);let M:=inR IntKind.u8 (K);let N:=(4096:Int);let O:=Int.tdiv p N;let P:=N≠E/\inR IntKind.i64 O;let Q:=(224:Int)+Int.tdiv p N;let R:=F/\inR IntKind.i64 (Int.tmod G D);let S:=A+Int.tmod G D;let T:=inR IntKind.i64 (S);let U:=inR IntKind.u8 (S);let V:=(262144:Int);let W:=(240:Int)+Int.tdiv p V;let X:=A+Int.tmod O D;if decide (p<A)=true then inR IntKind.u8 p/\B/\List.map C [p]=cZ p/\B else if decide (p<(2048:Int))=true then H/\inR IntKind.i64 (I)/\inR IntKind.u8 (I)/\J/\L/\M/\B/\List.map C [I,K]=cZ p/\B else if decide (p<(65536:Int))=true then P/\inR IntKind.i64 (Q)/\inR IntKind.u8 (Q)/\H/\R/\T/\U/\J/\L/\M/\B/\List.map C [Q,S,K]=cZ p/\B else(V≠E/\inR IntKind.i64 (Int.tdiv p V))/\inR IntKind.i64 (W)/\inR IntKind.u8 (W)/\P/\(F/\inR IntKind.i64 (Int.tmod O D))/\inR IntKind.i64 (X)/\inR IntKind.u8 (X)/\H/\R/\T/\U/\J/\L/\M/\B/\List.map C [W,X,S,K]=cZ p/\B:=by
 conv=>zeta
 obtain⟨h1,h2⟩:=ho;have t1:Int.tdiv p 64=p/64:=Of h1;have t2:Int.tdiv p 4096=p/4096:=Of h1;have t3:Int.tdiv p 262144=p/262144:=Of h1;have m0:Int.tmod p 64=p%64:=OS h1;have m1:Int.tmod (p/64) 64=p/64%64:=OS (by omega);have m2:Int.tmod (p/4096) 64=p/4096%64:=OS (by omega);simp only[t1,t2,t3,m0,m1,m2];have u8:∀n:Int,0<=n->n<=255->inR IntKind.u8 n:=fun n a b=>⟨a,b⟩;have i64:∀n:Int,-10000000<=n->n<=10000000->inR IntKind.i64 n:=fun n a b=>ai (by omega) (by omega);unfold cZ jM;apply aa<;>intro a
 ·have a:=Xo a;rw[Mu a];exact⟨u8 _ (by omega) (by omega),trivial,rfl,trivial⟩
 have a:¬p<128:=fun e=>a (Xd e);rw[Mp a];apply aa<;>intro b
 ·have b:=Xo b;rw[Mu b]
  repeat (first|exact trivial|refine⟨by first|rfl|trivial|(exact⟨by decide,i64 _ (by omega) (by omega)⟩)|(exact i64 _ (by omega) (by omega))|(exact u8 _ (by omega) (by omega)),?_⟩)
 have b:¬p<2048:=fun e=>b (Xd e);rw[Mp b];apply aa<;>intro d
 ·have d:=Xo d;rw[Mu d]
  repeat (first|exact trivial|refine⟨by first|rfl|trivial|(exact⟨by decide,i64 _ (by omega) (by omega)⟩)|(exact i64 _ (by omega) (by omega))|(exact u8 _ (by omega) (by omega)),?_⟩)
 ·have d:¬p<65536:=fun e=>d (Xd e);rw[Mp d]
  repeat (first|exact trivial|refine⟨by first|rfl|trivial|(exact⟨by decide,i64 _ (by omega) (by omega)⟩)|(exact i64 _ (by omega) (by omega))|(exact u8 _ (by omega) (by omega)),?_⟩)
theorem Ip(s:Str)(hs:Wf .str s) :
  let A:=(0:Int);let B:=ie s;let C:=True/\A=B.1/\A=B.2/\True;let D:=(↑(List.length s):Int);let E:=A<=A/\A<D;let F:=(0:UInt8);let G:=(↑(UInt8.toNat (List.getD s (Int.toNat A) F)):Int);let H:=inR IntKind.i64 G;let I:=(240:Int);let J:=(↑(bT s):Int);let K:=false=false/\True;let L:=s=s/\A=A/\A=A/\K;let M:=(224:Int);let N:=(192:Int);let O:=(1:Int);let P:=(1:Nat);let Q:=(-300:Int);let R:=(300:Int);let S:=(2:Nat);let T:=(-20000:Int);let U:=(20000:Int);let V:=(3:Nat);let W:=(-1300000:Int);let X:=(1300000:Int);let Y:=(4:Nat);let Z:=(-90000000:Int);let a:=(90000000:Int);let b:=J=J/\s=s/\A=A/\A=A/\false=false/\K;let c:=(64:Int);if decide (s=[])=true then C else E/\H/\(E/\if decide (I<=G)=true then E/\H/\inR IntKind.i64 (G-I)/\(4:Int)=J/\G-I=gp s/\L else E/\if decide (M<=G)=true then E/\H/\inR IntKind.i64 (G-M)/\(3:Int)=J/\G-M=gp s/\L else E/\if decide (N<=G)=true then E/\H/\inR IntKind.i64 (G-N)/\(2:Int)=J/\G-N=gp s/\L else O=J/\G=gp s/\L)/\if decide (D<J)=true then C else(∃(x:Nat),(P<=x/\x<=bT s/\(x=P->Q<=aO s x/\aO s x<=R)/\(x=S->T<=aO s x/\aO s x<=U)/\(x=V->W<=aO s x/\aO s x<=X)/\(x=Y->Z<=aO s x/\aO s x<=a))/\O=(↑x:Int)/\gp s=aO s x/\b)/\∀(x:Nat),let d:=(↑x:Int);let e:=(↑(UInt8.toNat (List.getD s (Int.toNat d) F)):Int);P<=x/\x<=bT s/\(x=P->Q<=aO s x/\aO s x<=R)/\(x=S->T<=aO s x/\aO s x<=U)/\(x=V->W<=aO s x/\aO s x<=X)/\(x=Y->Z<=aO s x/\aO s x<=a)->if decide (d<J)=true then inR IntKind.i64 (aO s x*c)/\(A<=d/\d<D)/\inR IntKind.i64 e/\inR IntKind.i64 (aO s x*c+e)/\inR IntKind.i64 (aO s x*c+e-(128:Int))/\inR IntKind.i64 (d+O)/\∃(y:Nat),(P<=y/\y<=bT s/\(y=P->Q<=aO s y/\aO s y<=R)/\(y=S->T<=aO s y/\aO s y<=U)/\(y=V->W<=aO s y/\aO s y<=X)/\(y=Y->Z<=aO s y/\aO s y<=a))/\bT s-y<bT s-x/\d+O=(↑y:Int)/\aO s x*c+e-(128:Int)=aO s y/\b else if(!fb (aO s x))=true then C else(A<=aO s x/\aO s x<=(1114111:Int))/\(A<=A/\A<=J/\J<=D)/\if(!decide (cZ (aO s x)=List.drop (Int.toNat A) (List.take (Int.toNat J) s)))=true then C else True/\aO s x=B.1/\J=B.2/\True:=by
 conv=>zeta
 have ln:=hs.str;apply aa<;>intro h
 ·have h:=Xo h;subst h;exact Xr
 have hne:s≠[]:=fun e=>h (Xd e);have hpos:=NM.2 hne;have eb:∀b:UInt8,(b.toNat:Int)=bI b:=fun _=>rfl;simp only[eb,OR,Mv];obtain⟨n1,n2⟩:=KA (s.getD 0 0);have i64:∀n:Int,-10000000000<=n->n<=10000000000->inR IntKind.i64 n:=fun n a b=>ai (by omega) (by omega);have l0:(0:Int)<=0/\(0:Int)<(s.length:Int):=⟨by omega,by omega⟩;have hL:bT s=if 240<=bI (s.getD 0 0)then 4 else if 224<=bI (s.getD 0 0)then 3 else if 192<=bI (s.getD 0 0)then 2 else 1:=rfl
 have h0:gp s=if 240<=bI (s.getD 0 0)then bI (s.getD 0 0)-240 else if 224<=bI (s.getD 0 0)then bI (s.getD 0 0)-224 else if 192<=bI (s.getD 0 0)then bI (s.getD 0 0)-192 else bI (s.getD 0 0):=rfl
 refine⟨l0,i64 _ (by omega) (by omega),⟨l0,aa (fun a=>?_) (fun a=>⟨l0,aa (fun b=>?_) (fun b=>⟨l0,aa (fun c=>?_) (fun c=>?_)⟩)⟩)⟩,?_⟩
 ·have a:=Xo a;rw[Mu a]at hL h0;refine⟨l0,i64 _ (by omega) (by omega),i64 _ (by omega) (by omega),by rw[hL];rfl,h0.symm,?_⟩;exact Xr
 ·have a:¬240<=bI (s.getD 0 0):=fun e=>a (Xd e);have b:=Xo b;rw[Mp a,Mu b]at hL h0;refine⟨l0,i64 _ (by omega) (by omega),i64 _ (by omega) (by omega),by rw[hL];rfl,h0.symm,?_⟩;exact Xr
 ·have a:¬240<=bI (s.getD 0 0):=fun e=>a (Xd e);have b:¬224<=bI (s.getD 0 0):=fun e=>b (Xd e);have c:=Xo c;rw[Mp a,Mp b,Mu c]at hL h0;refine⟨l0,i64 _ (by omega) (by omega),i64 _ (by omega) (by omega),by rw[hL];rfl,h0.symm,?_⟩;exact Xr
 ·have a:¬240<=bI (s.getD 0 0):=fun e=>a (Xd e);have b:¬224<=bI (s.getD 0 0):=fun e=>b (Xd e);have c:¬192<=bI (s.getD 0 0):=fun e=>c (Xd e);rw[Mp a,Mp b,Mp c]at hL h0;refine⟨by rw[hL];rfl,h0.symm,?_⟩;exact Xr
 have hb0:-300<=gp s/\gp s<=300:=by rw[h0];(repeat' split)<;>omega
 have hb1:1<=bT s/\bT s<=4:=by rw[hL];(repeat' split)<;>omega
 clear hL h0 n1 n2;apply aa<;>intro a
 ·have a:=Xo a;have e:ie s=(0,0):=by unfold ie;rw[Mp hne,Mu (by omega)]
  rw[e];exact Xr
 have a:¬(s.length:Int)<(bT s:Int):=fun e=>a (Xd e);have hF:ie s=if fb (aO s (bT s))=true/\cZ (aO s (bT s))=s.take (bT s)then(aO s (bT s),(bT s:Int))else(0,0):=by unfold ie;rw[Mp hne,Mp (by omega)]
 refine⟨⟨1,⟨Mx _,hb1.1,fun _=>hb0,fun e=>by omega,fun e=>by omega,fun e=>by omega⟩,?_⟩,?_⟩
 ·exact Xr
 rintro k ⟨k1,k2,k3,k4,k5,k6⟩;apply aa<;>intro b
 ·have b:k<bT s:=by have:=Xo b;omega
  obtain⟨m1,m2⟩:=KA (s.getD k 0);have hf:aO s (k+1)=aO s k *64+bI (s.getD k 0)-128:=by obtain⟨j,rfl⟩:∃j,k=j+1:=⟨k-1,by omega⟩;rfl
  have hk:k=1∨k=2∨k=3:=by omega
  have hb:-1300000<=aO s k/\aO s k<=1300000:=by
   rcases hk with e|e|e
   ·have:=k3 e;omega
   ·have:=k4 e;omega
   ·exact k5 e
  refine⟨i64 _ (by omega) (by omega),⟨by omega,by omega⟩,i64 _ (by omega) (by omega),i64 _ (by omega) (by omega),i64 _ (by omega) (by omega),i64 _ (by omega) (by omega),k+1,⟨by omega,by omega,fun e=>by omega,fun e=>by have:=k3 (by omega);omega,fun e=>by have:=k4 (by omega);omega,fun e=>by have:=k5 (by omega);omega⟩,by omega,by omega,hf.symm,?_⟩;exact Xr
 ·have b:k=bT s:=by have:¬((k:Int)<(bT s:Int)):=fun e=>b (Xd e);omega
  subst b;simp only[Nq];apply aa<;>intro c
  ·rw[Mp (fun e=>by rw[e.1]at c;cases c)]at hF;rw[hF];exact Xr
  have c:fb (aO s (bT s))=true:=by simpa using c
  have c':=c;unfold fb at c';simp only[Mo,MD]at c';refine⟨⟨c'.1.1,c'.1.2⟩,⟨by omega,by omega,by omega⟩,aa (fun d=>?_) (fun d=>?_)⟩
  ·have d:¬cZ (aO s (bT s))=s.take (bT s):=by simpa using d
   rw[Mp (fun e=>d e.2)]at hF;rw[hF];exact Xr
  ·have d:cZ (aO s (bT s))=s.take (bT s):=by simpa using d
   rw[Mu ⟨c,d⟩]at hF;rw[hF];exact Xr
theorem Fs(ns:List Str)(b:Bool)(hl:Wf (.lst .str) ns) :
  let A:=(0:Int);let B:=True;let C:=ns=ns/\b=b/\B;let D:=(↑(List.length ns):Int);let E:=dfl Ty.str;let F:=B/\false=fc ns b/\B;let G:=b=false;let H:=(0:Nat);let I:=ns=ns/\b=b/\true=true/\false=false/\B;let J:=(1:Int);(∃(x:Nat),let K:=List.take x ns;(x<=List.length ns/\List.all K az=true/\(b=true->List.Nodup K))/\A=(↑x:Int)/\C)/\∀(x:Nat),let K:=List.take x ns;let L:=(↑x:Int);let M:=A<=L/\L<D;let N:=Int.toNat L;let O:=inR IntKind.i64 (L+J)/\∃(y:Nat),let P:=List.take y ns;(y<=List.length ns/\List.all P az=true/\(b=true->List.Nodup P))/\List.length ns-y<List.length ns-x/\L+J=(↑y:Int)/\C;x<=List.length ns/\List.all K az=true/\(b=true->List.Nodup K)->if decide (L<D)=true then M/\if(!az (List.getD ns N E))=true then F else(∃(x_1:Nat),let P:=(↑x_1:Int);(P<=L/\(b=true->¬List.getD ns N E∈List.take x_1 ns)/\(G->x_1=H))/\A=P/\L=L/\I)/\∀(x_1:Nat),let P:=(↑x_1:Int);P<=L/\(b=true->¬List.getD ns N E∈List.take x_1 ns)/\(G->x_1=H)->if decide (P<L)=true then if b=true then(A<=P/\P<D)/\M/\if decide (List.getD ns (Int.toNat P) E=List.getD ns N E)=true then F else inR IntKind.i64 (P+J)/\∃(y:Nat),((↑y:Int)<=L/\(b=true->¬List.getD ns N E∈List.take y ns)/\(G->y=H))/\Int.toNat L-y<Int.toNat L-x_1/\P+J=(↑y:Int)/\L=L/\I else O else O else B/\true=fc ns b/\B:=by
 conv=>zeta
 have ln:=hl.len;simp only[Mv,O4,Ni,N4];refine⟨⟨0,⟨ME _,by simp,by simp⟩,rfl⟩,?_⟩;rintro k ⟨h1,h2,h3⟩;apply aa<;>intro h
 ·replace h:=Xo h;have hk:k<ns.length:=by omega
  have hmem:=bW ns k (dfl .str) hk;have ht:=lP ns k (dfl .str) hk;refine⟨by omega,aa (fun a=>?_) (fun a=>?_)⟩
  ·have a':ns.all az=false:=by rw[O1];intro e;have:=MI.1 e _ hmem;rw[this]at a;simp at a
   unfold fc;rw[a'];simp
  ·have a':az (ns.getD k (dfl .str))=true:=by simpa using a
   refine⟨⟨0,⟨by omega,by simp,fun _=>rfl⟩,rfl⟩,?_⟩;rintro j ⟨j1,j2,j3⟩
   have nextk:(b=true->j=k)->inR IntKind.i64 ((k:Int)+1)/\∃y:Nat,(y<=ns.length/\(ns.take y).all az=true/\(b=true->(ns.take y).Nodup))/\ns.length-y<ns.length-k/\(k:Int)+1=(y:Int):=by
    intro hjk;refine⟨bu hk ln,k+1,⟨by omega,?_,fun hb=>?_⟩,by omega,by omega⟩
    ·rw[ht,List.all_append,h2];simpa using a'
    ·obtain rfl:=hjk hb;rw[ht,PD];refine⟨h3 hb,by simp,fun x hx y hy=>?_⟩;rw[Nf]at hy;subst hy;intro e;subst e;exact j2 hb hx
   apply aa<;>intro b1
   ·replace b1:=Xo b1;have hj:j<k:=by omega
    have hjn:j<ns.length:=by omega
    have htj:=lP ns j (dfl .str) hjn;apply aa<;>intro hb
    ·refine⟨by omega,by omega,aa (fun c=>?_) (fun c=>?_)⟩
     ·replace c:=Xo c;have hnd:¬ns.Nodup:=by intro hn;rw[Oe]at hn;have:=O3.1 hn j k hjn hk hj;rw[Ms,Ms,Mn hjn,Mn hk]at c;exact this c
      unfold fc;simp[hnd,hb]
     ·refine⟨bu hjn ln,j+1,⟨by omega,fun _=>?_,fun q=>by rw[hb]at q;cases q⟩,by omega,by omega⟩;rw[htj,MW,Nf,Ps];exact⟨j2 hb,fun e=>c (Xd e.symm)⟩
    ·exact nextk (fun q=>absurd q hb)
   ·refine nextk (fun _=>?_);have:¬((j:Int)<(k:Int)):=fun e=>b1 (Xd e);omega
 ·replace h:¬((k:Int)<(ns.length:Int)):=fun e=>h (Xd e);have e:k=ns.length:=by omega
  subst e;rw[NS]at h2 h3;unfold fc;rw[h2];cases b
  ·simp
  ·simp[h3]
theorem BS(n:Nat)(s:Shape)(hs:Wf (.st .shape) s)(hn:sz s<=n+1) :
  let A:=s=s/\s=s/\True;let B:=(↑(List.length s.parts):Int);let C:=dfl (Ty.st SN.shape);(∃(x:Nat),(x<=List.length s.parts/\allS aS s=(aS s&&allL aS (List.drop x s.parts)))/\(0:Int)=(↑x:Int)/\A)/\∀(x:Nat),let D:=(↑x:Int);let E:=List.getD s.parts (Int.toNat D) C;x<=List.length s.parts/\allS aS s=(aS s&&allL aS (List.drop x s.parts))->if decide (D<B)=true then((0:Int)<=D/\D<B)/\sz E<=n/\if(!allS aS E)=true then True/\true=!allS aS s/\True else inR IntKind.i64 (D+(1:Int))/\∃(y:Nat),(y<=List.length s.parts/\allS aS s=(aS s&&allL aS (List.drop y s.parts)))/\List.length s.parts-y<List.length s.parts-x/\D+(1:Int)=(↑y:Int)/\A else True/\decide (s.kind=(10:Int))=!allS aS s/\True:=by
 conv=>zeta
 have ln:=hs.parts.len;have hz:=pD s;simp only[Mv,O4,Ni,N4];refine⟨⟨0,⟨ME _,by rw[lQ];rfl⟩,rfl⟩,?_⟩;rintro k ⟨h1,h3⟩;apply aa<;>intro h
 ·replace h:=Xo h;have hk:k<s.parts.length:=by omega
  have hm:=lg (bW s.parts k (dfl (.st .shape)) hk);rw[aU s.parts k (dfl (.st .shape)) hk]at h3;simp only[allL]at h3;refine⟨by omega,by omega,aa (fun e=>?_) (fun e=>?_)⟩
  ·have e:allS aS (s.parts.getD k (dfl (.st .shape)))=false:=by simpa using e
   rw[e]at h3;rw[h3];simp
  ·have e:allS aS (s.parts.getD k (dfl (.st .shape)))=true:=by simpa using e
   rw[e,MU]at h3;exact⟨bu hk ln,k+1,⟨by omega,h3⟩,by omega,by omega⟩
 ·replace h:¬((k:Int)<(s.parts.length:Int)):=fun e=>h (Xd e);have e:k=s.parts.length:=by omega
  subst e;rw[h3,MX];simp[allL,aS]
theorem BT(l:List Shape)(hl:Wf (.lst (.st .shape)) l) :
  let A:=(0:Int);let B:=l=l/\True;let C:=(↑(List.length l):Int);let D:=dfl (Ty.st SN.shape);let E:=True/\false=List.all l bn/\True;(∃(x:Nat),(x<=List.length l/\List.all l bn=List.all (List.drop x l) bn)/\A=(↑x:Int)/\B)/\∀(x:Nat),let F:=(↑x:Int);let G:=A<=F/\F<C;let H:=List.getD l (Int.toNat F) D;x<=List.length l/\List.all l bn=List.all (List.drop x l) bn->if decide (F<C)=true then G/\if(!decide (cw H=A))=true then E else G/\sz H<=(400:Nat)/\if(!allS aS H)=true then E else inR IntKind.i64 (F+(1:Int))/\∃(y:Nat),(y<=List.length l/\List.all l bn=List.all (List.drop y l) bn)/\List.length l-y<List.length l-x/\F+(1:Int)=(↑y:Int)/\B else True/\true=List.all l bn/\True:=by
 conv=>zeta
 have ln:=hl.len;simp only[Mv,O4,Ni,N4];refine⟨⟨0,⟨ME _,rfl⟩,rfl⟩,?_⟩;rintro k ⟨h1,h3⟩;apply aa<;>intro h
 ·replace h:=Xo h;have hk:k<l.length:=by omega
  rw[aU l k (dfl (.st .shape)) hk,NK]at h3;have ht:bn (l.getD k (dfl (.st .shape)))=(decide (cw (l.getD k (dfl (.st .shape)))=0)&&allS aS (l.getD k (dfl (.st .shape)))):=rfl;refine⟨by omega,aa (fun c=>?_) (fun c=>?_)⟩
  ·have c:¬cw (l.getD k (dfl (.st .shape)))=0:=by simpa using c
   rw[ht,Xf c,Og,Og]at h3;rw[h3]
  ·have c:cw (l.getD k (dfl (.st .shape)))=0:=by simpa using c
   have hz:sz (l.getD k (dfl (.st .shape)))<=400:=by
    unfold cw at c;by_cases q:400<sz (l.getD k (dfl (.st .shape)))
    ·rw[Mu q]at c;exact absurd c (by decide)
    ·omega
   rw[ht,Xd c,MU]at h3;refine⟨by omega,hz,aa (fun e=>?_) (fun e=>?_)⟩
   ·have e:allS aS (l.getD k (dfl (.st .shape)))=false:=by simpa using e
    rw[e,Og]at h3;rw[h3]
   ·have e:allS aS (l.getD k (dfl (.st .shape)))=true:=by simpa using e
    rw[e,MU]at h3;exact⟨bu hk ln,k+1,⟨by omega,h3⟩,by omega,by omega⟩
 ·replace h:¬((k:Int)<(l.length:Int)):=fun e=>h (Xd e);have e:k=l.length:=by omega
  subst e;rw[h3,MX];rfl
theorem Ft(t:Trm)(n v s p:Int)  :
  let A:=True/\false=ib t n v s p/\True;if decide ((↑(List.length t.names):Int)=n)=true then if decide ((↑(List.length t.vars):Int)=v)=true then if decide ((↑(List.length t.shapes):Int)=s)=true then True/\decide ((↑(List.length t.parts):Int)=p)=ib t n v s p/\True else A else A else A:=by
 conv=>zeta
 unfold ib
 repeat' (apply aa<;>intro _)
 all_goals simp_all
theorem BU(s:Str)(hs:Wf .str s)(ho:s.length<=2000000) :
  let A:=(0:Int);let B:=A=A/\A=A/\True;let C:=(↑(List.length s):Int);let D:=List.take (Int.toNat C) s;let E:=jq s;(∃(x:Nat×Nat×List Int),(x.2.1<=List.length s/\List.length s-x.2.1<x.1/\List.length x.2.2<=x.2.1/\kx s x.1 x.2.1 x.2.2=jq s)/\A=(↑x.2.1:Int)/\x.2.2=[]/\s=s/\List.length x.2.2=(0:Nat)/\B)/\∀(x:Nat×Nat×List Int),let F:=(↑x.2.1:Int);let G:=ie (List.drop (Int.toNat F) D);x.2.1<=List.length s/\List.length s-x.2.1<x.1/\List.length x.2.2<=x.2.1/\kx s x.1 x.2.1 x.2.2=jq s->if decide (F<C)=true then(A<=F/\F<=C/\C<=C)/\if decide (G.2=A)=true then True/\E.1=[]/\(30:Int)=E.2.err/\F=E.2.pos/\True else(List.length x.2.2=List.length x.2.2/\(List.length x.2.2+List.length [G.1])*(8:Nat)<=(140737488355328:Nat))/\inR IntKind.i64 (F+G.2)/\∃(y:Nat×Nat×List Int),(y.2.1<=List.length s/\List.length s-y.2.1<y.1/\List.length y.2.2<=y.2.1/\kx s y.1 y.2.1 y.2.2=jq s)/\List.length s-y.2.1<List.length s-x.2.1/\F+G.2=(↑y.2.1:Int)/\x.2.2++[G.1]=y.2.2/\s=s/\List.length (x.2.2++[G.1])=List.length y.2.2/\B else True/\x.2.2=E.1/\A=E.2.err/\A=E.2.pos/\True:=by
 conv=>zeta
 have ln:=hs.str;simp only[Mv,O4,Ni,N4,NS,yh];refine⟨⟨(s.length+1,0,[]),⟨ME _,by simp,by simp,rfl⟩,by simp,rfl,rfl⟩,?_⟩;rintro⟨f,i,acc⟩ ⟨h1,h2,h3,h4⟩;simp only at h1 h2 h3 h4⊢;obtain⟨g,rfl⟩:∃g,f=g+1:=⟨f-1,by omega⟩;rw[kx]at h4;apply aa<;>intro h
 ·replace h:=Xo h;have hk:i<s.length:=by omega
  rw[Mu hk]at h4;refine⟨by omega,aa (fun e=>?_) (fun e=>?_)⟩
  ·have e:iM (s.drop i)=0:=by have:=Xo e;omega
   rw[Mu e]at h4;rw[<-h4];exact⟨rfl,rfl,rfl⟩
  ·have e:¬iM (s.drop i)=0:=fun q=>e (Xd (by omega));rw[Mp e]at h4;have hu:=Dd (s:=s) (n:=i) h1;refine⟨by simp only[Mr];omega,ai (by omega) (by omega),(g,i+iM (s.drop i),acc++[(ie (s.drop i)).1]),⟨hu,by simp only;omega,by simp only[Mq,Mr];omega,h4⟩,by simp only;omega,by simp only;omega,rfl,rfl⟩
 ·have hk:¬i<s.length:=fun e=>h (Xd (by omega));rw[Mp hk]at h4;rw[<-h4];exact⟨rfl,rfl,rfl⟩
theorem Iq(s:Str)(hs:Wf .str s)(ho:s.length<=2000000) :
  let A:=(0:Int);let B:=s=s/\True;let C:=(↑(List.length s):Int);let D:=(0:UInt8);let E:=(1:Int);(∃(x:Nat),(x<=List.length s/\List.all s di=List.all (List.drop x s) di)/\A=(↑x:Int)/\B)/\∀(x:Nat),let F:=(↑x:Int);let G:=A<=F/\F<C;let H:=(↑(UInt8.toNat (List.getD s (Int.toNat F) D)):Int);let I:=inR IntKind.i64 (F+E)/\∃(y:Nat),(y<=List.length s/\List.all s di=List.all (List.drop y s) di)/\List.length s-y<List.length s-x/\F+E=(↑y:Int)/\B;x<=List.length s/\List.all s di=List.all (List.drop x s) di->if decide (F<C)=true then G/\if decide (H<(32:Int))=true then G/\if(!decide (H=(9:Int)))=true then G/\if(!decide (H=(10:Int)))=true then True/\false=jb s/\True else I else I else I else List.length s<=(2000000:Nat)/\True/\decide ((jq s).2.err=A)=jb s/\True:=by
 conv=>zeta
 have ln:=hs.str;simp only[Mv,O4,Ni,N4];refine⟨⟨0,⟨ME _,rfl⟩,rfl⟩,?_⟩;rintro k ⟨h1,h3⟩;apply aa<;>intro h
 ·replace h:=Xo h;have hk:k<s.length:=by omega
  rw[aU s k 0 hk,NK]at h3;have hq:=uo (s.getD k 0);have eb:(UInt8.toNat (s.getD k 0):Int)=bI (s.getD k 0):=rfl;clear eb;have nx:di (s.getD k 0)=true->inR IntKind.i64 ((k:Int)+1)/\∃y:Nat,(y<=s.length/\s.all di=(s.drop y).all di)/\s.length-y<s.length-k/\(k:Int)+1=(y:Int):=by intro q;rw[q,MU]at h3;exact⟨bu hk ln,k+1,⟨by omega,h3⟩,by omega,by omega⟩
  have nq:¬(bI (s.getD k 0)<32/\bI (s.getD k 0)≠10/\bI (s.getD k 0)≠9)->di (s.getD k 0)=true:=fun e=>by
   cases q:di (s.getD k 0)
   ·exact absurd (hq.1 q) e
   ·rfl
  refine⟨by omega,aa (fun a=>?_) (fun a=>?_)⟩
  ·replace a:=Xo a;refine⟨by omega,aa (fun c=>?_) (fun c=>?_)⟩
   ·have c:¬(UInt8.toNat (s.getD k 0):Int)=9:=by simpa using c
    refine⟨by omega,aa (fun d=>?_) (fun d=>?_)⟩
    ·have d:¬(UInt8.toNat (s.getD k 0):Int)=10:=by simpa using d
     rw[hq.2 ⟨a,d,c⟩,Og]at h3;unfold jb;rw[h3];rfl
    ·have d:(UInt8.toNat (s.getD k 0):Int)=10:=by simpa using d
     exact nx (nq (fun e=>e.2.1 d))
   ·have c:(UInt8.toNat (s.getD k 0):Int)=9:=by simpa using c
    exact nx (nq (fun e=>e.2.2 c))
  ·exact nx (nq (fun e=>a (Xd e.1)))
 ·have e:k=s.length:=by have:¬((k:Int)<(s.length:Int)):=fun e=>h (Xd e);omega
  subst e;rw[MX]at h3;exact⟨ho,AJ h3⟩
theorem Ir(t:Trm)(ht:Wf (.st .term) t)(ho:t.name.length<=2000000/\t.names.length<=2000000) :
  let A:=(0:Int);let B:=True;let C:=B/\false=ax t/\B;let D:=(1:Int);let E:=B/\ib t A A A A=ax t/\B;let F:=if decide (t.name=[])=true then E else C;let G:=(↑(List.length t.names):Int);let H:=(↑(List.length t.parts):Int);let I:=B/\ib t A A A D=ax t/\B;let J:=if az t.name=true then I else C;let K:=inR IntKind.i64 (G+D);let L:=if cH t.name=true then I else C;let M:=if decide (t.kind=D)=true then if decide (t.name=[])=true then if decide (A<=t.n)=true then if decide (t.n<=(999999999999999:Int))=true then E else C else C else C else if decide (t.kind=(2:Int))=true then List.length t.name<=(2000000:Nat)/\if jb t.name=true then E else C else if decide (t.kind=(3:Int))=true then F else if decide (t.kind=(4:Int))=true then F else if decide (t.kind=(5:Int))=true then if az t.name=true then if decide (t.pkg=[])=true then E else if az t.pkg=true then E else C else C else if decide (t.kind=(6:Int))=true then if decide (t.name=[])=true then if decide (G<=(4096:Int))=true then B/\ib t G A G D=ax t/\B else C else C else if decide (t.kind=(7:Int))=true then if decide (t.name=[])=true then if decide (D<=H)=true then B/\ib t A A A H=ax t/\B else C else C else if decide (t.kind=(8:Int))=true then if decide (t.name=[])=true then B/\ib t G A A G=ax t/\B else C else if decide (t.kind=(9:Int))=true then J else if decide (t.kind=(10:Int))=true then J else if decide (t.kind=(11:Int))=true then if decide (t.name=[])=true then B/\ib t A A D H=ax t/\B else C else if decide (t.kind=(12:Int))=true then if decide (t.name=[])=true then B/\ib t A A D (3:Int)=ax t/\B else C else if decide (t.kind=(13:Int))=true then if decide (t.name=[])=true then K/\K/\B/\ib t G G (G+D) (G+D)=ax t/\B else C else if decide (t.kind=(14:Int))=true then if az t.name=true then B/\ib t A A A (2:Int)=ax t/\B else C else if decide (t.kind=(15:Int))=true then if decide (t.name=[])=true then B/\ib t A A D D=ax t/\B else C else if decide (t.kind=(16:Int))=true then L else if decide (t.kind=(17:Int))=true then L else C;let N:=if(!decide (t.kind=(5:Int)))=true then if(!decide (t.pkg=[]))=true then C else M else M;if decide (t.pos<A)=true then C else if(!fc t.names true)=true then C else if(!fc t.vars false)=true then C else if(!List.all t.shapes bn)=true then C else if(!decide (t.kind=D))=true then if(!decide (t.n=A))=true then C else N else N:=by
 conv=>zeta
 have dnQ:∀n:Nat,decide ((1:Int)<=(n:Int))=decide (0<n):=fun n=>Nn.2 (by omega);have b1:jF t=false->ax t=false:=fun e=>by unfold ax;rw[e,Oh]
 have b2:jc t=false->ax t=false:=fun e=>by unfold ax;rw[e,Og]
 simp only[O4,Ni,N4];refine aa (fun h=>?_) (fun h1=>?_)
 ·symm;apply b2;unfold jc;have:=Xo h;rw[Xf (by omega)];rfl
 replace h1:¬t.pos<0:=fun e=>h1 (Xd e);refine aa (fun h=>?_) (fun h2=>?_)
 ·exact(AK (by simpa using h)).symm
 have h2:fc t.names true=true:=by simpa using h2
 refine aa (fun h=>?_) (fun h3=>?_)
 ·exact(Ev (by simpa using h)).symm
 have h3:fc t.vars false=true:=by simpa using h3
 have h3:t.vars.all az=true:=by unfold fc at h3;rw[Mo]at h3;exact h3.1
 have h2:eG t.names=true:=by unfold fc at h2;unfold eG;simpa using h2
 refine aa (fun h=>?_) (fun h4=>?_)
 ·have h:t.shapes.all bn=false:=by simpa using h
  symm;apply b2;unfold jc;rw[h,Oh]
 have h4:t.shapes.all bn=true:=by simpa using h4
 have hd:jc t=((decide (t.n=0)||decide (t.kind=1))&&(decide (t.pkg=[])||decide (t.kind=5))):=by unfold jc;rw[Xd (by omega),h4,MU,Bool.and_true]
 have hb:jc t=true->ax t=jF t:=fun e=>by unfold ax;rw[e,MU]
 clear h1 h4;have eb:((decide (t.n=0)||decide (t.kind=1))&&(decide (t.pkg=[])||decide (t.kind=5)))=true->ax t=jF t:=fun e=>hb (hd.trans e);have e5:((decide (t.n=0)||decide (t.kind=1))&&(decide (t.pkg=[])||decide (t.kind=5)))=false->ax t=false:=fun e=>b2 (hd.trans e);clear hd hb b1 b2;apply aa<;>intro k1
 ·have k1:¬t.kind=1:=by simpa using k1
  apply aa<;>intro k2
  ·have k2:¬t.n=0:=by simpa using k2
   symm;apply e5;rw[Xf k1,Xf k2];rfl
  have k2:t.n=0:=by simpa using k2
  apply aa<;>intro k3
  ·have k3:¬t.kind=5:=by simpa using k3
   apply aa<;>intro k4
   ·have k4:¬t.pkg=[]:=by simpa using k4
    symm;apply e5;rw[Xf k3,Xf k4,Bool.or_false,Oh]
   ·have k4:t.pkg=[]:=by simpa using k4
    rw[eb (by rw[Xd k2,Xd k4];rfl)];clear eb e5;unfold jF ib fk;rw[h2,h3];simp only[dnZ,dn1,dn2,dn3,dnN,dnS,dnL,dnP,dnQ];clear h2 h3
    repeat' (first|apply aa<;>intro _|refine⟨ai (by omega) (by have:=ho.2;omega),?_⟩|refine And.intro ho.1 ?_|fail)
    all_goals (first|(simp_all;done)|(simp_all;intros;omega))
  ·have k3:t.kind=5:=by simpa using k3
   rw[eb (by rw[Xd k2,Xd k3,Bool.or_true];rfl)];clear eb e5;unfold jF ib fk;rw[h2,h3];simp only[dnZ,dn1,dn2,dn3,dnN,dnS,dnL,dnP,dnQ];clear h2 h3
   repeat' (first|apply aa<;>intro _|refine⟨ai (by omega) (by have:=ho.2;omega),?_⟩|refine And.intro ho.1 ?_|fail)
   all_goals (first|(simp_all;done)|(simp_all;intros;omega))
 ·have k1:t.kind=1:=by simpa using k1
  apply aa<;>intro k3
  ·have k3:¬t.kind=5:=by simpa using k3
   apply aa<;>intro k4
   ·have k4:¬t.pkg=[]:=by simpa using k4
    symm;apply e5;rw[Xf k3,Xf k4,Bool.or_false,Oh]
   ·have k4:t.pkg=[]:=by simpa using k4
    rw[eb (by rw[Xd k1,Xd k4,Bool.or_true];rfl)];clear eb e5;unfold jF ib fk;rw[h2,h3];simp only[dnZ,dn1,dn2,dn3,dnN,dnS,dnL,dnP,dnQ];clear h2 h3
    repeat' (first|apply aa<;>intro _|refine⟨ai (by omega) (by have:=ho.2;omega),?_⟩|refine And.intro ho.1 ?_|fail)
    all_goals (first|(simp_all;done)|(simp_all;intros;omega))
  ·have k3:t.kind=5:=by simpa using k3
   rw[k1]at k3;exact absurd k3 (by decide)
theorem Fu(n:Nat)(t:Trm)(ht:Wf (.st .term) t)(hn:szT t<=n+1)(ho:eL t=true) :
  let A:=(2000000:Nat);let B:=True/\false=allT ax t/\True;let C:=t=t/\false=false/\t=t/\True;let D:=(↑(List.length t.parts):Int);let E:=dfl (Ty.st SN.term);(List.length t.name<=A/\List.length t.names<=A)/\if(!ax t)=true then B else(∃(x:Nat),(x<=List.length t.parts/\allT ax t=allTL ax (List.drop x t.parts))/\(0:Int)=(↑x:Int)/\C)/\∀(x:Nat),let F:=(↑x:Int);let G:=List.getD t.parts (Int.toNat F) E;x<=List.length t.parts/\allT ax t=allTL ax (List.drop x t.parts)->if decide (F<D)=true then((0:Int)<=F/\F<D)/\(szT G<=n/\eL G=true)/\if(!allT ax G)=true then B else inR IntKind.i64 (F+(1:Int))/\∃(y:Nat),(y<=List.length t.parts/\allT ax t=allTL ax (List.drop y t.parts))/\List.length t.parts-y<List.length t.parts-x/\F+(1:Int)=(↑y:Int)/\C else True/\true=allT ax t/\True:=by
 conv=>zeta
 have ln:=ht.term_parts.len;have hz:=cz t;simp only[Mv,O4,Ni,N4];refine⟨AN ho,?_⟩;apply aa<;>intro h
 ·have h:ax t=false:=by simpa using h
  rw[allT_eq,h];rfl
 have h:ax t=true:=by simpa using h
 refine⟨⟨0,⟨ME _,by rw[allT_eq,h];rfl⟩,rfl⟩,?_⟩;rintro k ⟨h1,h3⟩;apply aa<;>intro h
 ·replace h:=Xo h;have hk:k<t.parts.length:=by omega
  have hm:=cE (bW t.parts k (dfl (.st .term)) hk);rw[aU t.parts k (dfl (.st .term)) hk]at h3;simp only[allTL]at h3;refine⟨by omega,⟨by omega,AM ho (bW t.parts k (dfl (.st .term)) hk)⟩,?_⟩;cases e:allT ax (t.parts.getD k (dfl (.st .term)))
  ·rw[e]at h3;rw[h3];simp
  ·simp only[e,MU]at h3;exact⟨bu hk ln,k+1,⟨by omega,h3⟩,by omega,by omega⟩
 ·replace h:¬((k:Int)<(t.parts.length:Int)):=fun e=>h (Xd e);have e:k=t.parts.length:=by omega
  subst e;rw[h3,MX];rfl
theorem Is(n:Nat)(s:Trm)(m:Int)(hs:Wf (.st .term) s)(ho:szT s<=n+1/\0<=m/\m<=1000000) :
  let A:=(1:Int);let B:=(0:Int);let C:=s=s/\m=m/\B=B/\s=s/\True;let D:=(↑(List.length s.parts):Int);let E:=dfl (Ty.st SN.term);(∃(x:Nat×Int),(x.1<=List.length s.parts/\A<=x.2/\x.2<=m+A/\sizeTL (List.drop x.1 s.parts) x.2 m=dY s m)/\A=x.2/\B=(↑x.1:Int)/\C)/\∀(x:Nat×Int),let F:=(↑x.1:Int);let G:=m-x.2;let H:=List.getD s.parts (Int.toNat F) E;let I:=True/\x.2=dY s m/\True;x.1<=List.length s.parts/\A<=x.2/\x.2<=m+A/\sizeTL (List.drop x.1 s.parts) x.2 m=dY s m->if decide (F<D)=true then if decide (x.2<=m)=true then(B<=F/\F<D)/\inR IntKind.i64 G/\(szT H<=n/\B<=m-x.2/\m-x.2<=(1000000:Int))/\inR IntKind.i64 (x.2+dY H G)/\inR IntKind.i64 (F+A)/\∃(y:Nat×Int),(y.1<=List.length s.parts/\A<=y.2/\y.2<=m+A/\sizeTL (List.drop y.1 s.parts) y.2 m=dY s m)/\List.length s.parts-y.1<List.length s.parts-x.1/\x.2+dY H G=y.2/\F+A=(↑y.1:Int)/\C else I else I:=by
 conv=>zeta
 have ln:=hs.term_parts.len;have hz:=cz s;obtain⟨ho1,ho2,ho3⟩:=ho;have h0:sizeTL s.parts 1 m=dY s m:=by cases s;rw[dY]
 simp only[Mv,O4,Ni,N4];refine⟨⟨(0,1),⟨ME _,by omega,by omega,h0⟩,rfl,rfl⟩,?_⟩;rintro⟨k,c⟩ ⟨h1,h2,h3,h4⟩;simp only at h1 h2 h3 h4⊢;apply aa<;>intro hk
 ·replace hk:=Xo hk;have hk:k<s.parts.length:=by omega
  have hm:=cE (bW s.parts k (dfl (.st .term)) hk);rw[aU s.parts k (dfl (.st .term)) hk]at h4;simp only[sizeTL]at h4;apply aa<;>intro hc
  ·replace hc:=Xo hc;rw[Mu hc]at h4;have hb:=sizeT_bd (s.parts.getD k (dfl (.st .term))) (m-c) (by omega);exact⟨by omega,ai (by omega) (by omega),by omega,ai (by omega) (by omega),bu hk ln,(k+1,_),⟨by omega,by simp only;omega,by simp only;omega,h4⟩,by simp only;omega,rfl,rfl⟩
  ·rw[Mp (fun e=>hc (Xd e))]at h4;exact h4
 ·replace hk:¬((k:Int)<(s.parts.length:Int)):=fun e=>hk (Xd e);have e:k=s.parts.length:=by omega
  subst e;rw[MX]at h4;simp only[sizeTL]at h4;exact h4
theorem It(n:Nat)(s:Trm)(hs:Wf (.st .term) s)(hn:szT s<=n+1)(hb:n<=1000000) :
  let A:=(0:Int);let B:=(↑(maxDT s.parts):Int);let C:=s=s/\A=A/\s=s/\True;let D:=(↑(List.length s.parts):Int);let E:=dfl (Ty.st SN.term);let F:=(1:Int);(∃(x:Nat×Int),(x.1<=List.length s.parts/\A<=x.2/\max x.2 (↑(maxDT (List.drop x.1 s.parts)):Int)=B)/\A=x.2/\A=(↑x.1:Int)/\C)/\∀(x:Nat×Int),let G:=(↑x.1:Int);let H:=List.getD s.parts (Int.toNat G) E;let I:=(↑(deepT H):Int);let J:=inR IntKind.i64 (G+F);x.1<=List.length s.parts/\A<=x.2/\max x.2 (↑(maxDT (List.drop x.1 s.parts)):Int)=B->if decide (G<D)=true then(A<=G/\G<D)/\szT H<=n/\if decide (x.2<I)=true then J/\∃(y:Nat×Int),(y.1<=List.length s.parts/\A<=y.2/\max y.2 (↑(maxDT (List.drop y.1 s.parts)):Int)=B)/\List.length s.parts-y.1<List.length s.parts-x.1/\I=y.2/\G+F=(↑y.1:Int)/\C else J/\∃(y:Nat×Int),(y.1<=List.length s.parts/\A<=y.2/\max y.2 (↑(maxDT (List.drop y.1 s.parts)):Int)=B)/\List.length s.parts-y.1<List.length s.parts-x.1/\x.2=y.2/\G+F=(↑y.1:Int)/\C else inR IntKind.i64 (x.2+F)/\True/\x.2+F=(↑(deepT s):Int)/\True:=by
 conv=>zeta
 have ln:=hs.term_parts.len;have hz:=cz s;have hd:deepT s=maxDT s.parts+1:=by cases s;rw[deepT]
 have hds:=maxDT_sz s.parts;simp only[Mv,O4,Ni,N4];refine⟨⟨(0,0),⟨ME _,by simp,by simp only[Nq];omega⟩,rfl,rfl⟩,?_⟩;rintro⟨k,c⟩ ⟨h1,h2,h3⟩;simp only at h1 h2 h3⊢;apply aa<;>intro h
 ·replace h:=Xo h;have hk:k<s.parts.length:=by omega
  have hm:=cE (bW s.parts k (dfl (.st .term)) hk);rw[aU s.parts k (dfl (.st .term)) hk]at h3;simp only[maxDT]at h3;refine⟨by omega,by omega,aa (fun a=>?_) (fun a=>?_)⟩
  ·replace a:=Xo a;exact⟨bu hk ln,(k+1,(deepT (s.parts.getD k (dfl (.st .term))):Int)),⟨by omega,by simp only;omega,by simp only;omega⟩,by simp only;omega,rfl,rfl⟩
  ·replace a:¬c<(deepT (s.parts.getD k (dfl (.st .term))):Int):=fun e=>a (Xd e);exact⟨bu hk ln,(k+1,c),⟨by omega,by simp only;omega,by simp only;omega⟩,by simp only;omega,rfl,rfl⟩
 ·replace h:¬((k:Int)<(s.parts.length:Int)):=fun e=>h (Xd e);have e:k=s.parts.length:=by omega
  subst e;rw[MX]at h3;simp only[maxDT]at h3;exact⟨ai (by omega) (by omega),by omega⟩
theorem Fv(s:Trm)(hs:Wf (.st .term) s)(ho:eL s=true) :
  let A:=(4096:Int);let B:=True;let C:=szT s<=(4096:Nat);(szT s<=szT s/\(0:Int)<=A/\A<=(1000000:Int))/\if decide (A<dY s A)=true then B/\(3:Int)=aZ s/\B else C/\if decide ((40:Int)<(↑(deepT s):Int))=true then B/\(91:Int)=aZ s/\B else(C/\eL s=true)/\if(!allT ax s)=true then B/\(80:Int)=aZ s/\B else B/\(0:Int)=aZ s/\B:=by
 conv=>zeta
 simp only[O4,Ni,N4];rw[AI];refine⟨⟨Mx _,by omega,by omega⟩,aa (fun h=>?_) (fun h=>?_)⟩
 ·rw[Mu (Xo h)]
 ·have h':¬(4096:Int)<dY s 4096:=fun e=>h (Xd e);have hs4:szT s<=4096:=by rw[sizeT_eq s 4096 (by omega)]at h';omega
  rw[Mp h'];refine⟨hs4,aa (fun g=>?_) (fun g=>⟨⟨hs4,ho⟩,?_⟩)⟩
  ·rw[Mu (Xo g)]
  ·rw[Mp (fun e=>g (Xd e))];cases allT ax s<;>simp
theorem nV(C D:Trm->List Bndg->List Chnk×Int)(O P:Trm->List Bndg->Prop)(S:List Chnk->List Chnk->Bool)(t:Trm)(l:List Bndg)(ht:Wf (.st .term) t)(hS:∀l,S l l=true)(hm:szcT t 500<=500->l.length<=100->O t l/\P t l/\C t l=D t l) :
  let A:=(500:Int);let B:=True/\true=true/\True;let E:=True/\false=true/\True;(szT t<=szT t/\(0:Int)<=A/\A<=(1000000:Int))/\if decide (A<szcT t A)=true then B else if(!decide (List.length l<=(100:Nat)))=true then B else O t l/\P t l/\if S (C t l).1 (D t l).1=true then if decide ((C t l).2=(D t l).2)=true then B else E else E:=by
 conv=>zeta
 refine⟨⟨Mx _,by decide,by decide⟩,aa (fun _=>Xr) (fun a=>aa (fun _=>Xr) (fun c=>?_))⟩;have a:szcT t 500<=500:=Int.not_lt.1 fun z=>a (Xd z);have c:l.length<=100:=by simpa using c
 obtain⟨o1,o2,e⟩:=hm a c;rw[e];exact⟨o1,o2,aa (fun _=>aa (fun _=>Xr) (fun z=>absurd (Xd rfl) z)) (fun z=>absurd (hS _) z)⟩
theorem Fw(l:List Bndg)(nm:Str)(hl:Wf (.lst (.st .bind)) l)(ho:(l.length+1) *120<=140737488355328) :
  let A:=([]:List Bndg);let B:=(140737488355328:Nat);let C:=[]++l;let D:=[{pkg:=[],name:=nm,shape:={kind:=(0:Int),pkg:=[],name:=[],names:=[],parts:=[]:Shape}:Bndg}];(List.length A=List.length A/\(List.length A+List.length l)*(120:Nat)<=B)/\(List.length C=List.length C/\(List.length C+List.length D)*(120:Nat)<=B)/\True/\[]++l++D=l++[mo nm]/\True:=by
 conv=>zeta
 have e:({pkg:=[],name:=nm,shape:={kind:=0,pkg:=[],name:=[],names:=[],parts:=[]}}:Bndg)=mo nm:=rfl;simp only[e,N9,Np,Nc,Mr];refine⟨⟨by repeat' (first|exact trivial|rfl|apply And.intro),by omega⟩,⟨by repeat' (first|exact trivial|rfl|apply And.intro),ho⟩,by repeat' (first|exact trivial|rfl|apply And.intro)⟩
theorem BV(xs:List Opn)(t:Trm)(ht:Wf (.st .term) t)(ho:(xs.length+1) *88<=140737488355328) :
  let A:=(1:Int);let B:=List.length xs=List.length xs;let C:=B/\B;let D:=t.pos;let E:=[(AL.Opn.mk (A) (t.n) ([]) ([]) ([]) D)];let F:=(88:Nat);let G:=(140737488355328:Nat);let H:=True;let I:=iU xs t;let J:=List.length xs+List.length E=List.length I;let K:=((0:Int));let L:=t.name;let M:=[(AL.Opn.mk ((2:Int)) K L ([]) ([]) D)];let N:=List.length xs+List.length M=List.length I;let O:=[(AL.Opn.mk ((3:Int)) (A) ([]) ([]) ([]) D)];let P:=List.length xs+List.length O=List.length I;let Q:=[(AL.Opn.mk ((3:Int)) K ([]) ([]) ([]) D)];let R:=List.length xs+List.length Q=List.length I;let S:=if decide (t.kind=(3:Int))=true then(C/\(List.length xs+List.length O)*F<=G)/\H/\P/\List.length (xs++O)=List.length I/\P/\xs++O=iU xs t/\H else(C/\(List.length xs+List.length Q)*F<=G)/\H/\R/\List.length (xs++Q)=List.length I/\R/\xs++Q=iU xs t/\H;let T:=(↑(List.length t.parts):Int);let U:=[(AL.Opn.mk ((7:Int)) (T-A) ([]) ([]) ([]) D)];let V:=List.length xs+List.length U=List.length I;let W:=[(AL.Opn.mk ((8:Int)) K ([]) (t.names) ([]) D)];let X:=List.length xs+List.length W=List.length I;let Y:=[(AL.Opn.mk ((9:Int)) K L ([]) ([]) D)];let Z:=List.length xs+List.length Y=List.length I;let a:=[(AL.Opn.mk ((10:Int)) K L ([]) ([]) D)];let b:=List.length xs+List.length a=List.length I;let c:=[(AL.Opn.mk ((11:Int)) (T) ([]) ([]) ([]) D)];let d:=List.length xs+List.length c=List.length I;let e:=[(AL.Opn.mk ((17:Int)) K L ([]) ([]) D)];let f:=List.length xs+List.length e=List.length I;let g:=[(AL.Opn.mk ((18:Int)) K L ([]) ([]) D)];let h:=List.length xs+List.length g=List.length I;let i:=List.length xs=List.length I;if decide (t.kind=A)=true then(C/\(List.length xs+List.length E)*F<=G)/\H/\J/\List.length (xs++E)=List.length I/\J/\xs++E=iU xs t/\H else if decide (t.kind=(2:Int))=true then(C/\(List.length xs+List.length M)*F<=G)/\H/\N/\List.length (xs++M)=List.length I/\N/\xs++M=iU xs t/\H else if decide (t.kind=(3:Int))=true then S else if decide (t.kind=(4:Int))=true then S else if decide (t.kind=(7:Int))=true then inR IntKind.i64 (T-A)/\(C/\(List.length xs+List.length U)*F<=G)/\H/\V/\List.length (xs++U)=List.length I/\V/\xs++U=iU xs t/\H else if decide (t.kind=(8:Int))=true then(C/\(List.length xs+List.length W)*F<=G)/\H/\X/\List.length (xs++W)=List.length I/\X/\xs++W=iU xs t/\H else if decide (t.kind=(9:Int))=true then(C/\(List.length xs+List.length Y)*F<=G)/\H/\Z/\List.length (xs++Y)=List.length I/\Z/\xs++Y=iU xs t/\H else if decide (t.kind=(10:Int))=true then(C/\(List.length xs+List.length a)*F<=G)/\H/\b/\List.length (xs++a)=List.length I/\b/\xs++a=iU xs t/\H else if decide (t.kind=(11:Int))=true then(C/\(List.length xs+List.length c)*F<=G)/\H/\d/\List.length (xs++c)=List.length I/\d/\xs++c=iU xs t/\H else if decide (t.kind=(16:Int))=true then(C/\(List.length xs+List.length e)*F<=G)/\H/\f/\List.length (xs++e)=List.length I/\f/\xs++e=iU xs t/\H else if decide (t.kind=(17:Int))=true then(C/\(List.length xs+List.length g)*F<=G)/\H/\h/\List.length (xs++g)=List.length I/\h/\xs++g=iU xs t/\H else H/\i/\i/\i/\xs=iU xs t/\H:=by
 conv=>zeta
 simp only[Mr];have ln:=ht.term_parts.len
 repeat' (apply aa<;>intro h)
 all_goals simp only[MD]at *
 all_goals try (exfalso;omega)
 all_goals simp only[iU,eV, *,Mu,Mp,Pa,Int.reduceEq,reduceIte,N7,Mq,Mr]
 all_goals repeat' (first|exact trivial|exact ai (by omega) (by omega)|omega|rfl|apply And.intro)
theorem Km(n:Nat)(l:List Bndg)(ch:List Chnk)(t:Trm)(ht:Wf (.st .term) t)(hl:Wf (.lst (.st .bind)) l)(ho:DoK n 6 l 0 ch t) :
  let A:=List.length ch=List.length ch;let B:=(↑(List.length t.names):Int);let C:=[{args:=B,ops:=[]:Chnk}];let D:=(140737488355328:Nat);let E:=(0:Int);let F:=(↑(List.length ch):Int);let G:=List.length ch+List.length C=List.length ch+List.length C;let H:=ch++C;let I:=List.length H=List.length H;let J:=t=t/\l=l/\E=E/\F=F/\G/\I/\G/\ch++C=ch++C/\t=t/\List.length C=List.length C/\True;let K:=List.length ch+List.length C=List.length H;let L:=Int.toNat E;let M:=List.getD t.parts L (dfl (Ty.st SN.term));let N:=List.map nmB l;let O:=xY n t N ch;((A/\A)/\(List.length ch+List.length C)*(32:Nat)<=D)/\(∃(x:Nat),x<=List.length t.names/\E=(↑x:Int)/\l=mY l (List.take x t.names)/\J)/\∀(x:Nat),let P:=(↑x:Int);let Q:=List.take x t.names;let R:=mY l Q;let S:=bw n M (List.map nmB R) L H;let T:=List.length S.1=List.length S.1;let U:=List.length S.2=List.length O;x<=List.length t.names->if decide (P<B)=true then(E<=P/\P<B)/\(List.length R+(1:Nat))*(120:Nat)<=D/\inR IntKind.i64 (P+(1:Int))/\∃(y:Nat),y<=List.length t.names/\List.length t.names-y<List.length t.names-x/\P+(1:Int)=(↑y:Int)/\mY l Q++[mo (List.getD t.names (Int.toNat P) (dfl Ty.str))]=mY l (List.take y t.names)/\J else(E<=E/\E<(↑(List.length t.parts):Int))/\((K/\I/\K)/\∀(q:Prop),some (DoO n R E H M)=some q->q)/\((T/\T)/\True)/\(E<=F/\F<(↑(List.length S.2):Int))/\(List.length S.2=List.length S.2/\Int.toNat F<List.length S.2)/\True/\F=F/\U/\U/\U/\List.set S.2 (Int.toNat F) {args:=(List.getD S.2 (Int.toNat F) (dfl (Ty.st SN.chunk))).args,ops:=S.1:Chnk}=xY n t N ch/\True:=by
 conv=>zeta
 obtain⟨hk,ho⟩:=ho;replace hk:t.kind=6:=hk;have oc:=kr (b6 ho.2.1);have hc:=AB oc hk;have hn:=eK oc;have d0:dfl (.st .term)=(default:Trm):=rfl;have dS:dfl .str=(default:Str):=rfl;have t0:Int.toNat 0=0:=rfl;have p0:=cE (db (l:=t.parts) (i:=0) (by omega));have o0:DoO n (mY l t.names) 0 (ch++[⟨t.names.length,[]⟩]) (t.parts.getD 0 default):=ho.part (c:=0) (e:=0) (by omega) (by omega) (by omega) (by omega) (by omega) (by rw[ye];omega) (by rw[Mq,Mr];omega);have b0:=o0.bd (l.map nmB++t.names.map nm0);obtain⟨h1,h2,h3,h4,h5,h6⟩:=ho;rw[cz]at h1 h4 h5 h6;simp only[d0,dS,t0,Mr,Mv];have hl':∀i,i<=t.names.length->(mY l (t.names.take i)).length=l.length+i:=fun i hi=>by rw[ye,NI];omega
 refine⟨⟨⟨trivial,trivial⟩,by omega⟩,⟨0,ME _,?_⟩,?_⟩
 ·simp only[Od,mY,O8,Ny]
  repeat' (first|exact trivial|rfl|apply And.intro)
 intro i hi;apply aa<;>intro h
 ·replace h:=Xo h;have h:i<t.names.length:=by omega
  have e1:mY l (t.names.take i)++[mo (t.names.getD i default)]=mY l (t.names.take (i+1)):=by unfold mY;rw[nQ h,NR,MH];rfl
  rw[e1,hl' i hi];refine⟨⟨by omega,by omega⟩,by omega,ai (by omega) (by omega),i+1,h,by omega,by omega,?_⟩
  repeat' (first|exact trivial|omega|rfl|apply And.intro)
 ·have h:¬(i:Int)<(t.names.length:Int):=fun z=>h (Xd z);have e:t.names.take i=t.names:=NH (by omega);rw[e,JE];simp only[xY];have t0':(0:Int).toNat=0:=rfl;rw[t0']at b0;generalize bw n (t.parts.getD 0 default) (l.map nmB++t.names.map nm0) 0 (ch++[⟨t.names.length,[]⟩])=y at *
  obtain⟨q1,q2,q3⟩:=b0;simp only[Mq,Mr]at q2
  repeat' (first|exact trivial|omega|rfl|(intro q hq;cases hq;assumption)|(simp only[Mq,Mr,Ob]<;>omega)|apply And.intro)
theorem Kn(n:Nat)(l:List Bndg)(f:Int)(ch:List Chnk)(t:Trm)(ht:Wf (.st .term) t)(hl:Wf (.lst (.st .bind)) l)(ho:DoK n 13 l f ch t) :
  let A:=(0:Int);let B:=(↑(List.length t.parts):Int);let C:=List.length ch=List.length ch;let D:=dfl (Ty.st SN.term);let E:=List.getD t.parts (Int.toNat A) D;let F:=List.map nmB l;let G:=bw n E F (Int.toNat f) ch;let H:=List.length G.1=List.length G.1;let I:=[(AL.Opn.mk ((16:Int)) (A) ([]) (t.names) ([]) (t.pos))];let J:=(88:Nat);let K:=(140737488355328:Nat);let L:=t=t;let M:=l=l;let N:=f=f;let O:=(↑(List.length G.1):Int);let P:=O=O;let Q:=L/\List.length I=List.length I/\True;let R:=(1:Int);let S:=dfl Ty.str;let T:=[(AL.Opn.mk ((13:Int)) (R) ([]) ([]) ([]) (t.pos)),(AL.Opn.mk ((15:Int)) ((-1:Int)) ([]) ([]) ([]) (t.pos))];let U:=Int.toNat O;let V:=dfl (Ty.st SN.op);let W:=false=false;let X:=sG n t F (Int.toNat f) ch;(A<=A/\A<B)/\((C/\C/\C)/\∀(q:Prop),some (DoO n l f ch E)=some q->q)/\((H/\H)/\(List.length G.1+List.length I)*J<=K)/\(∃(x:Nat×List Int×CS),let Y:=List.length G.1+List.length I=List.length x.2.2.1;let Z:=List.length G.2=List.length x.2.2.2;(x.1<=List.length t.names/\List.length x.2.1=x.1/\kE n l f ch t x.1 x.2.1 x.2.2)/\A=(↑x.1:Int)/\Y/\List.length (G.1++I)=List.length x.2.2.1/\x.2.1=[]/\L/\M/\N/\P/\Y/\G.1++I=x.2.2.1/\List.length x.2.1=(0:Nat)/\Z/\Z/\Z/\G.2=x.2.2.2/\Q)/\∀(x:Nat×List Int×CS),let Y:=(↑x.1:Int);let Z:=(↑(List.length x.2.2.1):Int);let a:=inR IntKind.i64 (f+Z);let b:=List.length x.2.1=List.length x.2.1;let c:=inR IntKind.i64 (Y+R);let d:=List.length x.2.2.2=List.length x.2.2.2;let e:=l++[mo (List.getD t.vars (Int.toNat Y) S)];let g:=List.getD t.parts (Int.toNat (Y+R)) D;let h:=List.length x.2.2.1=List.length x.2.2.1;let i:=bw n g (List.map nmB e) (Int.toNat (f+Z)) x.2.2.2;let j:=List.length i.1=List.length i.1;let k:=x.2.2.1++i.1;let m:=List.getD x.2.2.1 U V;let o:=AL.Opn.mk (m.kind) (m.n) (m.name) (m.names) (x.2.1) (m.pos);let p:=List.set x.2.2.1 U o;let r:=List.length x.2.2.1=List.length p;let s:=x.2.1=x.2.1;let u:=(↑(List.length p):Int);let v:=f+u;let w:=d/\d/\d/\x.2.2.2=x.2.2.2/\b/\Q;let z:=List.length p=List.length p;let A0:=List.length p=List.length X.1;let A1:=List.length x.2.2.2=List.length X.2;x.1<=List.length t.names/\List.length x.2.1=x.1/\kE n l f ch t x.1 x.2.1 x.2.2->if decide (Y<(↑(List.length t.names):Int))=true then a/\(b/\(List.length x.2.1+List.length [f+Z])*(8:Nat)<=K)/\c/\(A<=Y+R/\Y+R<B)/\(A<=Y/\Y<(↑(List.length t.vars):Int))/\(List.length l+(1:Nat))*(120:Nat)<=K/\a/\((d/\d/\d)/\∀(q:Prop),some (DoO n e (f+Z) x.2.2.2 g)=some q->q)/\((h/\h)/\(j/\j)/\(List.length x.2.2.1+List.length i.1)*J<=K)/\((List.length x.2.2.1+List.length i.1=List.length x.2.2.1+List.length i.1/\List.length k=List.length k)/\(List.length k+List.length T)*J<=K)/\c/\∃(y:Nat×List Int×CS),let A2:=List.length x.2.2.1+List.length i.1+List.length T=List.length y.2.2.1;let A3:=List.length i.2=List.length y.2.2.2;(y.1<=List.length t.names/\List.length y.2.1=y.1/\kE n l f ch t y.1 y.2.1 y.2.2)/\List.length t.names-y.1<List.length t.names-x.1/\Y+R=(↑y.1:Int)/\A2/\List.length (x.2.2.1++i.1++T)=List.length y.2.2.1/\x.2.1++[f+Z]=y.2.1/\L/\M/\N/\P/\A2/\x.2.2.1++i.1++T=y.2.2.1/\List.length (x.2.1++[f+Z])=List.length y.2.1/\A3/\A3/\A3/\i.2=y.2.2.2/\Q else(A<=O/\O<Z)/\(h/\Int.toNat O<List.length x.2.2.1)/\(∃(x_1:Nat),x_1<=List.length p/\A=(↑x_1:Int)/\r/\r/\Y=Y/\s/\L/\M/\N/\P/\W/\r/\List.set x.2.2.1 U o=iV v p x_1/\w)/\∀(x_1:Nat),let A2:=(↑x_1:Int);let A3:=A<=A2/\A2<u;let A4:=iV v p x_1;let A5:=z/\Int.toNat A2<List.length A4;let A6:=List.getD A4 (Int.toNat A2) V;let A7:=inR IntKind.i64 (A2+R);x_1<=List.length p->if decide (A2<u)=true then A3/\A5/\if decide (A6.n=(-1:Int))=true then inR IntKind.i64 v/\A3/\A5/\A7/\∃(y:Nat),y<=List.length p/\List.length p-y<List.length p-x_1/\A2+R=(↑y:Int)/\z/\z/\Y=Y/\s/\L/\M/\N/\P/\W/\z/\List.set A4 (Int.toNat A2) (AL.Opn.mk (A6.kind) v (A6.name) (A6.names) (A6.tos) (A6.pos))=iV v p y/\w else A7/\∃(y:Nat),y<=List.length p/\List.length p-y<List.length p-x_1/\A2+R=(↑y:Int)/\z/\z/\Y=Y/\s/\L/\M/\N/\P/\W/\z/\iV v p x_1=iV v p y/\w else True/\A0/\A0/\A1/\A1/\A1/\x.2.2.2=X.2/\A0/\iV v p x_1=X.1/\True:=by
 conv=>zeta
 obtain⟨hk,ho⟩:=ho;replace hk:t.kind=13:=hk;have oc:=kr (b6 ho.2.1);obtain⟨hc,hv⟩:=gj oc hk;have hn:=eK oc;have d0:dfl (.st .term)=(default:Trm):=rfl;have dS:dfl .str=(default:Str):=rfl;have dO:dfl (.st .op)=(default:Opn):=rfl;have t0:Int.toNat 0=0:=rfl;have eI:∀i:Nat,Int.toNat ((i:Int)+1)=i+1:=fun i=>by omega
 have l2:∀a b:Opn,([a,b]:List Opn).length=2:=fun _ _=>rfl;have st:=yf ho hk;have o0:DoO n l f ch (t.parts.getD 0 default):=ho.part (c:=0) (e:=0) (by omega) ho.2.2.1 (by omega) (by have:=cE (db (l:=t.parts) (i:=0) (by omega));omega) (by omega) (by omega) (by omega);have b0:=(o0.bd (l.map nmB)).1;have f0:=ho.2.2.1;have ofm:∀ts y,kE n l f ch t t.names.length ts y->_:=fun ts y h=>Er (n:=n) (l:=l) (ch:=ch) (t:=t) (ts:=ts) (y:=y) f0 h;have p0:=cE (db (l:=t.parts) (i:=0) (by omega));have rx:=ho.2.2.2.1;have rl:=ho.2.2.2.2.1;have rc:=ho.2.2.2.2.2;rw[cz]at rx rl rc;simp only[uz,sy];simp only[d0,dS,dO,t0,eI,l2,Mr,Mv,gE];have al:∀y:CS,∀ts i,kE n l f ch t i ts y->(bw n (t.parts.getD 0 default) (l.map nmB) f.toNat ch).1.length<y.1.length:=fun y ts i h=>h.2.2.2;have mn:=fun i ts y=>@AH n l f ch t i ts y ho hk;have mr:=fun i ts y=>@sI n l f ch t i ts y ho hk;have rb:∀i ts y,kE n l f ch t i ts y->f.toNat+y.1.length+4000000 *szTL (t.parts.drop (i+1))+(t.names.length-i) *2<=1000000000000:=fun i ts y h=>h.2.1;generalize bw n (t.parts.getD 0 default) (l.map nmB) f.toNat ch=A at *
 refine⟨⟨by omega,by omega⟩,⟨⟨trivial,trivial,trivial⟩,fun q hq=>by cases hq;exact o0⟩,⟨⟨trivial,trivial⟩,by omega⟩,⟨(0,[],(A.1++[⟨16,0,[],t.names,[],t.pos⟩],A.2)),⟨ME _,rfl,st⟩,?_⟩,?_⟩
 ·repeat' (first|exact trivial|omega|rfl|(simp only[Mq,Mr]<;>omega)|apply And.intro)
 rintro⟨i,ts,y⟩ ⟨j1,j2,j3⟩;simp only at j1 j2 j3⊢;have u1:=al y ts i j3;have u2:=rb i ts y j3;apply aa<;>intro h
 ·replace h:=Xo h;have h:i<t.names.length:=by omega
  have o1:=mr i ts y h j3 (t.vars.getD i default);have nx:=mn i ts y h j3;have b1:=(o1.bd ((l++[mo (t.vars.getD i default)]).map nmB)).1;have u3:=rb _ _ _ nx;generalize bw n (t.parts.getD (i+1) default) ((l++[mo (t.vars.getD i default)]).map nmB) (f+(y.1.length:Int)).toNat y.2=B at *
  simp only[Mq,l2]at u3;refine⟨ai (by omega) (by omega),⟨trivial,by omega⟩,ai (by omega) (by omega),⟨by omega,by omega⟩,⟨by omega,by omega⟩,by omega,ai (by omega) (by omega),⟨⟨trivial,trivial,trivial⟩,fun q hq=>by cases hq;exact o1⟩,⟨?_,?_,by omega⟩,⟨?_,by simp only[Mq];omega⟩,ai (by omega) (by omega),(i+1,ts++[f+(y.1.length:Int)],(y.1++B.1++[⟨13,1,[],[],[],t.pos⟩,⟨15,-1,[],[],[],t.pos⟩],B.2)),⟨h,by simp only[Mq,Mr];omega,nx⟩,by simp only;omega,?_⟩
  all_goals repeat' (first|exact trivial|omega|rfl|(simp only[Mq,Mr,l2]<;>omega)|apply And.intro)
 ·have h:¬(i:Int)<(t.names.length:Int):=fun z=>h (Xd z);have h:i=t.names.length:=by omega
  subst h;have mt:=ofm ts y j3;rw[mt];have sl:=gE y.1 (A.1.length:Int) ts;generalize hO:setTo y.1 (A.1.length:Int) ts=O at *
  have yl:((A.1.length:Nat):Int)<(y.1.length:Int):=by omega
  have pm:O.map (eX (f+(y.1.length:Int)))=iV (f+(y.1.length:Int)) O O.length:=(H7 _ _).symm;have pl:=sJ (f+(y.1.length:Int)) O;have pg:=@H8 (f+(y.1.length:Int)) O;have pf:=@H9 (f+(y.1.length:Int)) O;have ps:=@Es (f+(y.1.length:Int)) O;rw[sl]at pl pm pf;rw[sl]at pg ps;refine⟨⟨by omega,yl⟩,⟨?_,by omega⟩,⟨0,ME _,?_⟩,?_⟩
  ·repeat' (first|exact trivial|rfl|apply And.intro)
  ·repeat' (first|exact trivial|rfl|apply And.intro)
  intro k hk1;apply aa<;>intro h
  ·replace h:=Xo h;have h:k<y.1.length:=by omega
   have pg:=pg h;rw[pg];refine⟨⟨by omega,by omega⟩,⟨trivial,by rw[sJ,sl];exact h⟩,aa (fun g=>?_) (fun g=>?_)⟩
   ·have g:(O.getD k default).n=-1:=Xo g;refine⟨ai (by omega) (by omega),⟨by omega,by omega⟩,⟨trivial,by rw[sJ,sl];exact h⟩,ai (by omega) (by omega),k+1,h,by omega,by omega,?_⟩;rw[pf h g]
    repeat' (first|exact trivial|rfl|apply And.intro)
   ·have g:(O.getD k default).n≠-1:=fun z=>g (Xd z);refine⟨ai (by omega) (by omega),k+1,h,by omega,by omega,?_⟩;rw[ps h g]
    repeat' (first|exact trivial|rfl|apply And.intro)
  ·have h:¬(k:Int)<(y.1.length:Int):=fun z=>h (Xd z);have h:k=y.1.length:=by omega
   subst h;rw[<-pm];simp only[MZ,sl]
   repeat' (first|exact trivial|omega|rfl|apply And.intro)
theorem Iu(n:Nat)(l:List Bndg)(f:Int)(ch:List Chnk)(t:Trm)(ht:Wf (.st .term) t)(hl:Wf (.lst (.st .bind)) l)(ho:DoO (n+1) l f ch t) :
  let A:=(0:Int);let B:=t=t;let C:=l=l;let D:=f=f;let E:=t.kind=t.kind;let F:=true=true;let G:=List.map nmB l;let H:=List.length ch=List.length ch;let I:=True;let J:=H/\H/\H/\ch=ch/\B/\I;let K:=(↑(List.length l):Int);let L:=dfl (Ty.st SN.bind);let M:=(1:Int);let N:=(1:Nat);let O:=Int.toNat f;let P:=bw (n+N) t G O ch;let Q:=List.length ch=List.length P.2;let R:=H/\H/\H;let S:=t.pos;let T:=[(AL.Opn.mk ((6:Int)) ((↑(List.length ch):Int)) ([]) ([]) ([]) S)];let U:=List.length T=List.length P.1;let V:=List.length (xY n t G ch)=List.length P.2;let W:=(↑(List.length t.parts):Int);let X:=A<=A/\A<W;let Y:=dfl (Ty.st SN.term);let Z:=List.getD t.parts (Int.toNat A) Y;let a:=(R/\∀(q:Prop),some (DoO n l f ch Z)=some q->q);let b:=A<=M/\M<W;let c:=bw n Z G O ch;let d:=(↑(List.length c.1):Int);let e:=inR IntKind.i64 (f+d);let g:=f+d+M;let h:=inR IntKind.i64 g;let i:=List.length c.2=List.length c.2;let j:=i/\i/\i;let k:=List.getD t.parts (Int.toNat M) Y;let m:=bw n k G (Int.toNat g) c.2;let o:=(↑(List.length m.1):Int);let p:=f+d+M+o+M;let r:=(2:Int);let s:=List.length m.2=List.length m.2;let u:=List.getD t.parts (Int.toNat r) Y;let v:=List.length c.1=List.length c.1;let w:=[(AL.Opn.mk ((14:Int)) p ([]) ([]) ([]) S)];let z:=(88:Nat);let A0:=(140737488355328:Nat);let A1:=c.1++w;let A2:=List.length m.1=List.length m.1;let A3:=bw n u G (Int.toNat p) m.2;let A4:=(f+d+M+o+M+(↑(List.length A3.1):Int));let A5:=c.1++w++m.1;let A6:=[(AL.Opn.mk ((15:Int)) A4 ([]) ([]) ([]) S)];let A7:=c.1++w++m.1++A6;let A8:=List.length A3.1=List.length A3.1;let A9:=List.length c.1+List.length w+List.length m.1+List.length A6+List.length A3.1=List.length P.1;let B0:=List.length A3.2=List.length P.2;let B1:=sG n t G O ch;let B2:=List.length B1.1=List.length P.1;let B3:=List.length B1.2=List.length P.2;let B4:=l++[mo t.name];let B5:=[(AL.Opn.mk ((12:Int)) (A) ([]) ([]) ([]) S)];let B6:=c.1++B5;let B7:=bw n k (List.map nmB B4) (Int.toNat g) c.2;let B8:=List.length B7.1=List.length B7.1;let B9:=c.1++B5++B7.1;let C0:=[(AL.Opn.mk ((13:Int)) (M) ([]) ([]) ([]) S)];let C1:=List.length c.1+List.length B5+List.length B7.1+List.length C0=List.length P.1;let C2:=List.length B7.2=List.length P.2;let C3:=aX n;let C4:=(cb O,ch);let C5:=(0:Nat);let C6:=false=false;let C7:=B/\A=A/\A=A/\mf UInt8=mf UInt8/\t.pos=t.pos/\I;if decide (t.kind=(5:Int))=true then(∃(x:Nat),let C8:=dG G t x;x<=List.length l/\A=(↑x:Int)/\B/\C/\D/\E/\F/\(5:Int)=C8.kind/\(110:Int)=C8.n/\[]=C8.name/\C8.names=[]/\C8.tos=[]/\t.pos=C8.pos/\J)/\∀(x:Nat),let C8:=(↑x:Int);let C9:=A<=C8/\C8<K;let D0:=List.getD l (Int.toNat C8) L;let D1:=inR IntKind.i64 (C8+M);let D2:=dG G t x;let D3:=D1/\∃(y:Nat),y<=List.length l/\List.length l-y<List.length l-x/\C8+M=(↑y:Int)/\B/\C/\D/\E/\F/\dG G t x=dG G t y/\J;let D4:=List.length [dG G t x]=List.length P.1;x<=List.length l->if decide (C8<K)=true then C9/\if decide (D0.pkg=t.pkg)=true then C9/\if decide (D0.name=t.name)=true then inR IntKind.i64 (K-M)/\inR IntKind.i64 (K-M-C8)/\D1/\∃(y:Nat),let D5:=dG G t y;y<=List.length l/\List.length l-y<List.length l-x/\C8+M=(↑y:Int)/\B/\C/\D/\E/\F/\(4:Int)=D5.kind/\K-M-C8=D5.n/\D2.name=D5.name/\D2.names=D5.names/\D2.tos=D5.tos/\D2.pos=D5.pos/\J else D3 else D3 else I/\D4/\D4/\Q/\Q/\Q/\ch=P.2/\D4/\[dG G t x]=P.1/\I else if decide (t.kind=(6:Int))=true then(R/\∀(q:Prop),some (DoK n (6:Nat) l A ch t)=some q->q)/\I/\U/\U/\V/\V/\V/\xY n t G ch=P.2/\U/\T=P.1/\I else if decide (t.kind=(12:Int))=true then X/\a/\b/\e/\h/\(j/\∀(q:Prop),some (DoO n l g c.2 k)=some q->q)/\e/\h/\inR IntKind.i64 (f+d+M+o)/\inR IntKind.i64 p/\(A<=r/\r<W)/\((s/\s/\s)/\∀(q:Prop),some (DoO n l p m.2 u)=some q->q)/\((v/\v)/\(List.length c.1+List.length w)*z<=A0)/\((List.length c.1+List.length w=List.length c.1+List.length w/\List.length A1=List.length A1)/\(A2/\A2)/\(List.length A1+List.length m.1)*z<=A0)/\inR IntKind.i64 A4/\((List.length c.1+List.length w+List.length m.1=List.length c.1+List.length w+List.length m.1/\List.length A5=List.length A5)/\(List.length A5+List.length A6)*z<=A0)/\((List.length c.1+List.length w+List.length m.1+List.length A6=List.length c.1+List.length w+List.length m.1+List.length A6/\List.length A7=List.length A7)/\(A8/\A8)/\(List.length A7+List.length A3.1)*z<=A0)/\I/\A9/\List.length (c.1++w++m.1++A6++A3.1)=List.length P.1/\B0/\B0/\B0/\A3.2=P.2/\A9/\c.1++w++m.1++A6++A3.1=P.1/\I else if decide (t.kind=(13:Int))=true then(R/\∀(q:Prop),some (DoK n (13:Nat) l f ch t)=some q->q)/\I/\B2/\B2/\B3/\B3/\B3/\B1.2=P.2/\B2/\B1.1=P.1/\I else if decide (t.kind=(14:Int))=true then X/\a/\b/\(List.length l+N)*(120:Nat)<=A0/\e/\h/\(j/\∀(q:Prop),some (DoO n B4 g c.2 k)=some q->q)/\((v/\v)/\(List.length c.1+List.length B5)*z<=A0)/\((List.length c.1+List.length B5=List.length c.1+List.length B5/\List.length B6=List.length B6)/\(B8/\B8)/\(List.length B6+List.length B7.1)*z<=A0)/\((List.length c.1+List.length B5+List.length B7.1=List.length c.1+List.length B5+List.length B7.1/\List.length B9=List.length B9)/\(List.length B9+List.length C0)*z<=A0)/\I/\C1/\List.length (c.1++B5++B7.1++C0)=List.length P.1/\C2/\C2/\C2/\B7.2=P.2/\C1/\c.1++B5++B7.1++C0=P.1/\I else(∃(x:Nat×CS),let C8:=List.length x.2.1=C5;let C9:=List.length ch=List.length x.2.2;(x.1<=List.length t.parts/\fP C3 G (List.take x.1 t.parts) C4=(cb O++x.2.1,x.2.2))/\A=(↑x.1:Int)/\C8/\C8/\B/\C/\D/\E/\C6/\C6/\C6/\C6/\C6/\C8/\x.2.1=[]/\C9/\C9/\C9/\ch=x.2.2/\C7)/\∀(x:Nat×CS),let C8:=(↑x.1:Int);let C9:=(f+(↑(List.length x.2.1):Int));let D0:=List.length x.2.2=List.length x.2.2;let D1:=List.getD t.parts (Int.toNat C8) Y;let D2:=List.length x.2.1=List.length x.2.1;let D3:=bw n D1 G (Int.toNat C9) x.2.2;let D4:=List.length D3.1=List.length D3.1;let D5:=List.length (iU x.2.1 t)=List.length P.1;let D6:=List.length x.2.2=List.length P.2;x.1<=List.length t.parts/\
  fP C3 G (List.take x.1 t.parts) C4=(cb O++x.2.1,x.2.2)->if decide (C8<W)=true then(A<=C8/\C8<W)/\inR IntKind.i64 C9/\((D0/\D0/\D0)/\∀(q:Prop),some (DoO n l C9 x.2.2 D1)=some q->q)/\((D2/\D2)/\(D4/\D4)/\(List.length x.2.1+List.length D3.1)*z<=A0)/\inR IntKind.i64 (C8+M)/\∃(y:Nat×CS),let D7:=List.length x.2.1+List.length D3.1=List.length y.2.1;let D8:=List.length D3.2=List.length y.2.2;(y.1<=List.length t.parts/\fP C3 G (List.take y.1 t.parts) C4=(cb O++y.2.1,y.2.2))/\List.length t.parts-y.1<List.length t.parts-x.1/\C8+M=(↑y.1:Int)/\D7/\List.length (x.2.1++D3.1)=List.length y.2.1/\B/\C/\D/\E/\C6/\C6/\C6/\C6/\C6/\D7/\x.2.1++D3.1=y.2.1/\D8/\D8/\D8/\D3.2=y.2.2/\C7 else((D2/\D2/\D2)/\∀(q:Prop),some ((List.length x.2.1+N)*z<=A0)=some q->q)/\I/\D5/\D5/\D6/\D6/\D6/\x.2.2=P.2/\D5/\iU x.2.1 t=P.1/\I:=by
 conv=>zeta
 have d0:dfl (.st .term)=(default:Trm):=rfl;have dB:dfl (.st .bind)=(default:Bndg):=rfl;have t0:Int.toNat 0=0:=rfl;have t1:Int.toNat 1=1:=rfl;have t2:Int.toNat 2=2:=rfl;have oc:=kr (b6 ho.2.1);obtain⟨F,rfl⟩:∃F:Nat,f=(F:Int):=⟨f.toNat,by have:=ho.2.2.1;omega⟩;have lm:(l.map nmB).length=l.length:=MZ ..;obtain⟨h1,h2,h3,h4,h5,h6⟩:=id ho;rw[cz]at h1 h4 h5 h6;simp only[d0,dB,t0,t1,t2,Mv,Mr];apply aa<;>intro h
 ·replace h:t.kind=5:=Xo h;rw[Lu _ F ch h];refine⟨⟨0,ME _,?_⟩,?_⟩
  ·repeat' (first|exact trivial|rfl|apply And.intro)
  intro i hi;have fin:∀(o:Opn),o=dG (l.map nmB) t (i+1)->i<l.length->inR IntKind.i64 ((i:Int)+1)/\i+1<=l.length/\l.length-(i+1)<l.length-i/\(i:Int)+1=((i+1:Nat):Int):=fun o _ h=>⟨ai (by omega) (by omega),h,by omega,by omega⟩;apply aa<;>intro g
  ·replace g:=Xo g;have g:i<l.length:=by omega
   have eg:(l.map nmB).getD i default=nmB (l.getD i default):=by rw[Ms,MS,Ms,Mn g];rfl
   have ex:dG (l.map nmB) t (i+1)=if(l.getD i default).pkg=t.pkg/\(l.getD i default).name=t.name then⟨4,(l.length:Int)-1-i,[],[],[],t.pos⟩else dG (l.map nmB) t i:=by rw[dG,eg,lm];rfl
   have em:∀k,(dG (l.map nmB) t k).name=[]/\(dG (l.map nmB) t k).names=[]/\(dG (l.map nmB) t k).tos=[]/\(dG (l.map nmB) t k).pos=t.pos:=by
    intro k
    induction k with
    |zero=>exact⟨rfl,rfl,rfl,rfl⟩
    |succ k ih=>
     rw[dG];split
     ·exact⟨rfl,rfl,rfl,rfl⟩
     ·exact ih
   obtain⟨em1,em2,em3,em4⟩:=em i;obtain⟨en1,en2,en3,en4⟩:=em (i+1);refine⟨⟨by omega,by omega⟩,aa (fun p=>⟨⟨by omega,by omega⟩,aa (fun q=>?_) (fun q=>?_)⟩) (fun p=>?_)⟩
   ·rw[Mu ⟨Xo p,Xo q⟩]at ex;refine⟨ai (by omega) (by omega),ai (by omega) (by omega),ai (by omega) (by omega),i+1,g,by omega,by omega,?_⟩;rw[em1,em2,em3,em4,en1,en2,en3,en4,ex]
    repeat' (first|exact trivial|rfl|apply And.intro)
   ·rw[Mp (fun z=>q (Xd z.2))]at ex;refine⟨ai (by omega) (by omega),i+1,g,by omega,by omega,?_⟩;rw[ex]
    repeat' (first|exact trivial|rfl|apply And.intro)
   ·rw[Mp (fun z=>p (Xd z.1))]at ex;refine⟨ai (by omega) (by omega),i+1,g,by omega,by omega,?_⟩;rw[ex]
    repeat' (first|exact trivial|rfl|apply And.intro)
  ·have g:¬(i:Int)<(l.length:Int):=fun z=>g (Xd z);have g:i=(l.map nmB).length:=by omega
   rw[g]
   repeat' (first|exact trivial|rfl|apply And.intro)
 replace h:¬t.kind=5:=fun z=>h (Xd z);have n5:=h;apply aa<;>intro h
 ·replace h:t.kind=6:=Xo h;rw[Lv _ F ch h];have ok:DoK n 6 l 0 ch t:=⟨h,ho.1,h2,by omega,by rw[cz];omega,ho.2.2.2.2.1,ho.2.2.2.2.2⟩
  repeat' (first|exact trivial|rfl|(intro q hq;cases hq;assumption)|apply And.intro)
 replace h:¬t.kind=6:=fun z=>h (Xd z);have n6:=h;apply aa<;>intro h
 ·replace h:t.kind=12:=Xo h;have hc:=qp oc h;have e0:=aY (l:=t.parts) (i:=0) (by omega);have e1:=aY (l:=t.parts) (i:=1) (by omega);have e2:=aY (l:=t.parts) (i:=2) (by omega);rw[Nq]at e0;simp only[Nat.reduceAdd]at e0 e1 e2;rw[Jy _ F ch h];unfold Lw;have o0:DoO n l F ch (t.parts.getD 0 default):=ho.part (c:=0) (e:=0) (by omega) (by omega) (by omega) (by omega) (by omega) (by omega) (by omega);have b0:=o0.bd (l.map nmB);simp only[Mv]at b0;generalize bw n (t.parts.getD 0 default) (l.map nmB) F ch=A at *
  obtain⟨p1,p2,p3⟩:=b0;have eB:((F:Int)+(A.1.length:Int)+1).toNat=F+A.1.length+1:=by omega
  have o1:DoO n l ((F:Int)+(A.1.length:Int)+1) A.2 (t.parts.getD 1 default):=ho.part (c:=szT (t.parts.getD 0 default)) (e:=1) (by omega) (by omega) (by omega) (by omega) (by omega) (by omega) (by omega);have b1:=o1.bd (l.map nmB);simp only[eB]at b1⊢;generalize bw n (t.parts.getD 1 default) (l.map nmB) (F+A.1.length+1) A.2=B at *
  obtain⟨q1,q2,q3⟩:=b1;have eC:((F:Int)+(A.1.length:Int)+1+(B.1.length:Int)+1).toNat=F+A.1.length+1+B.1.length+1:=by omega
  have o2:DoO n l ((F:Int)+(A.1.length:Int)+1+(B.1.length:Int)+1) B.2 (t.parts.getD 2 default):=ho.part (c:=szT (t.parts.getD 0 default)+szT (t.parts.getD 1 default)) (e:=2) (by omega) (by omega) (by omega) (by omega) (by omega) (by omega) (by omega);have b2:=o2.bd (l.map nmB);simp only[eC]at b2⊢;generalize bw n (t.parts.getD 2 default) (l.map nmB) (F+A.1.length+1+B.1.length+1) B.2=C at *
  obtain⟨r1,r2,r3⟩:=b2;have v1:((F+A.1.length+1+B.1.length+1:Nat):Int)=(F:Int)+(A.1.length:Int)+1+(B.1.length:Int)+1:=by omega
  simp only[v1]
  repeat' (first|exact trivial|exact ai (by omega) (by omega)|omega|rfl|(intro q hq;cases hq;assumption)|(simp only[Mq,Mr]<;>omega)|apply And.intro)
 replace h:¬t.kind=12:=fun z=>h (Xd z);have n12:=h;apply aa<;>intro h
 ·replace h:t.kind=13:=Xo h;rw[JA _ F ch h (by omega) h2];have ok:DoK n 13 l F ch t:=⟨h,ho⟩
  repeat' (first|exact trivial|rfl|(intro q hq;cases hq;assumption)|apply And.intro)
 replace h:¬t.kind=13:=fun z=>h (Xd z);have n13:=h;apply aa<;>intro h
 ·replace h:t.kind=14:=Xo h;have hc:=qq oc h;have e0:=aY (l:=t.parts) (i:=0) (by omega);have e1:=aY (l:=t.parts) (i:=1) (by omega);rw[Nq]at e0;simp only[Nat.reduceAdd]at e0 e1;rw[Jz _ F ch h];unfold Lx;have es:(l++[mo t.name]).map nmB=l.map nmB++[nm0 t.name]:=by rw[NR];rfl
  simp only[es];have o0:DoO n l F ch (t.parts.getD 0 default):=ho.part (c:=0) (e:=0) (by omega) (by omega) (by omega) (by omega) (by omega) (by omega) (by omega);have b0:=o0.bd (l.map nmB);simp only[Mv]at b0;generalize bw n (t.parts.getD 0 default) (l.map nmB) F ch=A at *
  obtain⟨p1,p2,p3⟩:=b0;have eB:((F:Int)+(A.1.length:Int)+1).toNat=F+A.1.length+1:=by omega
  have o1:DoO n (l++[mo t.name]) ((F:Int)+(A.1.length:Int)+1) A.2 (t.parts.getD 1 default):=ho.part (c:=szT (t.parts.getD 0 default)) (e:=1) (by omega) (by omega) (by omega) (by omega) (by omega) (by rw[Mq,Mr];omega) (by omega);have b1:=o1.bd (l.map nmB++[nm0 t.name]);simp only[eB]at b1⊢;generalize bw n (t.parts.getD 1 default) (l.map nmB++[nm0 t.name]) (F+A.1.length+1) A.2=B at *
  obtain⟨q1,q2,q3⟩:=b1
  repeat' (first|exact trivial|exact ai (by omega) (by omega)|omega|rfl|(intro q hq;cases hq;assumption)|(simp only[Mq,Mr]<;>omega)|apply And.intro)
 replace h:¬t.kind=14:=fun z=>h (Xd z);have hr:¬t.kind=5/\¬t.kind=6/\¬t.kind=12/\¬t.kind=13/\¬t.kind=14:=⟨n5,n6,n12,n13,h⟩;have lp:=ht.term_parts.len;refine⟨⟨(0,([],ch)),⟨ME _,by simp only[Od,fP,Ny]⟩,?_⟩,?_⟩
 ·repeat' (first|exact trivial|rfl|apply And.intro)
 rintro⟨i,y⟩ ⟨i1,i2⟩;simp only at i1 i2⊢;have bd:=nP (kq n) (l.map nmB) (t.parts.take i) (cb F,ch) (by have:=je t.parts i;omega) (fun u hu=>xZ (de h2 (List.mem_of_mem_take hu)));rw[i2]at bd;obtain⟨b1,b2,b3,b4⟩:=bd;simp only[Mq,bR]at b1 b2 b3 b4;have tl:=je t.parts i;apply aa<;>intro g
 ·replace g:=Xo g;have g:i<t.parts.length:=by omega
  have g1:szTL (t.parts.take (i+1))=szTL (t.parts.take i)+szT (t.parts.getD i default):=by rw[nQ g,oS]
  have g2:=je t.parts (i+1);have o1:DoO n l ((F:Int)+(y.1.length:Int)) y.2 (t.parts.getD i default):=ho.part (c:=szTL (t.parts.take i)) (e:=0) g (by omega) (by omega) (by omega) (by omega) (by omega) (by omega);have eB:((F:Int)+(y.1.length:Int)).toNat=F+y.1.length:=by omega
  have b5:=o1.bd (l.map nmB);have nx:fP (aX n) (l.map nmB) (t.parts.take (i+1)) (cb F,ch)=(cb F++(y.1++(bw n (t.parts.getD i default) (l.map nmB) (F+y.1.length) y.2).1),(bw n (t.parts.getD i default) (l.map nmB) (F+y.1.length) y.2).2):=by rw[nQ g,oR,i2,gL,Mq,bR,MH]
  simp only[eB]at b5⊢;generalize bw n (t.parts.getD i default) (l.map nmB) (F+y.1.length) y.2=R at *
  obtain⟨q1,q2,q3⟩:=b5;refine⟨⟨by omega,by omega⟩,ai (by omega) (by omega),⟨⟨trivial,trivial,trivial⟩,fun q hq=>by cases hq;exact o1⟩,⟨?_,?_,by omega⟩,ai (by omega) (by omega),(i+1,(y.1++R.1,R.2)),⟨g,nx⟩,by simp only;omega,?_⟩
  all_goals repeat' (first|exact trivial|omega|rfl|(simp only[Mq,Mr]<;>omega)|apply And.intro)
 ·have g:¬(i:Int)<(t.parts.length:Int):=fun z=>g (Xd z);have e:t.parts.take i=t.parts:=NH (by omega);rw[e]at i2 tl;rw[e]at b2;rw[Ly _ F ch hr (fun k=>LB (b6 h2) k) i2];have lb:(y.1.length+1) *88<=140737488355328:=by omega
  repeat' (first|exact trivial|rfl|(intro q hq;cases hq;exact lb)|apply And.intro)
theorem Ko(Q:Trm->Bool)(n:Nat)(t:Trm)(l:List Bndg)(ht:Wf (.st .term) t)(hl:Wf (.lst (.st .bind)) l)(ho:Q t=true/\AG n t l) :
  let A:=(0:Int);let B:=True;let C:=if aZ t≠A then[]else yg n t l;let D:=[{args:=A,ops:=[]:Chnk}];let E:=List.length D=List.length D;let F:=Int.toNat A;let G:=bw n t (List.map nmB l) F D;let H:=List.length G.1=List.length G.1;let I:=List.length G.2=List.length G.2;Q t=true/\if(!decide (aZ t=A))=true then B/\(C)=[]/\aZ t=aZ t/\B else((E/\E/\E)/\∀(q:Prop),some (DoO n l A D t)=some q->q)/\((H/\H)/\B)/\(A<=A/\A<(↑(List.length G.2):Int))/\(I/\Int.toNat A<List.length G.2)/\((I/\List.length G.2=List.length (List.set G.2 F {args:=(List.getD G.2 F (dfl (Ty.st SN.chunk))).args,ops:=G.1:Chnk}))/\B)/\B/\(List.set G.2 F {args:=(List.getD G.2 F (dfl (Ty.st SN.chunk))).args,ops:=G.1:Chnk}=C)/\A=aZ t/\B:=by
 conv=>zeta
 obtain⟨hf,hn,hc⟩:=ho;refine⟨hf,aa (fun h=>?_) (fun h=>?_)⟩
 ·have h:aZ t≠0:=by simpa using h
  rw[Mu h]
  repeat' (first|exact trivial|rfl|apply And.intro)
 have h:aZ t=0:=by simpa using h
 have o:=hc h;rw[Mp (fun z=>z h),h];have t0:Int.toNat 0=0:=rfl;have eC:[({args:=0,ops:=[]}:Chnk)]=ch0:=rfl;have b:=o.bd (l.map nmB);simp only[t0,eC];rw[t0]at b;unfold yg;generalize bw n t (l.map nmB) 0 ch0=y at *
 obtain⟨q1,q2,q3⟩:=b;have c1:ch0.length=1:=rfl;simp only[c1]at q2;simp only[Ob]
 repeat' (first|exact trivial|omega|rfl|(intro q hq;cases hq;assumption)|apply And.intro)
end Go.AL.Seat
end
section
open Go Go.AL Go.Proofs Go.Shelf Go.Pd
namespace Go.AL.Seat
variable [Tabs]
variable [SeatLaid]
theorem Dr:au Tryz.prog 206:=ee Tryz.func206
theorem BW(n:Nat)(s:AL.Shape)(m:Int)(hs:Wf (.st .shape) s)(ho:sz s<=n+1/\0<=m/\m<=1000000)(hA:ag Tryz.prog 206 (p2 (.st .shape) (.int .i64) fun s m=>⟨some (sz s<=n/\0<=m/\m<=1000000),none,.int .i64 (sizeF s m),[]⟩)):aw Tryz.prog 206 [.st .shape s,.int .i64 m] [] (.ret (.int .i64 (sizeF s m))):=
 g0 (sc (hA) sn) ⟨[(3,fun S0=>⟨Nat×Int,fun x=>x.1<=s.parts.length/\1<=x.2/\x.2<=m+1/\sizeL (s.parts.drop x.1) x.2 m=sizeF s m,fun x=>[(5,.int .i64 x.2),(6,.int .i64 x.1)],fun _=>[],fun x=>s.parts.length-x.1⟩)],[],[]⟩ Tryz.func206 (Kk n s m hs ho)
theorem Iv:∀n:Nat,ag Tryz.prog 206 (p2 (.st .shape) (.int .i64) fun s m=>⟨some (sz s<=n/\0<=m/\m<=1000000),none,.int .i64 (sizeF s m),[]⟩):=by
 intro n
 induction n with
 |zero=>exact dx Dr fun a m _ _ ho=>absurd (ho _ rfl).1 (by have:=jl a;omega)
 |succ n ih=>exact dx Dr fun a m ha _ ho=>BW n a m ha (ho _ rfl) ih
theorem BX:ag Tryz.prog 254 (p2 (.lst .str) (.int .i64) fun ns n=>.ret (.bool (iv ns n))):=
 dx (ee Tryz.func254) fun ns n hl _ _=>g0 (sc mb sn) ⟨[(2,fun S0=>⟨Nat,fun k=>k<=ns.length/\(ns.take k).all az=true/\(ns.take k).Nodup,fun k=>[(5,.int .i64 k)],fun _=>[],fun k=>ns.length-k⟩),(7,fun S0=>pb S0 5 fun k0=>⟨Nat,fun j=>(j:Int)<=k0/\(ns.getD k0.toNat (dfl .str))∉ns.take j,fun j=>[(6,.int .i64 j)],fun _=>[],fun j=>k0.toNat-j⟩)],[],[]⟩ Tryz.func254 (Fp ns n hl)
theorem Fx:ag Tryz.prog 231 (p1 (.st .shape) fun s=>.ret (.bool (bh s))):=
 aW (ee Tryz.func231) fun s hs _=>g0 (sc BX (sc td (sc mb sn))) a0 Tryz.func231 (Ik s hs)
theorem z8:au Tryz.prog 208:=ee Tryz.func208
theorem za(n:Nat)(s:AL.Shape)(hs:Wf (.st .shape) s)(hn:sz s<=n+1)(hA:ag Tryz.prog 208 (p1 (.st .shape) fun s=>⟨some (sz s<=n),none,.bool (allS bh s),[]⟩)):aw Tryz.prog 208 [.st .shape s] [] (.ret (.bool (allS bh s))):=
 g0 (sc Fx (sc (hA) sn)) ⟨[(4,fun S0=>⟨Nat,fun k=>k<=s.parts.length/\allS bh s=allL bh (s.parts.drop k),fun k=>[(3,.int .i64 k)],fun _=>[],fun k=>s.parts.length-k⟩)],[],[]⟩ Tryz.func208 (Il n s hs hn)
theorem Fy:∀n:Nat,ag Tryz.prog 208 (p1 (.st .shape) fun s=>⟨some (sz s<=n),none,.bool (allS bh s),[]⟩):=by
 intro n
 induction n with
 |zero=>exact aW z8 fun a _ ho=>absurd (ho _ rfl) (by have:=jl a;omega)
 |succ n ih=>exact aW z8 fun a hs ho=>za n a hs (ho _ rfl) ih
theorem Ds:au Tryz.prog 207:=ee Tryz.func207
theorem BY(n:Nat)(s:AL.Shape)(hs:Wf (.st .shape) s)(hn:sz s<=n+1)(hb:n<=1000000)(hA:ag Tryz.prog 207 (p1 (.st .shape) fun s=>⟨some (sz s<=n),none,.int .i64 (deepF s:Int),[]⟩)):aw Tryz.prog 207 [.st .shape s] [] (.ret (.int .i64 (deepF s:Int))):=
 g0 (sc (hA) sn) ⟨[(3,fun S0=>⟨Nat×Int,fun x=>x.1<=s.parts.length/\0<=x.2/\max x.2 (maxDeep (s.parts.drop x.1):Int)=maxDeep s.parts,fun x=>[(3,.int .i64 x.2),(4,.int .i64 x.1)],fun _=>[],fun x=>s.parts.length-x.1⟩)],[],[]⟩ Tryz.func207 (Kl n s hs hn hb)
theorem Iw:∀n:Nat,n<=1000000->ag Tryz.prog 207 (p1 (.st .shape) fun s=>⟨some (sz s<=n),none,.int .i64 (deepF s:Int),[]⟩):=by
 intro n
 induction n with
 |zero=>exact fun _=>aW Ds fun a _ ho=>absurd (ho _ rfl) (by have:=jl a;omega)
 |succ n ih=>exact fun hb=>aW Ds fun a hs ho=>BY n a hs (ho _ rfl) (by omega) (ih (by omega))
theorem BZ:ag Tryz.prog 172 (p1 (.st .shape) fun s=>.ret (.int .i64 (cw s))):=
 aW (ee Tryz.func172) fun s hs _=>g0 (sc (Iv (sz s)) (sc (Iw 400 (by decide)) (sc (Fy 400) sn))) a0 Tryz.func172 (Fq s hs)
theorem Fz:ag Tryz.prog 232 (p1 (.int .i64) fun p=>.ret (.bool (fb p))):=
 aW (ee Tryz.func232) fun p _ _=>g0 sn a0 Tryz.func232 (Im p)
theorem FA:ag Tryz.prog 233 (p1 (.int .i64) fun p=>⟨some (0<=p/\p<=1114111),none,.str (cZ p),[]⟩):=
 aW (ee Tryz.func233) fun p _ ho=>g0 sn a0 Tryz.func233 (Io p (ho _ rfl))
theorem FC:ag Tryz.prog 211 (p1 .str fun s=>.ret (.tup [.int .i64 (ie s).1,.int .i64 (ie s).2])):=
 aW (ee Tryz.func211) fun s hs _=>g0 (sc Fz (sc FA sn)) ⟨[(16,fun S0=>⟨Nat,fun k=>1<=k/\k<=bT s/\(k=1->-300<=aO s k/\aO s k<=300)/\(k=2->-20000<=aO s k/\aO s k<=20000)/\(k=3->-1300000<=aO s k/\aO s k<=1300000)/\(k=4->-90000000<=aO s k/\aO s k<=90000000),fun k=>[(6,.int .i64 k),(5,.int .i64 (aO s k))],fun _=>[],fun k=>bT s-k⟩)],[],[(100013,fun S0=>⟨[(4,.int .i64 (bT s:Int)),(5,.int .i64 (gp s))],[]⟩)]⟩ Tryz.func211 (Ip s hs)
theorem Ca:ag Tryz.prog 131 (p2 (.lst .str) .bool fun ns b=>.ret (.bool (fc ns b))):=
 dx (ee Tryz.func131) fun ns b hl _ _=>g0 (sc mb sn) ⟨[(2,fun S0=>⟨Nat,fun k=>k<=ns.length/\(ns.take k).all az=true/\(b=true->(ns.take k).Nodup),fun k=>[(5,.int .i64 k)],fun _=>[],fun k=>ns.length-k⟩),(7,fun S0=>pb S0 5 fun k0=>⟨Nat,fun j=>(j:Int)<=k0/\(b=true->(ns.getD k0.toNat (dfl .str))∉ns.take j)/\(b=false->j=0),fun j=>[(6,.int .i64 j)],fun _=>[],fun j=>k0.toNat-j⟩)],[],[]⟩ Tryz.func131 (Fs ns b hl)
theorem tq:au Tryz.prog 173:=ee Tryz.func173
theorem tT(n:Nat)(s:AL.Shape)(hs:Wf (.st .shape) s)(hn:sz s<=n+1)(hA:ag Tryz.prog 173 (p1 (.st .shape) fun s=>⟨some (sz s<=n),none,.bool (!allS aS s),[]⟩)):aw Tryz.prog 173 [.st .shape s] [] (.ret (.bool (!allS aS s))):=
 g0 (sc (hA) sn) ⟨[(2,fun S0=>⟨Nat,fun k=>k<=s.parts.length/\allS aS s=(aS s&&allL aS (s.parts.drop k)),fun k=>[(3,.int .i64 k)],fun _=>[],fun k=>s.parts.length-k⟩)],[],[]⟩ Tryz.func173 (BS n s hs hn)
theorem zb:∀n:Nat,ag Tryz.prog 173 (p1 (.st .shape) fun s=>⟨some (sz s<=n),none,.bool (!allS aS s),[]⟩):=by
 intro n
 induction n with
 |zero=>exact aW tq fun a _ ho=>absurd (ho _ rfl) (by have:=jl a;omega)
 |succ n ih=>exact aW tq fun a hs ho=>tT n a hs (ho _ rfl) ih
theorem zc:ag Tryz.prog 132 (p1 (.lst (.st .shape)) fun l=>.ret (.bool (l.all bn))):=
 aW (ee Tryz.func132) fun l hl _=>g0 (sc BZ (sc (zb 400) sn)) ⟨[(2,fun S0=>⟨Nat,fun k=>k<=l.length/\l.all bn=(l.drop k).all bn,fun k=>[(3,.int .i64 k)],fun _=>[],fun k=>l.length-k⟩)],[],[]⟩ Tryz.func132 (BT l hl)
theorem Cb:ag Tryz.prog 134 (p5 (.st .term) (.int .i64) (.int .i64) (.int .i64) (.int .i64) fun t n v s p=>.ret (.bool (ib t n v s p))):=
 Mi (ee Tryz.func134) fun t n v s p _ _ _ _=>g0 sn a0 Tryz.func134 (Ft t n v s p)
theorem zd:ag Tryz.prog 177 (p1 .str fun s=>⟨some (s.length<=2000000),none,.tup [.lst (.int .i64) (jq s).1 none,.st .fault (jq s).2],[]⟩):=
 aW (ee Tryz.func177) fun s hs ho=>g0 (sc FC sn) ⟨[(3,fun S0=>⟨Nat×Nat×List Int,fun y=>y.2.1<=s.length/\s.length-y.2.1<y.1/\y.2.2.length<=y.2.1/\kx s y.1 y.2.1 y.2.2=jq s,fun y=>[(5,.int .i64 (y.2.1:Int)),(4,.lst (.int .i64) y.2.2 (some 701))],fun y=>[(701,.tail (.int .i64) y.2.2.length)],fun y=>s.length-y.2.1⟩)],[],[]⟩ Tryz.func177 (BU s hs (ho _ rfl))
theorem FD:ag Tryz.prog 135 (p1 .str fun s=>⟨some (s.length<=2000000),none,.bool (jb s),[]⟩):=
 aW (ee Tryz.func135) fun s hs ho=>g0 (sc zd sn) ⟨[(2,fun S0=>⟨Nat,fun k=>k<=s.length/\s.all di=(s.drop k).all di,fun k=>[(3,.int .i64 k)],fun _=>[],fun k=>s.length-k⟩)],[],[]⟩ Tryz.func135 (Iq s hs (ho _ rfl))
theorem FE:ag Tryz.prog 89 (p1 (.st .term) fun t=>⟨some (t.name.length<=2000000/\t.names.length<=2000000),none,.bool (ax t),[]⟩):=
 aW (ee Tryz.func89) fun t ht ho=>g0 (sc Ca (sc zc (sc mb (sc td (sc Cb (sc FD sn)))))) a0 Tryz.func89 (Ir t ht (ho _ rfl))
theorem uR:au Tryz.prog 54:=ee Tryz.func54
theorem wx(n:Nat)(t:Trm)(ht:Wf (.st .term) t)(hn:szT t<=n+1)(ho:eL t=true)(hA:ag Tryz.prog 54 (p1 (.st .term) fun t=>⟨some (szT t<=n/\eL t=true),none,.bool (allT ax t),[]⟩)):aw Tryz.prog 54 [.st .term t] [] (.ret (.bool (allT ax t))):=
 g0 (sc FE (sc (hA) sn)) ⟨[(4,fun S0=>⟨Nat,fun k=>k<=t.parts.length/\allT ax t=allTL ax (t.parts.drop k),fun k=>[(3,.int .i64 k)],fun _=>[],fun k=>t.parts.length-k⟩)],[],[]⟩ Tryz.func54 (Fu n t ht hn ho)
theorem Cc:∀n:Nat,ag Tryz.prog 54 (p1 (.st .term) fun t=>⟨some (szT t<=n/\eL t=true),none,.bool (allT ax t),[]⟩):=by
 intro n
 induction n with
 |zero=>exact aW uR fun a _ ho=>absurd (ho _ rfl).1 (by have:=dh a;omega)
 |succ n ih=>exact aW uR fun a hs ho=>wx n a hs (ho _ rfl).1 (ho _ rfl).2 ih
theorem ze:au Tryz.prog 8:=ee Tryz.func8
theorem zf(n:Nat)(s:Trm)(m:Int)(hs:Wf (.st .term) s)(ho:szT s<=n+1/\0<=m/\m<=1000000)(hA:ag Tryz.prog 8 (p2 (.st .term) (.int .i64) fun s m=>⟨some (szT s<=n/\0<=m/\m<=1000000),none,.int .i64 (dY s m),[]⟩)):aw Tryz.prog 8 [.st .term s,.int .i64 m] [] (.ret (.int .i64 (dY s m))):=
 g0 (sc (hA) sn) ⟨[(3,fun S0=>⟨Nat×Int,fun x=>x.1<=s.parts.length/\1<=x.2/\x.2<=m+1/\sizeTL (s.parts.drop x.1) x.2 m=dY s m,fun x=>[(5,.int .i64 x.2),(6,.int .i64 x.1)],fun _=>[],fun x=>s.parts.length-x.1⟩)],[],[]⟩ Tryz.func8 (Is n s m hs ho)
theorem FF:∀n:Nat,ag Tryz.prog 8 (p2 (.st .term) (.int .i64) fun s m=>⟨some (szT s<=n/\0<=m/\m<=1000000),none,.int .i64 (dY s m),[]⟩):=by
 intro n
 induction n with
 |zero=>exact dx ze fun a m _ _ ho=>absurd (ho _ rfl).1 (by have:=dh a;omega)
 |succ n ih=>exact dx ze fun a m ha _ ho=>zf n a m ha (ho _ rfl) ih
theorem zg:au Tryz.prog 53:=ee Tryz.func53
theorem zh(n:Nat)(s:Trm)(hs:Wf (.st .term) s)(hn:szT s<=n+1)(hb:n<=1000000)(hA:ag Tryz.prog 53 (p1 (.st .term) fun s=>⟨some (szT s<=n),none,.int .i64 (deepT s:Int),[]⟩)):aw Tryz.prog 53 [.st .term s] [] (.ret (.int .i64 (deepT s:Int))):=
 g0 (sc (hA) sn) ⟨[(3,fun S0=>⟨Nat×Int,fun x=>x.1<=s.parts.length/\0<=x.2/\max x.2 (maxDT (s.parts.drop x.1):Int)=maxDT s.parts,fun x=>[(3,.int .i64 x.2),(4,.int .i64 x.1)],fun _=>[],fun x=>s.parts.length-x.1⟩)],[],[]⟩ Tryz.func53 (It n s hs hn hb)
theorem FH:∀n:Nat,n<=1000000->ag Tryz.prog 53 (p1 (.st .term) fun s=>⟨some (szT s<=n),none,.int .i64 (deepT s:Int),[]⟩):=by
 intro n
 induction n with
 |zero=>exact fun _=>aW zg fun a _ ho=>absurd (ho _ rfl) (by have:=dh a;omega)
 |succ n ih=>exact fun hb=>aW zg fun a hs ho=>zh n a hs (ho _ rfl) (by omega) (ih (by omega))
theorem Cd:ag Tryz.prog 24 (p1 (.st .term) fun s=>⟨some (eL s=true),none,.int .i64 (aZ s),[]⟩):=
 aW (ee Tryz.func24) fun s hs ho=>g0 (sc (FF (szT s)) (sc (FH 4096 (by decide)) (sc (Cc 4096) sn))) a0 Tryz.func24 (Fv s hs (ho _ rfl))
theorem lz(C D:Trm->List Bndg->List Chnk×Int)(O P:Trm->List Bndg->Prop)(S:List Chnk->List Chnk->Bool)(t:Trm)(l:List Bndg)(ht:Wf (.st .term) t)(hS:∀l,S l l=true)(hm:szcT t 500<=500->l.length<=100->O t l/\P t l/\C t l=D t l)(hC':ag Tryz.prog 11 (p2 (.st .term) (.lst (.st .bind)) fun t l=>⟨some (O t l),none,.tup [.lst (.st .chunk) (C t l).1 none,.int .i64 (C t l).2],[]⟩))(hD':ag Tryz.prog 12 (p2 (.st .term) (.lst (.st .bind)) fun t l=>⟨some (P t l),none,.tup [.lst (.st .chunk) (D t l).1 none,.int .i64 (D t l).2],[]⟩))(hS':ag Tryz.prog 13 (p2 (.lst (.st .chunk)) (.lst (.st .chunk)) fun a b=>.ret (.bool (S a b))))(hW':ag Tryz.prog 10 (p0 (.ret (.bool true)))):aw Tryz.prog 3 [.st .term t,.lst (.st .bind) l none] [] (.ret (.bool true)):=
 g0 (sc (hC') (sc (hD') (sc (hS') (sc (hW') (sc ((BR (szT t))) (sc Fo sn)))))) a0 Tryz.func3 (nV C D O P S t l ht hS hm)
theorem n9:ag Tryz.prog 57 (p2 (.lst (.st .bind)) .str fun l nm=>⟨some ((l.length+1) *120<=140737488355328),none,.lst (.st .bind) (l++[mo nm]) none,[]⟩):=
 dx (ee Tryz.func57) fun l nm hl _ ho=>g0 sn a0 Tryz.func57 (Fw l nm hl (ho _ rfl))
theorem zi:ag Tryz.prog 58 (LD behA):=
 JD (ee Tryz.func58) fun xs t ht ho=>g0 sn a0 Tryz.func58 (BV xs t ht (ho _ rfl))
theorem Kp:au Tryz.prog 55:=ee Tryz.func55
theorem Ce(n:Nat)(l:List Bndg)(ch:List Chnk)(t:Trm)(ht:Wf (.st .term) t)(hl:Wf (.lst (.st .bind)) l)(ho:DoK n 6 l 0 ch t)(hT:ag Tryz.prog 25 (sH fun l f ch t=>yb n l f ch t)):aw Tryz.prog 55 [.st .term t,.lst (.st .bind) l none,.ptr 900 0] (chS ch) ((LF n l ch t)):=
 g0 (sc (hT) (sc n9 sn)) ⟨[(5,fun S0=>⟨Nat,fun i=>i<=t.names.length,fun i=>[(9,.int .i64 i),(8,.lst (.st .bind) (mY l (t.names.take i)) none)],fun i=>[],fun i=>t.names.length-i⟩)],[(400009,[78047,10])],[]⟩ Tryz.func55 (Km n l ch t ht hl ho)
theorem Ix(n:Nat)(hT:ag Tryz.prog 25 (sH fun l f ch t=>yb n l f ch t)):ag Tryz.prog 55 (JB fun l ch t=>LF n l ch t):=
 JC Kp fun l ch t ht hl ho=>Ce n l ch t ht hl (ho _ rfl) hT
theorem Kq:au Tryz.prog 56:=ee Tryz.func56
theorem Cf(n:Nat)(l:List Bndg)(f:Int)(ch:List Chnk)(t:Trm)(ht:Wf (.st .term) t)(hl:Wf (.lst (.st .bind)) l)(ho:DoK n 13 l f ch t)(hT:ag Tryz.prog 25 (sH fun l f ch t=>yb n l f ch t)):aw Tryz.prog 56 [.st .term t,.lst (.st .bind) l none,.int .i64 f,.ptr 900 0] (chS ch) ((H6 n l f ch t)):=
 g0 (sc (hT) (sc n9 sn)) ⟨[(6,fun S0=>⟨Nat×List Int×CS,fun y=>y.1<=t.names.length/\y.2.1.length=y.1/\kE n l f ch t y.1 y.2.1 y.2.2,fun y=>[(12,.int .i64 y.1),(9,.glst y.2.2.1.length y.2.2.1.length 78021),(11,.lst (.int .i64) y.2.1 (some 701))],fun y=>(78021,.grow (.st .op) y.2.2.1.length y.2.2.1)::(701,.tail (.int .i64) y.2.1.length)::chS y.2.2.2,fun y=>t.names.length-y.1⟩),(13,fun S0=>JF S0 fun o0 c0=>⟨Nat,fun i=>i<=o0.length,fun i=>[(13,.int .i64 i),(9,.glst o0.length o0.length 78021)],fun i=>(78021,.grow (.st .op) o0.length (iV (f+o0.length) o0 i))::chS c0,fun i=>o0.length-i⟩)],[(500000,[78021,77])],[]⟩ Tryz.func56 (Kn n l f ch t ht hl ho)
theorem Iy(n:Nat)(hT:ag Tryz.prog 25 (sH fun l f ch t=>yb n l f ch t)):ag Tryz.prog 56 (sH fun l f ch t=>H6 n l f ch t):=
 w8 Kq fun l f ch t ht hl ho=>Cf n l f ch t ht hl (ho _ rfl) hT
theorem zj:au Tryz.prog 25:=ee Tryz.func25
theorem zk(n:Nat)(l:List Bndg)(f:Int)(ch:List Chnk)(t:Trm)(ht:Wf (.st .term) t)(hl:Wf (.lst (.st .bind)) l)(ho:DoO (n+1) l f ch t)(hT:ag Tryz.prog 25 (sH fun l f ch t=>yb n l f ch t))(hF:ag Tryz.prog 55 (JB fun l ch t=>LF n l ch t))(hM:ag Tryz.prog 56 (sH fun l f ch t=>H6 n l f ch t)):aw Tryz.prog 25 [.st .term t,.lst (.st .bind) l none,.int .i64 f,.ptr 900 0] (chS ch) ((yb (n+1) l f ch t)):=
 g1 nn (fun _=>[]) nn (fun d=>Nat.beq d 5062||Nat.beq d 5072) nn (sc (hT) (sc n9 (sc zi (sc (hF) (sc (hM) sn))))) ⟨[(7,fun S0=>⟨Nat,fun i=>i<=l.length,fun i=>[(10,.int .i64 i)],fun i=>[(9,.box (.st .op (dG (l.map nmB) t i)))],fun i=>l.length-i⟩),(36,fun S0=>⟨Nat×CS,fun y=>y.1<=t.parts.length/\fP (aX n) (l.map nmB) (t.parts.take y.1) (cb f.toNat,ch)=(cb f.toNat++y.2.1,y.2.2),fun y=>[(20,.int .i64 y.1),(19,.glst y.2.1.length y.2.1.length 700)],fun y=>(700,.grow (.st .op) y.2.1.length y.2.1)::chS y.2.2,fun y=>t.parts.length-y.1⟩)],[(500000,[62,77,72,77,78082,77,78141,77,78151,77,700,77])],[]⟩ Tryz.func25 (Iu n l f ch t ht hl ho)
theorem mc:∀n:Nat,ag Tryz.prog 25 (sH fun l f ch t=>yb n l f ch t)
 |0=>w8 zj fun l f ch t _ _ ho=>absurd (ho _ rfl).1 (by have:=dh t;omega)
 |n+1=>w8 zj fun l f ch t ht hl ho=>zk n l f ch t ht hl (ho _ rfl) (mc n) (Ix n (mc n)) (Iy n (mc n))
theorem Kr:au Tryz.prog 12:=ee Tryz.func12
theorem Cg(Q:Trm->Bool)(n:Nat)(t:Trm)(l:List Bndg)(ht:Wf (.st .term) t)(hl:Wf (.lst (.st .bind)) l)(ho:Q t=true/\AG n t l)(hT:ag Tryz.prog 25 (sH fun l f ch t=>yb n l f ch t))(hK:ag Tryz.prog 24 (p1 (.st .term) fun s=>⟨some (Q s=true),none,.int .i64 (aZ s),[]⟩)):aw Tryz.prog 12 [.st .term t,.lst (.st .bind) l none] [] (⟨some (Q t=true/\AG n t l),none,.tup [.lst (.st .chunk) (if aZ t≠0 then[]else yg n t l) none,.int .i64 (aZ t)],[]⟩):=
 g1 nn (fun _=>[]) nn (fun d=>Nat.beq d 5015) nn (sc (hT) (sc (hK) sn)) ⟨[],[(400006,[78018,8]),(400007,[15])],[]⟩ Tryz.func12 (Ko Q n t l ht hl ho)
theorem Iz(Q:Trm->Bool)(hK:ag Tryz.prog 24 (p1 (.st .term) fun s=>⟨some (Q s=true),none,.int .i64 (aZ s),[]⟩)):ag Tryz.prog 12 (p2 (.st .term) (.lst (.st .bind)) fun t l=>⟨some (Q t=true/\AG (szT t) t l),none,.tup [.lst (.st .chunk) (if aZ t≠0 then[]else yg (szT t) t l) none,.int .i64 (aZ t)],[]⟩):=dx Kr fun t l ht hl ho=>Cg Q (szT t) t l ht hl (ho _ rfl) (mc (szT t)) hK
end Go.AL.Seat
end
section
namespace Go.Proofs.YtldkmcedeenlnaaGreatDoor.JCodeCompiles
open Go.AL Go.AL.Seat Go.Pd Go.ChangeShapes Go.WideShapes Go.RowKit Go.Proofs.YtldkmcedeenlnaaGreatDoor.Join
set_option maxRecDepth 1000000
theorem par:Tryz.f3.params=#[26,27]:=by kernel_rfl
theorem res:Tryz.f3.resultTypes=#[4]:=by kernel_rfl
theorem spec{H:Type}(ds:List (DataW H))(hd:ds.length=2):Rows.codeCompilesSpec.fn H ds={results:=[.lit (.bool true)],args:=ds}:=by
 match ds,hd with
 |[d0,d1],_=>rfl
theorem IA(H:Type)(enc:TypeId×Value->H)(W:World)(base:Nat)(args:Array Value)(ds gs:List (DataW H))(before:List MemPlace)
 (hval:∀(j:Nat) t v,Tryz.f3.params[j]?=some t->args[j]?=some v->Value.okWide Tryz.prog W .any base t v)
 (hW:DataW.Whole enc Tryz.prog Tryz.f3.params.toList Rows.codeCompilesSpec.vars false W args.toList ds gs before)(hku:Rows.uptoSmall H (ds++gs)=true)(hL:laidMet Tryz.prog laid W)(hsh:W.ShapedOpen Tryz.prog) :
  Calls Tryz.prog 3 args W fun e W'=>∃v,e=.returned v/\Rows.codeCompilesSpec.post enc Tryz.prog Tryz.f3 false true false false W args v W':=by
 letI:Tabs:=rX W
 haveI:SeatLaid:=GD hL hsh
 have hW':=hW;obtain⟨p,q,hA,hV,_,_,_⟩:=hW;rw[par]at hA hval;obtain⟨v0,vs0,d0,ds0,p0,q0,hargs0,rfl,rfl,h0,r0⟩:=trodAll_cons hA;obtain⟨v1,vs1,d1,ds1,p1,q1,hargs1,rfl,rfl,h1,r1⟩:=trodAll_cons r0;obtain⟨rfl,rfl,rfl⟩:=trodAll_nil r1;subst hargs1;obtain rfl:args=#[v0,v1]:=by have:=NT List.toArray hargs0;simpa using this
 obtain⟨x0,hx0,hq0⟩:=Eg (Eh Tryz.prog) Lt (hval 0 26 v0 rfl rfl) h0 (GI hku (by simp));obtain⟨fu1,hf1⟩:=h1;obtain⟨x1,hx1⟩:=IX Mf Ls (hval 1 27 v1 rfl rfl) hf1;refine(E3 (lz Jw cmpD (fun t l=>AA (szT t) t l) (fun t l=>eL t=true/\AG (szT t) t l) su x0 x1 ⟨_,_,hx0⟩ Az (fun a b=>JJ hq0 a b) Ij (Iz eL Cd) Bt yE) (fun b o v h=>h.2) (fun b x h=>h.2) (VL.cons hx0 (VL.cons hx1 .nil))).mono fun e W' ⟨he,hb⟩=>?_;subst he;refine⟨_,rfl,Gn (tb:=4) J4 (fun t ht=>?_) rfl (fun ds hd=>spec ds ?_) res undB hW' hb⟩
 ·rw[par]at ht;have ht:t∈[26,27]:=ht;simp only[MJ,O5,or_false]at ht;rcases ht with rfl|rfl
  ·exact⟨Mg,Pj (by decide) dY⟩
  ·exact⟨Mh,Pj (by decide) dY⟩
 ·rw[par]at hd;exact hd
theorem reads(os:Os){H:Type}(enc:TypeId×Value->H):(DataW.whole enc Tryz.prog ((lR os).forCall (fun _ _=>0) ⟨#[],#[.agg #[.int .i64 0,.string ⟨#[]⟩,.string ⟨#[]⟩,.int .i64 0,.slice none 0 0,.slice none 0 0,.slice none 0 0,.slice none 0 0,.int .i64 0],.slice none 0 0],[]⟩).memory Tryz.f3.params.toList Rows.codeCompilesSpec.vars false [Value.agg #[.int .i64 0,.string ⟨#[]⟩,.string ⟨#[]⟩,.int .i64 0,.slice none 0 0,.slice none 0 0,.slice none 0 0,.slice none 0 0,.int .i64 0],Value.slice none 0 0] 8).map (fun x=>(x.1,x.2.1))=some ([.agg [.lit (.int .i64 0),.lit (.string []),.lit (.string []),.lit (.int .i64 0),.nil,.nil,.nil,.nil,.lit (.int .i64 0)],.nil],[]):=by kernel_rfl
theorem M0(os:Os)(started:os.Started)(H:Type)(enc:TypeId×Value->H)(F:Stop.Interp) :
  ReturnsInHanded {} Tryz.checked os 3 .any ((Rows.OpenSpec.upto Rows.codeCompilesSpec).preRow enc Tryz.prog Tryz.f3 Rows.codeCompilesUptoRow.domain false Rows.codeCompilesUptoRow.laid) (((Rows.OpenSpec.upto Rows.codeCompilesSpec).at F).post enc Tryz.prog Tryz.f3 false true false false):=by
 obtain⟨⟨y1,y2,y3⟩,hx,hy⟩:=MM.1 (reads os enc);simp only[OL]at hy;obtain⟨rfl,rfl⟩:=hy
 refine returnsInHanded_of_row (C:=Tryz.checked) (s:=Rows.OpenSpec.upto Rows.codeCompilesSpec) own started (by kernel_rfl) Tryz.func3
  (witness_row_atRef (enc:=enc) (C:=Tryz.checked) false (lR os) #[.agg #[.int .i64 0,.string ⟨#[]⟩,.string ⟨#[]⟩,.int .i64 0,.slice none 0 0,.slice none 0 0,.slice none 0 0,.slice none 0 0,.int .i64 0],.slice none 0 0] rfl (by kernel_rfl) (by kernel_rfl) (by kernel_rfl)
   (OpenSpec.preRow_of_cond 8 hx (by kernel_rfl) (fun k hk=>by cases hk;kernel_rfl) (by kernel_rfl) (GF os _))) ?_
 intro W base args ds gs before hval hW _ hku _ hL hsh _;exact IA H enc W base args ds gs before hval hW (hku _ rfl) hL hsh
theorem c1:(Rows.codeCompilesUptoRow.inPlace ==Tryz.prog.inPlace 3)=true:=by kernel_rfl
theorem c2:(Rows.codeCompilesUptoRow.unfollowed ==Tryz.prog.unfollowed 3)=true:=by kernel_rfl
theorem c3:(Rows.codeCompilesUptoRow.recurses ==Tryz.prog.recurses 3)=true:=by kernel_rfl
theorem c4:(Rows.codeCompilesUptoRow.named ==Tryz.prog.varsNamed 3)=true:=by kernel_rfl
theorem M1:joinedFacts Tryz.prog 3 Tryz.f3 (Rows.OpenSpec.upto Rows.codeCompilesSpec).bare Rows.codeCompilesUptoRow=true:=by unfold joinedFacts;rw[c1,c2,c3,c4];kernel_rfl
theorem said:Rows.CodeCompilesUptoSaid:=
 OpenClaim.holds_of_cond 3 Tryz.f3 rfl rfl rfl rfl rfl rfl rfl ⟨rfl,rfl,rfl,rfl,rfl⟩ rfl rfl rfl rfl rfl (by kernel_rfl) Tryz.func3 M1
  (Xo (by kernel_rfl)) (by unfold Func.isWrapper;first|(rw[Mu (by decide+kernel)];kernel_rfl)|(rw[Mp (by decide+kernel)];exact⟨rfl,rfl⟩))
  (fun os started H enc _ F=>by rw[OpenClaim.pre_eq_preRow];exact M0 os started H enc F)
theorem dW(f:FuncId)(fn:Func)(hf:Tryz.pinned.checked.prog.funcNamed "pandect/pandectlaw31.CodeCompiles"=some f)(hfn:Tryz.pinned.checked.prog.funcs[f]?=some fn) :
  true=Tryz.pinned.checked.prog.looks []/\∀(j:Nat) t,fn.params[j]?=some t->Tryz.pinned.checked.prog.wantsStandIn t=false:=by
 obtain rfl:f=3:=N3 ((show Tryz.prog.funcNamed "pandect/pandectlaw31.CodeCompiles"=some 3 by kernel_rfl).symm.trans hf) |>.symm;obtain rfl:fn=Tryz.f3:=(N3 (Tryz.func3.symm.trans hfn)).symm;refine ⟨by kernel_rfl,fun j t ht=>?_⟩;rw [par] at ht;have ht:=Array.mem_of_getElem? ht;simp only [List.mem_toArray,MJ,O5,or_false] at ht;rcases ht with rfl | rfl
 ·exact(show Tryz.prog.wantsStandIn 26=false by kernel_rfl)
 ·exact(show Tryz.prog.wantsStandIn 27=false by kernel_rfl)
theorem card:Rows.CodeCompilesUptoCardSaid:=
 Claim7.holds_tied_plain_at .later [] _ _ _ _ said (fun _ h=>by cases h) (by kernel_rfl) (fun _ h=>by cases h) codeCompilesUpto_row_tie rfl ⟨rfl,rfl⟩ (by kernel_rfl) rfl dW (by kernel_rfl)
end Go.Proofs.YtldkmcedeenlnaaGreatDoor.JCodeCompiles
end
