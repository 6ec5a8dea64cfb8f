/- What the functions' conditions say, proved. The contracts of the functions. Plain facts. No condition. -/
import Derived.Test.YtdmbjejhifjhbaaGreatDoorT05
import Derived.KernelRfl
import Derived.Laws.OwnMore
import Derived.Lib.ItoaNum
import Derived.Sort.Walk0
import Derived.Test.YtdmbjejhifjhbaaGreatDoorProg
import Derived.WalkKit
set_option linter.all false
set_option maxRecDepth 100000
section
open Go Go.AL Go.Pd
namespace Go.AL.Seat
theorem Fj(s:Str)(c:SC)(n:Nat)(ho:n=c.out.length/\n<=4096/\s.length<=4096/\0<=c.pos/\c.pos<=(s.length:Int)/\c.pos<(s.length:Int)) :
  let A:=(4096:Nat);let B:=List.length s<=A;let C:=(0:Int);let D:=C<=c.pos;let E:=(↑(List.length s):Int);let F:=c.pos<=E;let G:=(2:Int);let H:=Ty.st SN.token;let I:=(AV.agg [AV.str s,AV.int IntKind.i64 c.pos,AV.lst H c.out (some (901:Nat)),AV.int IntKind.i64 c.err,AV.int IntKind.i64 c.fat]);let J:=True;let K:=c.pos+C;let L:=bAt s K;let M:=B/\D/\F;let N:=(↑(aq bB s c.pos):Int);let O:=cut s c.pos (c.pos+N);let P:=n=List.length c.out;let Q:=(1:Nat);let R:=(140737488355328:Nat);let S:=(P/\(n+Q)*(32:Nat)<=R);let T:=aP s c;let U:=true=T.1;let V:=s=s;let W:=(fE (5:Int) O c.pos {pos:=c.pos+N,out:=c.out,err:=c.err,fat:=c.fat:SC});let X:=n+Q=List.length T.2.out/\J;let Y:=(1:Int);let Z:=(fE Y O c.pos {pos:=c.pos+N,out:=c.out,err:=c.err,fat:=c.fat:SC});let a:=(fE G O c.pos {pos:=c.pos+N,out:=c.out,err:=c.err,fat:=c.fat:SC});let b:=false=T.1;let d:=(60:Int);let e:=(gq d c.pos {pos:=c.pos+N,out:=c.out,err:=c.err,fat:=c.fat:SC});let f:=M/\if lE O=true then S/\J/\U/\V/\W.2.pos=T.2.pos/\W.2.out=T.2.out/\W.2.err=T.2.err/\W.2.fat=T.2.fat/\X else if aG O=true then S/\J/\U/\V/\Z.2.pos=T.2.pos/\Z.2.out=T.2.out/\Z.2.err=T.2.err/\Z.2.fat=T.2.fat/\X else if cW O=true then S/\J/\U/\V/\a.2.pos=T.2.pos/\a.2.out=T.2.out/\a.2.err=T.2.err/\a.2.fat=T.2.fat/\X else P/\J/\b/\V/\e.2.pos=T.2.pos/\e.2.out=T.2.out/\e.2.err=T.2.err/\e.2.fat=T.2.fat/\List.length e.2.out=List.length T.2.out/\J;let g:=(↑(aq ck s c.pos):Int);let h:=cut s c.pos (c.pos+g);let i:=(↑(List.length h):Int);let j:=(fE (3:Int) h c.pos {pos:=c.pos+g,out:=c.out,err:=c.err,fat:=c.fat:SC});let k:=S/\J/\U/\V/\j.2.pos=T.2.pos/\j.2.out=T.2.out/\j.2.err=T.2.err/\j.2.fat=T.2.fat/\X;let l:=(fE (7:Int) h c.pos {pos:=c.pos+g,out:=c.out,err:=c.err,fat:=c.fat:SC});let m:=(gq d c.pos {pos:=c.pos+g,out:=c.out,err:=c.err,fat:=c.fat:SC});let o:=List.length h<=A/\if decide ((er h).2=C)=true then S/\J/\U/\V/\l.2.pos=T.2.pos/\l.2.out=T.2.out/\l.2.err=T.2.err/\l.2.fat=T.2.fat/\X else P/\J/\b/\V/\m.2.pos=T.2.pos/\m.2.out=T.2.out/\m.2.err=T.2.err/\m.2.fat=T.2.fat/\List.length m.2.out=List.length T.2.out/\J;let p:=cn s c;let q:=(fE (4:Int) p.1 c.pos p.2.2);let r:=(2:Nat);let t:=ez s c.pos G=false;let u:=(0:Nat);let v:=ez s c.pos Y=false;let w:=false=false;let z:=bAt s K=bAt s K/\w/\w/\w/\V/\c.pos=c.pos/\c.out=c.out/\c.err=c.err/\c.fat=c.fat/\n=n/\c.pos=c.pos/\J;let A0:=Int.toNat c.pos;let A1:=(6:Int);let A2:=gq d c.pos c;((B/\D/\F/\C<=C/\C<=G)/\SObj.box I=SObj.box I/\SObj.tail H n=SObj.tail H n/\J)/\if bL L=true then f else if bM L=true then f else if cv L=true then M/\([48,49,50,51,52,53,54,55,56,57]:Str)=qX/\if decide ((↑(List.length (nD h)):Int)=C)=true then if decide (i<=(15:Int))=true then if decide (cut s c.pos (c.pos+g)=([48]:Str))=true then k else(C<=C/\C<i)/\if(!decide ((↑(UInt8.toNat (List.getD h (Int.toNat C) (0:UInt8))):Int)=(48:Int)))=true then k else o else o else o else if decide (bAt s K=(34:Int))=true then(P/\n<=A/\B/\D/\F/\c.pos<E)/\if p.2.1=true then(List.length p.2.2.out=List.length p.2.2.out/\(List.length p.2.2.out+Q)*(32:Nat)<=R)/\J/\U/\V/\q.2.pos=T.2.pos/\q.2.out=T.2.out/\q.2.err=T.2.err/\q.2.fat=T.2.fat/\List.length p.2.2.out+Q=List.length T.2.out/\J else J/\b/\V/\p.2.2.pos=T.2.pos/\p.2.2.out=T.2.out/\p.2.2.err=T.2.err/\p.2.2.fat=T.2.fat/\List.length p.2.2.out=List.length T.2.out/\J else(∃(x:Nat),(x<=r/\(x<=Q->t)/\(x=u->v))/\G=(↑x:Int)/\z)/\∀(x:Nat),let A3:=(↑x:Int);let A4:=inR IntKind.i64 (c.pos+A3);let A5:=c.pos+A3<=E;let A6:=D/\c.pos<=c.pos+A3/\A5;let A7:=List.drop A0 (List.take (Int.toNat (c.pos+A3)) s);let A8:=(fE A1 A7 c.pos {pos:=c.pos+A3,out:=c.out,err:=c.err,fat:=c.fat:SC});let A9:=inR IntKind.i64 (A3-Y)/\∃(y:Nat),(y<=r/\(y<=Q->t)/\(y=u->v))/\y<x/\A3-Y=(↑y:Int)/\z;x<=r/\(x<=Q->t)/\(x=u->v)->if decide (C<A3)=true then A4/\if decide (A5)=true then A4/\A6/\if lF A7=true then A4/\A6/\S/\J/\U/\V/\A8.2.pos=T.2.pos/\A8.2.out=T.2.out/\A8.2.err=T.2.err/\A8.2.fat=T.2.fat/\X else A9 else A9 else P/\J/\b/\V/\A2.2.pos=T.2.pos/\A2.2.out=T.2.out/\A2.2.err=T.2.err/\A2.2.fat=T.2.fat/\List.length A2.2.out=List.length T.2.out/\J:=by
 conv=>zeta
 obtain⟨ho1,ho2,ho3,ho4,ho5,ho6⟩:=ho;have e0:c.pos+0=c.pos:=Int.add_zero _;have hout:∀(k:Int)(t:Str)(e:Int),n+1=(fE k t c.pos (bV c e)).2.out.length:=fun k t e=>by show n+1=(c.out++[_]).length;rw[N5,Nc,ho1]
 have hwr:=dp (pr:=bB) ho4 ho5;have hwl:=dp (pr:=ck) ho4 ho5;simp only[e0];refine⟨⟨⟨by omega,by omega,by omega,by omega,by omega⟩,(by first|rfl|trivial),(by first|rfl|trivial),trivial⟩,a6 (fun a=>?_) (fun a=>?_)⟩
 ·have hw:aP s c=sG (cut s c.pos (c.pos+(aq bB s c.pos:Int))) (c.pos+(aq bB s c.pos:Int)) c:=by unfold aP;rw[N6 (.inl a)]
  unfold sG at hw;refine⟨⟨by omega,by omega,by omega⟩,a6 (fun h=>?_) (fun h=>?_)⟩
  ·rw[N6 h]at hw;rw[hw];refine⟨⟨ho1,by omega⟩,trivial,?_⟩
   repeat (first|exact trivial|exact⟨hout _ _ _,trivial⟩|refine⟨by first|rfl|trivial,?_⟩)
  rw[N3 h]at hw;apply a6<;>intro i
  ·rw[N6 i]at hw;rw[hw];refine⟨⟨ho1,by omega⟩,trivial,?_⟩
   repeat (first|exact trivial|exact⟨hout _ _ _,trivial⟩|refine⟨by first|rfl|trivial,?_⟩)
  rw[N3 i]at hw;apply a6<;>intro j
  ·rw[N6 j]at hw;rw[hw];refine⟨⟨ho1,by omega⟩,trivial,?_⟩
   repeat (first|exact trivial|exact⟨hout _ _ _,trivial⟩|refine⟨by first|rfl|trivial,?_⟩)
  rw[N3 j]at hw;rw[hw];refine⟨ho1,trivial,?_⟩;exact Xr
 apply a6<;>intro b
 ·have hw:aP s c=sG (cut s c.pos (c.pos+(aq bB s c.pos:Int))) (c.pos+(aq bB s c.pos:Int)) c:=by unfold aP;rw[N6 (.inr b)]
  unfold sG at hw;refine⟨⟨by omega,by omega,by omega⟩,a6 (fun h=>?_) (fun h=>?_)⟩
  ·rw[N6 h]at hw;rw[hw];refine⟨⟨ho1,by omega⟩,trivial,?_⟩
   repeat (first|exact trivial|exact⟨hout _ _ _,trivial⟩|refine⟨by first|rfl|trivial,?_⟩)
  rw[N3 h]at hw;apply a6<;>intro i
  ·rw[N6 i]at hw;rw[hw];refine⟨⟨ho1,by omega⟩,trivial,?_⟩
   repeat (first|exact trivial|exact⟨hout _ _ _,trivial⟩|refine⟨by first|rfl|trivial,?_⟩)
  rw[N3 i]at hw;apply a6<;>intro j
  ·rw[N6 j]at hw;rw[hw];refine⟨⟨ho1,by omega⟩,trivial,?_⟩
   repeat (first|exact trivial|exact⟨hout _ _ _,trivial⟩|refine⟨by first|rfl|trivial,?_⟩)
  rw[N3 j]at hw;rw[hw];refine⟨ho1,trivial,?_⟩;exact Xr
 have hn1:¬(bL (bAt s c.pos)=true∨bM (bAt s c.pos)=true):=fun e=>e.elim a b;apply a6<;>intro d
 ·have hw:aP s c=wT (cut s c.pos (c.pos+(aq ck s c.pos:Int))) (c.pos+(aq ck s c.pos:Int)) c:=by unfold aP;rw[N3 hn1,N6 d]
  unfold wT at hw;have hcl:=oX (s:=s) ho4 (b:=c.pos+(aq ck s c.pos:Int)) (by omega) hwl;have hne:=cN (pr:=ck) ho4 ho6 (by rw[jo ho6]at d;unfold ck;rw[d,PN];rfl);have htr:=vh (cut s c.pos (c.pos+(aq ck s c.pos:Int)));have hall:∀x:Str,(x.all fun c=>cv (bI c))=x.all jN:=fun _=>rfl;have hnt:ff (cut s c.pos (c.pos+(aq ck s c.pos:Int)))=((cut s c.pos (c.pos+(aq ck s c.pos:Int))).all jN&&decide ((cut s c.pos (c.pos+(aq ck s c.pos:Int))).length<=15)&&(decide (cut s c.pos (c.pos+(aq ck s c.pos:Int))=[48])||!decide (bI ((cut s c.pos (c.pos+(aq ck s c.pos:Int))).getD 0 0)=48))):=rfl;refine⟨⟨by omega,by omega,by omega⟩,(by first | rfl | trivial),?_⟩;have eb:∀b:UInt8,(b.toNat:Int)=bI b:=fun _=>rfl;simp only[eb,Int.toNat_zero];generalize cut s c.pos (c.pos+(aq ck s c.pos:Int))=t at hw hcl htr hnt⊢;apply a6<;>intro f
  ·have f1:t.all jN=true:=htr.1 (Ni (by have:=Xo f;omega));apply a6<;>intro g
   ·have g1:=Xo g;apply a6<;>intro i
    ·have hnum:ff t=true:=by rw[hnt,f1,Xd (p:=t.length<=15) (by omega),i];rfl
     rw[hnum,N6 rfl]at hw;rw[hw];refine⟨⟨ho1,by omega⟩,trivial,?_⟩
     repeat (first|exact trivial|exact⟨hout _ _ _,trivial⟩|refine⟨by first|rfl|trivial,?_⟩)
    ·rw[NO]at i;refine⟨⟨by omega,by omega⟩,a6 (fun j=>?_) (fun j=>?_)⟩
     ·have hnum:ff t=true:=by rw[hnt,f1,Xd (p:=t.length<=15) (by omega),j,PN];rfl
      rw[hnum,N6 rfl]at hw;rw[hw];refine⟨⟨ho1,by omega⟩,trivial,?_⟩
      repeat (first|exact trivial|exact⟨hout _ _ _,trivial⟩|refine⟨by first|rfl|trivial,?_⟩)
     ·rw[NO]at j;have hnum:ff t=false:=by rw[hnt,i,j,Bool.or_false,Ov]
      rw[hnum,N3 NL]at hw;refine⟨by omega,a6 (fun z=>?_) (fun z=>?_)⟩
      ·rw[N6 (Xo z)]at hw;rw[hw];refine⟨⟨ho1,by omega⟩,trivial,?_⟩
       repeat (first|exact trivial|exact⟨hout _ _ _,trivial⟩|refine⟨by first|rfl|trivial,?_⟩)
      ·rw[N3 (fun e=>z (Xd e))]at hw;rw[hw];refine⟨ho1,trivial,?_⟩;exact Xr
   ·have g1:¬(t.length:Int)<=15:=fun e=>g (Xd e);have hnum:ff t=false:=by rw[hnt,Xf (p:=t.length<=15) (by omega),Ov,NR]
    rw[hnum,N3 NL]at hw;refine⟨by omega,a6 (fun z=>?_) (fun z=>?_)⟩
    ·rw[N6 (Xo z)]at hw;rw[hw];refine⟨⟨ho1,by omega⟩,trivial,?_⟩
     repeat (first|exact trivial|exact⟨hout _ _ _,trivial⟩|refine⟨by first|rfl|trivial,?_⟩)
    ·rw[N3 (fun e=>z (Xd e))]at hw;rw[hw];refine⟨ho1,trivial,?_⟩;exact Xr
  ·have f1:t.all jN=false:=by rw[Og];intro e;refine f (Xd ?_);rw[htr.2 e];rfl
   have hnum:ff t=false:=by rw[hnt,f1,NR,NR]
   rw[hnum,N3 NL]at hw;refine⟨by omega,a6 (fun z=>?_) (fun z=>?_)⟩
   ·rw[N6 (Xo z)]at hw;rw[hw];refine⟨⟨ho1,by omega⟩,trivial,?_⟩
    repeat (first|exact trivial|exact⟨hout _ _ _,trivial⟩|refine⟨by first|rfl|trivial,?_⟩)
   ·rw[N3 (fun e=>z (Xd e))]at hw;rw[hw];refine⟨ho1,trivial,?_⟩;exact Xr
 apply a6<;>intro q
 ·have q:=Xo q;have hw:aP s c=wU c.pos (cn s c):=by unfold aP;rw[N3 hn1,N3 d,N6 q]
  obtain⟨q1,q2,q3⟩:=eG s c.pos (s.length+2) [] (bV c (c.pos+1)) (by show 0<=c.pos+1;omega) (by show c.pos+1<=_;omega);have q1':(cn s c).2.2.out=c.out:=q1;unfold wU at hw;refine⟨⟨ho1,ho2,ho3,ho4,ho5,ho6⟩,a6 (fun r=>?_) (fun r=>?_)⟩
  ·rw[N6 r]at hw;rw[hw];refine⟨⟨by trivial,by rw[q1'];omega⟩,trivial,?_⟩
   repeat (first|exact trivial|refine⟨by first|rfl|trivial|(show _=(_++[_]).length;rw[N5,Nc]),?_⟩)
  ·rw[N3 r]at hw;rw[hw];refine⟨trivial,?_⟩;exact Xr
 have q:¬bAt s c.pos=34:=fun e=>q (Xd e);have hw:aP s c=sH s c:=by unfold aP;rw[N3 hn1,N3 d,N3 q]
 refine⟨⟨2,⟨by omega,fun e=>by omega,fun e=>by omega⟩,?_⟩,?_⟩
 ·exact Xr
 rintro k ⟨h1,h2,h3⟩;have hcut:∀k:Int,List.drop (Int.toNat c.pos) (List.take (Int.toNat (c.pos+k)) s)=cut s c.pos (c.pos+k):=fun _=>rfl;simp only[hcut];apply a6<;>intro f
 ·have f:=Xo f;have hk:k=2∨k=1:=by omega
  have hsa:ez s c.pos (k:Int)=(decide (c.pos+(k:Int)<=(s.length:Int))&&lF (cut s c.pos (c.pos+(k:Int)))):=rfl;refine⟨aK (by omega) (by omega),a6 (fun g=>?_) (fun g=>?_)⟩
  ·have g1:=Xo g;refine⟨aK (by omega) (by omega),⟨by omega,by omega,by omega⟩,a6 (fun i=>?_) (fun i=>?_)⟩
   ·rw[g,i]at hsa
    have hw:aP s c=fE 6 (cut s c.pos (c.pos+(k:Int))) c.pos (bV c (c.pos+(k:Int))):=by
     rw[hw];unfold sH;rcases hk with rfl|rfl
     ·rw[N6 (show ez s c.pos 2=true from hsa)];rfl
     ·rw[N3 (by rw[h2 (by omega)];exact NL),N6 (show ez s c.pos 1=true from hsa)];rfl
    rw[hw];refine⟨aK (by omega) (by omega),⟨by omega,by omega,by omega⟩,⟨ho1,by omega⟩,trivial,?_⟩
    repeat (first|exact trivial|exact⟨hout _ _ _,trivial⟩|refine⟨by first|rfl|trivial,?_⟩)
   ·rw[NO]at i;have hmiss:ez s c.pos (k:Int)=false:=by rw[hsa,i,Ov]
    have hmiss:=hmiss
    ·refine⟨aK (by omega) (by omega),k-1,⟨by omega,fun _=>?_,fun _=>?_⟩,by omega,by omega,?_⟩
     ·rcases hk with rfl|rfl
      ·exact hmiss
      ·exact h2 (by omega)
     ·have:k=1:=by omega
      subst this;exact hmiss
     ·exact Xr
  ·have hmiss:ez s c.pos (k:Int)=false:=by rw[hsa,Xf (fun e=>g (Xd e)),NR]
   have hmiss:=hmiss
   ·refine⟨aK (by omega) (by omega),k-1,⟨by omega,fun _=>?_,fun _=>?_⟩,by omega,by omega,?_⟩
    ·rcases hk with rfl|rfl
     ·exact hmiss
     ·exact h2 (by omega)
    ·have:k=1:=by omega
     subst this;exact hmiss
    ·exact Xr
 ·have hk:k=0:=by have:¬(0:Int)<(k:Int):=fun e=>f (Xd e);omega
  have hw:aP s c=gq 60 c.pos c:=by rw[hw];unfold sH;rw[N3 (by rw[h2 (by omega)];exact NL),N3 (by rw[h3 hk];exact NL)]
  rw[hw];refine⟨ho1,trivial,?_⟩;exact Xr
theorem KB(s:Str)(hs:Wf .str s) :
  let A:=(↑(List.length s):Int);let B:=True;let C:=aN s;let D:=C.1=[];let E:=(0:Int);let F:=s=s;let G:=false=false;let H:=E=E/\E=E/\B;let I:=(4096:Nat);let J:=List.length s<=I;let K:=[{kind:=E,text:=[],pos:=A:Tokn}];let L:=(1:Int);if decide ((4096:Int)<A)=true then B/\D/\(3:Int)=C.2.err/\(4096:Int)=C.2.pos/\B else(∃(x:Nat×SC),((↑(List.length x.2.out):Int)<=x.2.pos/\A<x.2.pos+(↑x.1:Int)/\E<=x.2.pos/\x.2.pos<=A/\aN s=dE s x.1 x.2)/\F/\G/\F/\E=x.2.pos/\x.2.out=[]/\E=x.2.err/\E=x.2.fat/\List.length x.2.out=(0:Nat)/\H)/\∀(x:Nat×SC),let M:=E<=x.2.pos;let N:=x.2.pos<=A;let O:=List.length x.2.out=List.length x.2.out;let P:=x.2.pos+E;let Q:=x.2.pos+L;let R:=inR IntKind.i64 Q/\∃(y:Nat×SC),((↑(List.length y.2.out):Int)<=y.2.pos/\A<y.2.pos+(↑y.1:Int)/\E<=y.2.pos/\y.2.pos<=A/\aN s=dE s y.1 y.2)/\y.1<x.1/\F/\G/\F/\x.2.pos+L=y.2.pos/\x.2.out=y.2.out/\x.2.err=y.2.err/\x.2.fat=y.2.fat/\List.length x.2.out=List.length y.2.out/\H;let S:=(↑(aq cG s x.2.pos):Int);let T:=(iA s x.2.pos (x.2.pos+S) {pos:=x.2.pos+S,out:=x.2.out,err:=x.2.err,fat:=x.2.fat:SC});let U:=aP s x.2;let V:=(O/\List.length x.2.out<=I/\J/\M/\N/\x.2.pos<A)/\if(!U.1)=true then B/\D/\U.2.err=C.2.err/\U.2.fat=C.2.pos/\B else ∃(y:Nat×SC),((↑(List.length y.2.out):Int)<=y.2.pos/\A<y.2.pos+(↑y.1:Int)/\E<=y.2.pos/\y.2.pos<=A/\aN s=dE s y.1 y.2)/\y.1<x.1/\F/\G/\F/\U.2.pos=y.2.pos/\U.2.out=y.2.out/\U.2.err=y.2.err/\U.2.fat=y.2.fat/\List.length U.2.out=List.length y.2.out/\H;(↑(List.length x.2.out):Int)<=x.2.pos/\A<x.2.pos+(↑x.1:Int)/\M/\N/\aN s=dE s x.1 x.2->(J/\M/\N/\E<=E/\E<=(2:Int))/\if decide (x.2.pos=A)=true then(O/\(List.length x.2.out+List.length K)*(32:Nat)<=(140737488355328:Nat))/\B/\x.2.out++K=C.1/\E=C.2.err/\E=C.2.pos/\B else if decide (bAt s P=(32:Int))=true then R else if decide (bAt s P=(10:Int))=true then R else if decide (bAt s P=(9:Int))=true then R else if decide (bAt s P=(13:Int))=true then R else if decide (bAt s P=(45:Int))=true then(J/\M/\N/\E<=L/\L<=(2:Int))/\if decide (bAt s Q=(45:Int))=true then(J/\M/\N)/\(O/\J/\M/\x.2.pos<=x.2.pos+S/\x.2.pos+S<=A)/\if(!T.1)=true then B/\D/\T.2.err=C.2.err/\T.2.fat=C.2.pos/\B else ∃(y:Nat×SC),((↑(List.length y.2.out):Int)<=y.2.pos/\A<y.2.pos+(↑y.1:Int)/\E<=y.2.pos/\y.2.pos<=A/\aN s=dE s y.1 y.2)/\y.1<x.1/\F/\G/\F/\T.2.pos=y.2.pos/\T.2.out=y.2.out/\T.2.err=y.2.err/\T.2.fat=y.2.fat/\List.length T.2.out=List.length y.2.out/\H else V else V:=by
 conv=>zeta
 apply a6<;>intro h
 ·have h:=Xo h;have e:aN s=([],⟨3,4096⟩):=by unfold aN;rw[N6 (by omega)]
  rw[e];exact Xr
 have h:¬(4096:Int)<(s.length:Int):=fun e=>h (Xd e);have hs0:aN s=dE s (s.length+2) ⟨0,[],0,0⟩:=by unfold aN;rw[N3 (by omega)]
 refine⟨⟨(s.length+2,⟨0,[],0,0⟩),⟨by show((0:Nat):Int)<=0;omega,by show _<0+((s.length+2:Nat):Int);omega,by show(0:Int)<=0;omega,by show(0:Int)<=_;omega,hs0⟩,?_⟩,?_⟩
 ·exact Xr
 rintro⟨f,d⟩ ⟨d1,d2,d3,d4,d5⟩;simp only at d1 d2 d3 d4 d5;obtain⟨f,rfl⟩:∃g,f=g+1:=⟨f-1,by omega⟩;rw[dE]at d5;have e0:d.pos+0=d.pos:=Int.add_zero _;simp only[e0];refine⟨⟨by omega,by omega,by omega,by omega,by omega⟩,a6 (fun k=>?_) (fun k=>?_)⟩
 ·replace k:=Xo k;rw[N6 k]at d5;rw[d5];refine⟨⟨by trivial,by simp only[Nc];omega⟩,trivial,?_⟩;exact Xr
 replace k:¬d.pos=(s.length:Int):=fun e=>k (Xd e);have hlt:d.pos<(s.length:Int):=by omega
 rw[N3 k]at d5;clear k;apply a6<;>intro k
 ·replace k:=Xo k;rw[N6 ((jr _).2 (by omega))]at d5;refine⟨aK (by omega) (by omega),(f,bV d (d.pos+1)),⟨by show(d.out.length:Int)<=d.pos+1;omega,by show _<d.pos+1+(f:Int);omega,by show 0<=d.pos+1;omega,by show d.pos+1<=_;omega,d5⟩,by show f<f+1;omega,?_⟩;exact Xr
 replace k:¬bAt s d.pos=32:=fun e=>k (Xd e);have k32:=k;clear k;apply a6<;>intro k
 ·replace k:=Xo k;rw[N6 ((jr _).2 (by omega))]at d5;refine⟨aK (by omega) (by omega),(f,bV d (d.pos+1)),⟨by show(d.out.length:Int)<=d.pos+1;omega,by show _<d.pos+1+(f:Int);omega,by show 0<=d.pos+1;omega,by show d.pos+1<=_;omega,d5⟩,by show f<f+1;omega,?_⟩;exact Xr
 replace k:¬bAt s d.pos=10:=fun e=>k (Xd e);have k10:=k;clear k;apply a6<;>intro k
 ·replace k:=Xo k;rw[N6 ((jr _).2 (by omega))]at d5;refine⟨aK (by omega) (by omega),(f,bV d (d.pos+1)),⟨by show(d.out.length:Int)<=d.pos+1;omega,by show _<d.pos+1+(f:Int);omega,by show 0<=d.pos+1;omega,by show d.pos+1<=_;omega,d5⟩,by show f<f+1;omega,?_⟩;exact Xr
 replace k:¬bAt s d.pos=9:=fun e=>k (Xd e);have k9:=k;clear k;apply a6<;>intro k
 ·replace k:=Xo k;rw[N6 ((jr _).2 (by omega))]at d5;refine⟨aK (by omega) (by omega),(f,bV d (d.pos+1)),⟨by show(d.out.length:Int)<=d.pos+1;omega,by show _<d.pos+1+(f:Int);omega,by show 0<=d.pos+1;omega,by show d.pos+1<=_;omega,d5⟩,by show f<f+1;omega,?_⟩;exact Xr
 replace k:¬bAt s d.pos=13:=fun e=>k (Xd e);have k13:=k;clear k;have hbl:¬gO (bAt s d.pos)=true:=fun e=>by have:=(jr _).1 e;omega
 rw[N3 hbl]at d5;apply a6<;>intro k
 ·replace k:=Xo k;refine⟨⟨by omega,by omega,by omega,by omega,by omega⟩,a6 (fun j=>?_) (fun j=>?_)⟩
  ·replace j:=Xo j;rw[N6 ⟨k,j⟩]at d5;have hw:=dp (pr:=cG) d3 d4;have hp:=Dx (s:=s) (a:=d.pos+1) (by omega);have hh:=cN (pr:=cG) d3 hlt (by rw[<-jo hlt,k];rfl);refine⟨⟨by omega,by omega,by omega⟩,⟨by trivial,by omega,by omega,by omega,by omega⟩,?_⟩;unfold iA
   cases hb:bO (cut s d.pos (d.pos+(aq cG s d.pos:Int)))with|some q=>rw[hb]at d5;simp only at d5;rw[d5];refine a6 (fun _=>?_) (fun e=>absurd rfl e);refine⟨trivial,?_⟩;exact Xr|none=>rw[hb]at d5;simp only at d5;refine a6 (fun e=>Bool.noConfusion e) (fun _=>?_);refine⟨(f,bV d (d.pos+(aq cG s d.pos:Int))),⟨by show(d.out.length:Int)<=d.pos+_;omega,by show _<d.pos+_+(f:Int);omega,by show 0<=d.pos+_;omega,hw,d5⟩,by show f<f+1;omega,?_⟩;exact Xr
  replace j:¬bAt s (d.pos+1)=45:=fun e=>j (Xd e)
  ·refine⟨⟨by trivial,by omega,by omega,by omega,by omega,by omega⟩,?_⟩;have hne:¬(bAt s d.pos=45/\bAt s (d.pos+1)=45):=by omega
   rw[N3 hne]at d5
   cases ht:(aP s d).1 with
   |false=>rw[ht,N3 NL]at d5;refine a6 (fun _=>?_) (fun e=>absurd rfl e);rw[d5];refine⟨trivial,?_⟩;exact Xr
   |true=>rw[ht,N6 rfl]at d5;obtain⟨t1,t2,t3⟩:=fg d3 hlt ht;refine a6 (fun e=>Bool.noConfusion e) (fun _=>?_);refine⟨(f,(aP s d).2),⟨by show((aP s d).2.out.length:Int)<=(aP s d).2.pos;omega,by show _<(aP s d).2.pos+(f:Int);omega,by show 0<=(aP s d).2.pos;omega,t2,d5⟩,by show f<f+1;omega,?_⟩;exact Xr
 replace k:¬bAt s d.pos=45:=fun e=>k (Xd e)
 ·refine⟨⟨by trivial,by omega,by omega,by omega,by omega,by omega⟩,?_⟩;have hne:¬(bAt s d.pos=45/\bAt s (d.pos+1)=45):=by omega
  rw[N3 hne]at d5
  cases ht:(aP s d).1 with
  |false=>rw[ht,N3 NL]at d5;refine a6 (fun _=>?_) (fun e=>absurd rfl e);rw[d5];refine⟨trivial,?_⟩;exact Xr
  |true=>rw[ht,N6 rfl]at d5;obtain⟨t1,t2,t3⟩:=fg d3 hlt ht;refine a6 (fun e=>Bool.noConfusion e) (fun _=>?_);refine⟨(f,(aP s d).2),⟨by show((aP s d).2.out.length:Int)<=(aP s d).2.pos;omega,by show _<(aP s d).2.pos+(f:Int);omega,by show 0<=(aP s d).2.pos;omega,t2,d5⟩,by show f<f+1;omega,?_⟩;exact Xr
theorem IC(l:List Tokn)(a:Int)(hl:Wf (.lst (.st .token)) l)(hN:qW l) :
  let A:=aZ l a;let B:=True;let C:=(0:Int);let D:=bA l a;let E:=C=D.1.kind;let F:=[]=D.1.pkg;let G:=[]=D.1.name;let H:=C=D.1.n;let I:=D.1.names=[];let J:=D.1.vars=[];let K:=D.1.shapes=[];let L:=D.1.parts=[];let M:=C=D.1.pos;let N:=C=D.2.1;let O:=(a7 (5000:Nat) A);let P:=cC (b6 O.1) (an A).pos O.2;let Q:=C=D.2.2.err/\C=D.2.2.pos/\B;let R:=if aY P=true then B/\E/\F/\G/\H/\I/\J/\K/\L/\M/\N/\P.err=D.2.2.err/\P.fat=D.2.2.pos/\B else B/\O.1=D.1/\P.pos=D.2.1/\Q;let S:=if aY O.2=true then B/\E/\F/\G/\H/\I/\J/\K/\L/\M/\N/\O.2.err=D.2.2.err/\O.2.fat=D.2.2.pos/\B else B/\O.1=D.1/\O.2.pos=D.2.1/\Q;if aY A=true then B/\E/\F/\G/\H/\I/\J/\K/\L/\M/\N/\A.err=D.2.2.err/\A.fat=D.2.2.pos/\B else a8 A/\(a8 A/\rem A<(5000:Nat))/\if(!aY O.2)=true then bP O.1=true/\if decide (b6 O.1=(3:Int))=true then R else if decide (b6 O.1=(91:Int))=true then R else S else S:=by
 conv=>zeta
 apply a6<;>intro h
 ·have hG:bA l a=(cd,0,⟨(aZ l a).err,(aZ l a).fat⟩):=by unfold bA;rw[N6 h]
  rw[hG];exact Xr
 have b':aY (aZ l a)=false:=by simpa using h
 have g:=jk hN b';have hG:bA l a=vp l a (a7 5000 (aZ l a)):=by unfold bA;rw[N3 h]
 have hf:=(z8 g.2.2.1 5000 (aZ l a) rfl).1;refine⟨g,⟨g,by have:=nT g;omega⟩,?_⟩;unfold vp at hG;generalize a7 5000 (aZ l a)=p at hG hf⊢;apply a6<;>intro k
 ·have k:aY p.2=false:=by simpa using k
  rw[N3 (by rw[k];exact NL)]at hG
  have fin:∀q:Par,bA l a=ni cd (p.1,q)->if aY q=true then True/\(0:Int)=(bA l a).1.kind/\[]=(bA l a).1.pkg/\[]=(bA l a).1.name/\(0:Int)=(bA l a).1.n/\(bA l a).1.names=[]/\(bA l a).1.vars=[]/\(bA l a).1.shapes=[]/\(bA l a).1.parts=[]/\(0:Int)=(bA l a).1.pos/\(0:Int)=(bA l a).2.1/\q.err=(bA l a).2.2.err/\q.fat=(bA l a).2.2.pos/\True
    else True/\p.1=(bA l a).1/\q.pos=(bA l a).2.1/\(0:Int)=(bA l a).2.2.err/\(0:Int)=(bA l a).2.2.pos/\True:=by
   intro q hq;unfold ni at hq;apply a6<;>intro j
   ·rw[N6 j]at hq;rw[hq];exact Xr
   ·rw[N3 j]at hq;rw[hq];exact Xr
  refine⟨hf,a6 (fun j=>?_) (fun j=>a6 (fun i=>?_) (fun i=>?_))⟩
  ·rw[N6 (.inl (Xo j))]at hG;exact fin _ hG
  ·rw[N6 (.inr (Xo i))]at hG;exact fin _ hG
  ·rw[N3 (fun e=>e.elim (fun e=>j (Xd e)) (fun e=>i (Xd e)))]at hG;exact fin _ hG
 ·have k:aY p.2=true:=by simpa using k
  rw[N6 k]at hG;unfold ni at hG;rw[N6 k]at hG;refine a6 (fun _=>?_) (fun j=>absurd k j);rw[hG];exact Xr
theorem zB(s:Str)  :
  let A:=aN s;let B:=(0:Int);let C:=True;let D:=cX s;let E:=B=D.1.kind;let F:=[]=D.1.pkg;let G:=[]=D.1.name;let H:=D.1.names=[];let I:=D.1.parts=[];let J:=eL A.1 B;let K:=cM A.1 J.2.1=D.2/\C;let L:=J.2.2=D.2/\C;if(!decide (A.2.err=B))=true then C/\E/\F/\G/\H/\I/\A.2=D.2/\C else qW A.1/\if decide (J.2.2.err=B)=true then(B<=J.2.1/\J.2.1<(↑(List.length A.1):Int))/\if(!decide ((cM A.1 J.2.1).err=B))=true then C/\E/\F/\G/\H/\I/\K else C/\J.1=D.1/\K else if(!decide (J.2.2.err=B))=true then C/\E/\F/\G/\H/\I/\L else C/\J.1=D.1/\L:=by
 conv=>zeta
 have e0:cX s=lG eF (fun l=>eL l 0) s:=rfl;unfold lG at e0;simp only at e0;apply a6<;>intro h
 ·have h:¬(aN s).2.err=0:=by simpa using h
  rw[N3 h]at e0;rw[e0];exact Xr
 have h:(aN s).2.err=0:=by simpa using h
 rw[N6 h]at e0;have hN:=nY h;obtain⟨l1,l2⟩:=nZ h;refine⟨hN,a6 (fun k=>?_) (fun k=>?_)⟩
 ·replace k:=Xo k;rw[N6 k]at e0;refine⟨EH hN l1 l2 k,a6 (fun j=>?_) (fun j=>?_)⟩
  ·have j:¬(cM (aN s).1 (eL (aN s).1 0).2.1).err=0:=by simpa using j
   rw[N3 j]at e0;rw[e0];exact Xr
  ·have j:(cM (aN s).1 (eL (aN s).1 0).2.1).err=0:=by simpa using j
   rw[N6 j]at e0;rw[e0];exact Xr
 ·have k:¬(eL (aN s).1 0).2.2.err=0:=fun e=>k (Xd e);rw[N3 k]at e0;refine a6 (fun _=>?_) (fun j=>absurd (by simp[k]) j);rw[e0];exact Xr
theorem zC(s:Str)  :
  let A:=aN s;let B:=(0:Int);let C:=True;let D:=bm s;let E:=B=D.1.kind;let F:=[]=D.1.pkg;let G:=[]=D.1.name;let H:=B=D.1.n;let I:=D.1.names=[];let J:=D.1.vars=[];let K:=D.1.shapes=[];let L:=D.1.parts=[];let M:=B=D.1.pos;let N:=bA A.1 B;let O:=cM A.1 N.2.1=D.2/\C;let P:=N.2.2=D.2/\C;if(!decide (A.2.err=B))=true then C/\E/\F/\G/\H/\I/\J/\K/\L/\M/\A.2=D.2/\C else qW A.1/\if decide (N.2.2.err=B)=true then(B<=N.2.1/\N.2.1<(↑(List.length A.1):Int))/\if(!decide ((cM A.1 N.2.1).err=B))=true then C/\E/\F/\G/\H/\I/\J/\K/\L/\M/\O else C/\N.1=D.1/\O else if(!decide (N.2.2.err=B))=true then C/\E/\F/\G/\H/\I/\J/\K/\L/\M/\P else C/\N.1=D.1/\P:=by
 conv=>zeta
 have e0:bm s=lG cd (fun l=>bA l 0) s:=rfl;unfold lG at e0;simp only at e0;apply a6<;>intro h
 ·have h:¬(aN s).2.err=0:=by simpa using h
  rw[N3 h]at e0;rw[e0];exact Xr
 have h:(aN s).2.err=0:=by simpa using h
 rw[N6 h]at e0;have hN:=nY h;obtain⟨l1,l2⟩:=nZ h;refine⟨hN,a6 (fun k=>?_) (fun k=>?_)⟩
 ·replace k:=Xo k;rw[N6 k]at e0;refine⟨BL hN l1 l2 k,a6 (fun j=>?_) (fun j=>?_)⟩
  ·have j:¬(cM (aN s).1 (bA (aN s).1 0).2.1).err=0:=by simpa using j
   rw[N3 j]at e0;rw[e0];exact Xr
  ·have j:(cM (aN s).1 (bA (aN s).1 0).2.1).err=0:=by simpa using j
   rw[N6 j]at e0;rw[e0];exact Xr
 ·have k:¬(bA (aN s).1 0).2.2.err=0:=fun e=>k (Xd e);rw[N3 k]at e0;refine a6 (fun _=>?_) (fun j=>absurd (by simp[k]) j);rw[e0];exact Xr
end Go.AL.Seat
end
section
open Go Go.AL Go.Proofs Go.Shelf Go.Pd
namespace Go.AL.Seat
open Go.Proofs.Tryz
variable [Tabs]
def nn:Nat->Bool:=fun _=>false
def cf(k:Nat->Bool)(l:Nat->List (Option Nat))(p r m:Nat->Bool)(s:Nat->List AV->List (Nat×SObj)->Option Ans):Cfg:=⟨tbl,s,k,l,p,r,m⟩
def a0:An:=⟨[],[],[]⟩
theorem g1(k:Nat->Bool)(l:Nat->List (Option Nat))(p r m:Nat->Bool){s:Nat->List AV->List (Nat×SObj)->Option Ans}(hS:dM prog s)(a:An){f:Nat}{fn:Func}(hf:Tryz.prog.funcs[f]?=some fn)
 {args:List AV}{S:List (Nat×SObj)}{A:Ans}{Q:Prop}(q:Q)(h:fwp (cf k l p r m s) a fn args S A=Q:=by kernel_rfl):ax prog f args S A:=Hb (C:=cf k l p r m s) mixed I1 hS hf q h
theorem g0{s:Nat->List AV->List (Nat×SObj)->Option Ans}(hS:dM prog s)(a:An){f:Nat}{fn:Func}(hf:Tryz.prog.funcs[f]?=some fn)
 {args:List AV}{S:List (Nat×SObj)}{A:Ans}{Q:Prop}(q:Q)(h:fwp (cf nn (fun _=>[]) nn nn nn s) a fn args S A=Q:=by kernel_rfl):ax prog f args S A:=Hb (C:=cf nn (fun _=>[]) nn nn nn s) mixed I1 hS hf q h
theorem sc{f:Nat}{g:Pat}{l:List (Nat×Pat)}(h:ae prog f g)(hl:dM prog (ny l)):dM prog (ny ((f,g)::l)):=sw h hl
theorem sn:dM prog (ny []):=vd
theorem ee{f:Nat}{fn:Func}(h:Tryz.prog.funcs[f]?=some fn)(e:(fn.body.isNone || (fn.name == "runtime.NumGoroutine"))=false:=by kernel_rfl):aw prog f:=aw.mk' h e
variable [SeatLaid]
theorem kH:ae prog 126 (p1 (.int .u8) fun c=>.ret (.bool (bL c))):=
 bX (ee func126) fun c _ _=>g0 sn a0 func126 (I4 c)
theorem kI:ae prog 127 (p1 (.int .u8) fun c=>.ret (.bool (bM c))):=
 bX (ee func127) fun c _ _=>g0 sn a0 func127 (I5 c)
theorem qf:ae prog 132 (p1 (.int .u8) fun c=>.ret (.bool (cv c))):=
 bX (ee func132) fun c _ _=>g0 sn a0 func132 (I6 c)
theorem tA:ae prog 128 (p1 (.int .u8) fun c=>.ret (.bool (bB c))):=
 bX (ee func128) fun c _ _=>g0 (sc kH (sc kI (sc qf sn))) a0 func128 (Kh c)
theorem C7:ae prog 181 (pf .str 126 fun s=>.ret (.bool (de bL s))):=
 oN (ee func181) fun s hs _=>g0 (sc kH (sc kI (sc tA sn))) ⟨[(4,fun S0=>⟨Nat,fun k=>k<=s.length/\de bL s=(s.drop k).all fun c=>bB (bI c),fun k=>[(22,.int .i64 k)],fun _=>[],fun k=>s.length-k⟩)],[],[]⟩ func181 (ER s hs)
theorem C8:ae prog 181 (pf .str 127 fun s=>.ret (.bool (de bM s))):=
 oN (ee func181) fun s hs _=>g0 (sc kH (sc kI (sc tA sn))) ⟨[(4,fun S0=>⟨Nat,fun k=>k<=s.length/\de bM s=(s.drop k).all fun c=>bB (bI c),fun k=>[(22,.int .i64 k)],fun _=>[],fun k=>s.length-k⟩)],[],[]⟩ func181 (ES s hs)
theorem zD:ae prog 129 (p1 .str fun s=>.ret (.bool (lE s))):=
 bX (ee func129) fun s _ _=>g0 sn a0 func129 (Ki s)
theorem mC:ae prog 130 (p1 .str fun s=>.ret (.bool (aG s))):=
 bX (ee func130) fun s _ _=>g0 (sc C7 (sc zD sn)) a0 func130 (Kj s)
theorem qg:ae prog 131 (p1 .str fun s=>.ret (.bool (cW s))):=
 bX (ee func131) fun s _ _=>g0 (sc C8 sn) a0 func131 (I7 s)
theorem tB:ae prog 101 (p2 (.lst .str) (.lst .str) fun a b=>.ret (.bool (decide (a=b)))):=
 fB (ee func101) fun a b ha hb _=>g0 sn ⟨[(4,fun S0=>⟨Nat,fun k=>k<=a.length/\a.length=b.length/\decide (a=b)=decide (a.drop k=b.drop k),fun k=>[(13,.int .i64 k)],fun _=>[],fun k=>a.length-k⟩)],[],[]⟩ func101 (ET a b ha hb)
theorem C9:ae prog 163 (p2 (.lst .str) .str fun a v=>.ret (.int .i64 (gh a v 0))):=
 fB (ee func163) fun a v ha _ _=>g0 sn ⟨[(2,fun S0=>⟨Nat,fun k=>k<=a.length/\gh a v 0=gh (a.drop k) v k,fun k=>[(8,.int .i64 k)],fun _=>[],fun k=>a.length-k⟩)],[],[]⟩ func163 (EU a v ha)
theorem uK:ae prog 116 (p2 (.lst .str) .str fun a v=>.ret (.bool (decide (v∈a)))):=
 fB (ee func116) fun a v _ _ _=>g0 (sc C9 sn) a0 func116 (xg a v)
theorem Fk:ae prog 154 (p1 .str fun s=>.ret (.bool (l6 s))):=
 bX (ee func154) fun s _ _=>g0 sn a0 func154 (I8 s)
theorem tC:ae prog 201 (p1 (.lst .str) fun a=>⟨none,none,.fn 230 [.ptr 1 0],[(1,.box (.lst .str a none))]⟩):=
 bX (ee func201) fun a _ _=>g0 sn a0 func201 (EV a)
theorem Fl:ae prog 153 (p1 (.st .shape) fun s=>⟨some (s.parts.length *16<=140737488355328),none,.bool (dm s),[]⟩):=
 bX (ee func153) fun s hs ho=>g0 (sc mC (sc tC (sc (sT) (sc (qM) sn)))) ⟨[(4,fun S0=>⟨Nat,fun k=>k<=s.names.length/\s.names.length=s.parts.length/\dm s=(((s.names.drop k).all aG)&&decide s.names.Nodup),fun k=>[(16,.int .i64 k)],fun _=>[],fun k=>s.names.length-k⟩)],[],[]⟩ func153 (I9 s hs (ho _ rfl))
theorem ID:ae prog 92 (p1 (.st .shape) fun s=>⟨some (s.parts.length *16<=140737488355328),none,.bool (bc s),[]⟩):=
 bX (ee func92) fun s hs ho=>g0 (sc Fl (sc qg (sc mC (sc Fk sn)))) a0 func92 (Kk s hs (ho _ rfl))
theorem tD:aw prog 91:=ee func91
theorem uL(n:Nat)(s:AL.Shape)(hs:Wf (.st .shape) s)(hn:sz s<=n+1)(hb:n<=1000000)(hA:ae prog 91 (pf (.st .shape) 92 fun s=>⟨some (sz s<=n),none,.bool (allS bc s),[]⟩)):ax prog 91 [.st .shape s,.fn 92 []] [] (.ret (.bool (allS bc s))):=
 g0 (sc ID (sc (hA) sn)) ⟨[(4,fun S0=>⟨Nat,fun k=>k<=s.parts.length/\allS bc s=allL bc (s.parts.drop k),fun k=>[(14,.int .i64 k)],fun _=>[],fun k=>s.parts.length-k⟩)],[],[]⟩ func91 (BX n s hs hn hb)
theorem zE:∀n:Nat,n<=1000000->ae prog 91 (pf (.st .shape) 92 fun s=>⟨some (sz s<=n),none,.bool (allS bc s),[]⟩):=by
 intro n
 induction n with
 |zero=>exact fun _=>oN tD fun a hs ho=>absurd (ho _ rfl) (by have:=gj a;omega)
 |succ n ih=>exact fun hb=>oN tD fun a hs ho=>uL n a hs (ho _ rfl) (by omega) (ih (by omega))
theorem IE:ae prog 152 (wM 146):=
 Bw (ee func152) fun c hc=>g0 sn a0 func152 (Kl c hc)
theorem DG:aw prog 151:=ee func151
theorem Ca(n:Nat)(s:AL.Shape)(l c:Int)(hs:Wf (.st .shape) s)(hn:sz s<=n+1)(hc:0<=c/\c<=400/\1<=l/\l<=c+1)(hA:ae prog 151 (ru 146 152 n)):ax prog 151 [.st .shape s,.int .i64 l,.fn 152 [.ptr 900 0]] [(900,.box (.int .i64 c))] (Hh 146 s l c (sz s<=n+1)):=
 g0 (sc IE (sc (hA) sn)) ⟨[(4,fun S0=>⟨Nat×Int,fun x=>x.1<=s.parts.length/\c+1+(szL (s.parts.take x.1):Int)<=400/\deepL (s.parts.drop x.1) (l+1) x.2=deepS s l,fun x=>[(7,.int .i64 x.2),(16,.int .i64 x.1)],fun x=>[(900,.box (.int .i64 (c+1+(szL (s.parts.take x.1):Int))))],fun x=>s.parts.length-x.1⟩)],[],[]⟩ func151 (Km n s l c hs hn hc)
theorem IF:∀n:Nat,ae prog 151 (ru 146 152 n):=by
 intro n
 induction n with
 |zero=>exact sA DG fun s l c hs hn hc=>absurd hn (by have:=gj s;omega)
 |succ n ih=>exact sA DG fun s l c hs hn hc=>Ca n s l c hs hn hc ih
theorem zF(s:AL.Shape)(hs:Wf (.st .shape) s) :ax prog 90 [.st .shape s] [] (.ret (.tup [.int .i64 (if sz s<=400 then(sz s:Int)else 401),.int .i64 (if sz s<=400 then deepS s 1 else 0),.bool (decide (sz s<=400))])):=
 fwpR_sound (C:=⟨tbl,_,fun _=>false,fun _=>[],fun _=>false,fun _=>false,fun _=>false⟩) (ann:=⟨[],[],[]⟩) (annC:=⟨[],[],[]⟩) mixed I1 (sw (IF (sz s)) (vd)) func90 func150 (enters_of func150 (by kernel_rfl) rfl) (@Eq.mpr _ _ (by kernel_rfl) (Ia s hs))
theorem Fm:ae prog 90 (p1 (.st .shape) fun s=>.ret (.tup [.int .i64 (if sz s<=400 then(sz s:Int)else 401),.int .i64 (if sz s<=400 then deepS s 1 else 0),.bool (decide (sz s<=400))])):=
 bX (ee func90) fun s hs _=>zF s hs
theorem qh:ae prog 46 (p1 (.st .shape) fun s=>.ret (.int .i64 (bz s))):=
 bX (ee func46) fun s _ _=>g0 (sc (Fm) (sc (zE 400 (by decide)) sn)) a0 func46 (Ib s)
theorem dL:ae prog 29 (pP0 fun s=>⟨none,none,.bool (aY s),[(900,.box (.st .par (s)))]⟩):=
 ji (ee func29) (fun _=>rfl) (fun _=>by simp[au]) fun s ho=>g0 sn a0 func29 (LO s)
theorem gw:ae prog 33 (pP0 fun s=>⟨some (a8 s),none,.st .token (an s),[(900,.box (.st .par (s)))]⟩):=
 ji (ee func33) (fun _=>rfl) (fun _=>by simp[au]) fun s ho=>g0 sn a0 func33 (Kn s (ho _ rfl))
theorem iu:ae prog 36 (pP2 (.int .i64) (.int .i64) fun s e a=>⟨none,none,.tup [],[(900,.box (.st .par (cC e a s)))]⟩):=
 Lw (ee func36) (fun _ _ _=>rfl) (fun _ _ _=>by simp[au]) fun s e a hwe hwa ho=>g0 (sc dL sn) a0 func36 (Ko s e a)
theorem LU:ae prog 115 (pP1 .str fun s t=>⟨some (a8 s),none,.bool (isF t s),[(900,.box (.st .par (s)))]⟩):=
 sB (ee func115) (fun _ _=>rfl) (fun _ _=>by simp[au]) fun s t hwt ho=>g0 (sc gw (sc dL sn)) a0 func115 (MA s t (ho _ rfl))
theorem fJ:ae prog 59 (pP1 .str fun s t=>⟨some (a8 s),none,.bool (isF t s),[(900,.box (.st .par (cA t s)))]⟩):=
 sB (ee func59) (fun _ _=>rfl) (fun _ _=>by simp[au]) fun s t hwt ho=>g0 (sc LU sn) a0 func59 (LP s t (ho _ rfl))
theorem dj:ae prog 58 (pP1 .str fun s t=>⟨some (a8 s),none,.tup [],[(900,.box (.st .par (aj t s)))]⟩):=
 sB (ee func58) (fun _ _=>rfl) (fun _ _=>by simp[au]) fun s t hwt ho=>g0 (sc fJ (sc gw (sc iu sn))) a0 func58 (Kp s t (ho _ rfl))
theorem kJ:ae prog 63 (pP1 (.int .i64) fun s k=>⟨some (a8 s/\¬k=0),none,.st .token (aM k s).1,[(900,.box (.st .par ((aM k s).2)))]⟩):=
 sB (ee func63) (fun _ _=>rfl) (fun _ _=>by simp[au]) fun s k hwk ho=>g0 (sc gw (sc dL (sc iu sn))) a0 func63 (Kq s k (ho _ rfl))
theorem mY:ae prog 62 (pP1 (.lst .str) fun s ns=>⟨some (a8 s),none,.str (bN ns s).1,[(900,.box (.st .par ((bN ns s).2)))]⟩):=
 sB (ee func62) (fun _ _=>rfl) (fun _ _=>by simp[au]) fun s ns hwns ho=>g0 (sc kJ (sc dL (sc iu (sc uK sn)))) a0 func62 (Ic s ns (ho _ rfl) hwns)
theorem Fo:ae prog 107 (p2 .str .str fun p n=>.ret (.st .shape (gL p n))):=
 fB (ee func107) fun p n _ _ _=>g0 sn a0 func107 (Ie p n)
theorem IG:aw prog 106:=ee func106
def MW(n:Nat):=pP0 fun s=>⟨some (a8 s/\rem s<n),none,.st .shape (ah n s).1,[(900,.box (.st .par (ah n s).2))]⟩
theorem zG(n:Nat)(s:Par) (ho:a8 s/\rem (aj [58] s)<n)(hS:ae prog 53 (MW n)):ax prog 106 [.ptr 900 0] [(900,.box (.st .par s))] (⟨some (a8 s/\rem (aj [58] s)<n),none,.st .shape (ah n (aj [58] s)).1,[(900,.box (.st .par ((ah n (aj [58] s)).2)))]⟩):=
 g0 (sc dj (sc (hS) sn)) a0 func106 (Ig n s ho)
theorem Fp(n:Nat)(hS:ae prog 53 (MW n)):ae prog 106 (pP0 fun s=>⟨some (a8 s/\rem (aj [58] s)<n),none,.st .shape (ah n (aj [58] s)).1,[(900,.box (.st .par ((ah n (aj [58] s)).2)))]⟩):=
 ji IG (fun _=>rfl) (fun _=>by simp[au]) fun s ho=>zG n s (ho _ rfl) hS
theorem Fq:aw prog 105:=ee func105
def N1(n:Nat):=pP0 fun s=>⟨some (a8 s/\rem (aj [58] s)<n),none,.st .shape (ah n (aj [58] s)).1,[(900,.box (.st .par (ah n (aj [58] s)).2))]⟩
theorem xi(n:Nat)(x:Shape)(s:Par)(hi:a8 s)(h0:s.err=0)(hn:rem s<=n)(hl:x.names.length+x.parts.length<=100000)(hT:ae prog 106 (N1 n)):ax prog 105 [.ptr 900 0,.ptr 901 0] (Hk x (.st .par s) x.names.length x.parts.length) (⟨some (a8 s/\s.err=0/\rem s<=n/\x.names.length=x.names.length/\x.parts.length=x.parts.length/\x.names.length+x.parts.length<=100000),none,.tup [],[(900,.box (.ptr 902 0)),(901,.box (.agg [.int .i64 ((az (ah n) x s).1).kind,.str ((az (ah n) x s).1).pkg,.str ((az (ah n) x s).1).name,.lst .str ((az (ah n) x s).1).names (some 903),.lst (.st .shape) ((az (ah n) x s).1).parts (some 904)])),(902,.box (.st .par (az (ah n) x s).2)),(903,.tail .str (az (ah n) x s).1.names.length),(904,.tail (.st .shape) (az (ah n) x s).1.parts.length)]⟩):=
 g1 nn (fun _=>[]) (fun d=>Nat.beq d 21) nn nn (sc mY (sc (hT) sn)) a0 func105 (EW n x s hi h0 hn hl)
def MR(n:Nat):=sC fun x s m m'=>⟨some (a8 s/\s.err=0/\rem s<=n/\m=x.names.length/\m'=x.parts.length/\m+m'<=100000),none,.tup [],[(900,.box (.ptr 902 0)),(901,.box (.agg [.int .i64 ((az (ah n) x s).1).kind,.str ((az (ah n) x s).1).pkg,.str ((az (ah n) x s).1).name,.lst .str ((az (ah n) x s).1).names (some 903),.lst (.st .shape) ((az (ah n) x s).1).parts (some 904)])),(902,.box (.st .par (az (ah n) x s).2)),(903,.tail .str (az (ah n) x s).1.names.length),(904,.tail (.st .shape) (az (ah n) x s).1.parts.length)]⟩
theorem Cb(n:Nat)(hT:ae prog 106 (N1 n)):ae prog 105 (MR n):=
 Et Fq (fun _ _ _ _=>rfl) (fun _ _ _ _=>by simp[au]) fun x s m m' ho=>by obtain⟨q1,q2,q3,q4,q5,q6⟩:=ho _ rfl;subst q4 q5;exact xi n x s q1 q2 q3 q6 hT
theorem IH:aw prog 108:=ee func108
theorem zH(n:Nat)(x:Shape)(s:Par)(hi:a8 s)(hn:rem s<n)(hl:x.parts.length<=100000)(hS:ae prog 53 (MW n)):ax prog 108 [.ptr 900 0,.ptr 901 0] (L8 x (.st .par s) x.parts.length) (⟨some (a8 s/\rem s<n/\x.parts.length=x.parts.length/\x.parts.length<=100000),none,.tup [],[(900,.box (.agg [.int .i64 ((aB (ah n) x s).1).kind,.str ((aB (ah n) x s).1).pkg,.str ((aB (ah n) x s).1).name,.nils,.lst (.st .shape) ((aB (ah n) x s).1).parts (some 902)])),(901,.box (.ptr 903 0)),(902,.tail (.st .shape) (aB (ah n) x s).1.parts.length),(903,.box (.st .par (aB (ah n) x s).2))]⟩):=
 g1 nn (fun _=>[]) (fun d=>Nat.beq d 8) nn nn (sc (hS) sn) a0 func108 (Ih n x s hi hn hl)
def MS(n:Nat):=yE fun x s m=>⟨some (a8 s/\rem s<n/\m=x.parts.length/\m<=100000),none,.tup [],[(900,.box (.agg [.int .i64 ((aB (ah n) x s).1).kind,.str ((aB (ah n) x s).1).pkg,.str ((aB (ah n) x s).1).name,.nils,.lst (.st .shape) ((aB (ah n) x s).1).parts (some 902)])),(901,.box (.ptr 903 0)),(902,.tail (.st .shape) (aB (ah n) x s).1.parts.length),(903,.box (.st .par (aB (ah n) x s).2))]⟩
theorem Fs(n:Nat)(hS:ae prog 53 (MW n)):ae prog 108 (MS n):=
 Hl IH (fun _ _ _=>rfl) (fun _ _ _=>by simp[au]) fun x s m hx ho=>by obtain⟨q1,q2,q3,q4⟩:=ho _ rfl;subst q3;exact zH n x s q1 q2 q4 hS
theorem II:aw prog 60:=ee func60
theorem zI(n:Nat)(b e:Str)(k:Int)(s:Par)(hi:a8 s)(hn:rem s<=n)(hC:ae prog 105 (MR n)):ax prog 60 [.ptr 900 0,.str b,.str e,.fn 105 [.ptr 901 0,.ptr 902 0]] (Hm k (.st .par s)) (⟨some (a8 s/\rem s<=n),none,.tup [],[(900,.box (.st .par (ab b e (az (ah n)) (⟨k,[],[],[],[]⟩) s).2)),(901,.box (.ptr 900 0)),(902,.box (.agg [.int .i64 ((ab b e (az (ah n)) (⟨k,[],[],[],[]⟩) s).1).kind,.str ((ab b e (az (ah n)) (⟨k,[],[],[],[]⟩) s).1).pkg,.str ((ab b e (az (ah n)) (⟨k,[],[],[],[]⟩) s).1).name,.lst .str ((ab b e (az (ah n)) (⟨k,[],[],[],[]⟩) s).1).names (some 701),.lst (.st .shape) ((ab b e (az (ah n)) (⟨k,[],[],[],[]⟩) s).1).parts (some 702)])),(701,.tail .str (ab b e (az (ah n)) (⟨k,[],[],[],[]⟩) s).1.names.length),(702,.tail (.st .shape) (ab b e (az (ah n)) (⟨k,[],[],[],[]⟩) s).1.parts.length)]⟩):=
 g0 (sc fJ (sc dL (sc dj (sc (hC) sn)))) ⟨[(1,fun S0=>⟨Nat×Shape×Par,fun y=>a8 y.2.2/\rem y.2.2<y.1/\rem y.2.2<=n/\y.2.1.names.length+y.1<=5000/\y.2.1.parts.length+y.1<=5000/\aV b e (az (ah n)) y.1 y.2.1 y.2.2=(ab b e (az (ah n)) (⟨k,[],[],[],[]⟩) s),fun _=>[],fun y=>[(900,.box (.st .par y.2.2)),(902,.box (.agg [.int .i64 (y.2.1).kind,.str (y.2.1).pkg,.str (y.2.1).name,.lst .str (y.2.1).names (some 701),.lst (.st .shape) (y.2.1).parts (some 702)])),(701,.tail .str y.2.1.names.length),(702,.tail (.st .shape) y.2.1.parts.length)],fun y=>y.1⟩)],[],[]⟩ func60 (Ii n b e k s hi hn)
def MT(n:Nat):=wP 105 fun b e k s=>⟨some (a8 s/\rem s<=n),none,.tup [],[(900,.box (.st .par (ab b e (az (ah n)) (⟨k,[],[],[],[]⟩) s).2)),(901,.box (.ptr 900 0)),(902,.box (.agg [.int .i64 ((ab b e (az (ah n)) (⟨k,[],[],[],[]⟩) s).1).kind,.str ((ab b e (az (ah n)) (⟨k,[],[],[],[]⟩) s).1).pkg,.str ((ab b e (az (ah n)) (⟨k,[],[],[],[]⟩) s).1).name,.lst .str ((ab b e (az (ah n)) (⟨k,[],[],[],[]⟩) s).1).names (some 701),.lst (.st .shape) ((ab b e (az (ah n)) (⟨k,[],[],[],[]⟩) s).1).parts (some 702)])),(701,.tail .str (ab b e (az (ah n)) (⟨k,[],[],[],[]⟩) s).1.names.length),(702,.tail (.st .shape) (ab b e (az (ah n)) (⟨k,[],[],[],[]⟩) s).1.parts.length)]⟩
theorem Ft(n:Nat)(hC:ae prog 105 (MR n)):ae prog 60 (MT n):=
 Eu II (fun _ _ _ _=>rfl) (fun _ _ _ _=>by simp[au]) fun b e k s ho=>zI n b e k s (ho _ rfl).1 (ho _ rfl).2 hC
theorem IJ:aw prog 60:=ee func60
theorem zJ(n:Nat)(b e:Str)(k:Int)(s:Par)(hi:a8 s)(hn:rem s<n)(hC:ae prog 108 (MS n)):ax prog 60 [.ptr 900 0,.str b,.str e,.fn 108 [.ptr 901 0,.ptr 902 0]] (Hn k (.st .par s)) (⟨some (a8 s/\rem s<n),none,.tup [],[(900,.box (.st .par (ab b e (aB (ah n)) (⟨k,[],[],[],[]⟩) s).2)),(901,.box (.agg [.int .i64 ((ab b e (aB (ah n)) (⟨k,[],[],[],[]⟩) s).1).kind,.str ((ab b e (aB (ah n)) (⟨k,[],[],[],[]⟩) s).1).pkg,.str ((ab b e (aB (ah n)) (⟨k,[],[],[],[]⟩) s).1).name,.nils,.lst (.st .shape) ((ab b e (aB (ah n)) (⟨k,[],[],[],[]⟩) s).1).parts (some 702)])),(902,.box (.ptr 900 0)),(702,.tail (.st .shape) (ab b e (aB (ah n)) (⟨k,[],[],[],[]⟩) s).1.parts.length)]⟩):=
 g0 (sc fJ (sc dL (sc dj (sc (hC) sn)))) ⟨[(1,fun S0=>⟨Nat×Shape×Par,fun y=>a8 y.2.2/\rem y.2.2<y.1/\rem y.2.2<n/\y.2.1.parts.length+y.1<=5000/\y.2.1.names=[]/\aV b e (aB (ah n)) y.1 y.2.1 y.2.2=(ab b e (aB (ah n)) (⟨k,[],[],[],[]⟩) s),fun _=>[],fun y=>[(900,.box (.st .par y.2.2)),(901,.box (.agg [.int .i64 (y.2.1).kind,.str (y.2.1).pkg,.str (y.2.1).name,.nils,.lst (.st .shape) (y.2.1).parts (some 702)])),(702,.tail (.st .shape) y.2.1.parts.length)],fun y=>y.1⟩)],[],[]⟩ func60 (Ij n b e k s hi hn)
def MU(n:Nat):=wQ 108 fun b e k s=>⟨some (a8 s/\rem s<n),none,.tup [],[(900,.box (.st .par (ab b e (aB (ah n)) (⟨k,[],[],[],[]⟩) s).2)),(901,.box (.agg [.int .i64 ((ab b e (aB (ah n)) (⟨k,[],[],[],[]⟩) s).1).kind,.str ((ab b e (aB (ah n)) (⟨k,[],[],[],[]⟩) s).1).pkg,.str ((ab b e (aB (ah n)) (⟨k,[],[],[],[]⟩) s).1).name,.nils,.lst (.st .shape) ((ab b e (aB (ah n)) (⟨k,[],[],[],[]⟩) s).1).parts (some 702)])),(902,.box (.ptr 900 0)),(702,.tail (.st .shape) (ab b e (aB (ah n)) (⟨k,[],[],[],[]⟩) s).1.parts.length)]⟩
theorem Fu(n:Nat)(hC:ae prog 108 (MS n)):ae prog 60 (MU n):=
 Ev IJ (fun _ _ _ _=>rfl) (fun _ _ _ _=>by simp[au]) fun b e k s ho=>zJ n b e k s (ho _ rfl).1 (ho _ rfl).2 hC
theorem zK:aw prog 53:=ee func53
theorem zL(n:Nat)(s:Par)(hi:a8 s)(hn:rem s<n+1)(hS:ae prog 53 (MW n))(hL:ae prog 60 (MT n))(hM:ae prog 60 (MU n)):ax prog 53 [.ptr 900 0] [(900,.box (.st .par s))] (⟨some (a8 s/\rem s<n+1),none,.st .shape (ah (n+1) s).1,[(900,.box (.st .par (ah (n+1) s).2))]⟩):=
 g1 nn (fun _=>[]) (fun d=>Nat.beq d 129) nn nn (sc gw (sc dL (sc dj (sc kJ (sc fJ (sc iu (sc Fo (sc (hS) (sc (hL) (sc (hM) sn)))))))))) a0 func53 (Ik n s hi hn)
theorem mZ:∀n:Nat,ae prog 53 (MW n)
 |0=>ji zK (fun _=>rfl) (fun _=>by simp[au]) fun s ho=>absurd (ho _ rfl).2 (OO _)
 |n+1=>ji zK (fun _=>rfl) (fun _=>by simp[au]) fun s ho=>
  zL n s (ho _ rfl).1 (ho _ rfl).2 (mZ n) (Ft n (Cb n (Fp n (mZ n)))) (Fu n (Fs n (mZ n)))
theorem kK:ae prog 30 (pP0 fun s=>⟨some (a8 s),none,.st .shape (bw s).1,[(900,.box (.st .par ((bw s).2)))]⟩):=
 ji (ee func30) (fun _=>rfl) (fun _=>by simp[au]) fun s ho=>g0 (sc gw (sc (mZ big) (sc dL (sc qh (sc iu sn))))) a0 func30 (Il s (ho _ rfl))
theorem Fv:aw prog 56:=ee func56
def MM(n:Nat):=pP0 fun s=>⟨some (a8 s/\rem s<n),none,.st .term (a7 n s).1,[(900,.box (.st .par (a7 n s).2))]⟩
theorem xj(n:Nat)(x:Trm)(s:Par)(hi:a8 s)(hn:rem s<n)(zn:x.names=[])(zv:x.vars=[])(zs:x.shapes=[])(zp:x.parts=[])(hT:ae prog 34 (MM n)):ax prog 56 [.ptr 900 0,.ptr 901 0] (sT_ x (.st .par s)) (⟨some (a8 s/\rem s<n),none,.tup [],[(900,.box (.agg [.int .i64 x.kind,.str x.pkg,.str x.name,.int .i64 x.n,.nils,.nils,.nils,.lst (.st .term) ((x.parts++[(a7 n s).1])) (some 8),.int .i64 x.pos])),(901,.box (.ptr 902 0)),(902,.box (.st .par (a7 n s).2)),(8,.tail (.st .term) (x.parts++[(a7 n s).1]).length)]⟩):=
 g1 nn (fun _=>[]) (fun d=>Nat.beq d 8) nn nn (sc (hT) sn) a0 func56 (EX n x s hi hn zn zv zs zp)
def MY(n:Nat):=pT_ fun x s=>⟨some (a8 s/\rem s<n),none,.tup [],[(900,.box (.agg [.int .i64 x.kind,.str x.pkg,.str x.name,.int .i64 x.n,.nils,.nils,.nils,.lst (.st .term) ((x.parts++[(a7 n s).1])) (some 8),.int .i64 x.pos])),(901,.box (.ptr 902 0)),(902,.box (.st .par (a7 n s).2)),(8,.tail (.st .term) (x.parts++[(a7 n s).1]).length)]⟩
theorem Cc(n:Nat)(hT:ae prog 34 (MM n)):ae prog 56 (MY n):=
 Lx Fv (fun _ _=>rfl) (fun _ _=>by simp[au]) fun x s zn zv zs zp ho=>by obtain⟨q1,q2⟩:=ho _ rfl;exact xj n x s q1 q2 zn zv zs zp hT
theorem Fw:aw prog 56:=ee func56
theorem xk(n:Nat)(x:Trm)(s:Par)(hi:a8 s)(hn:rem s<n)(zn:x.names=[])(zv:x.vars=[])(zs:x.shapes=[])(hl:x.parts.length<=100000)(hT:ae prog 34 (MM n)):ax prog 56 [.ptr 900 0,.ptr 901 0] (Ly x (.st .par s) x.parts.length) (⟨some (a8 s/\rem s<n/\x.parts.length=x.parts.length/\x.parts.length<=100000),none,.tup [],[(900,.box (.agg [.int .i64 x.kind,.str x.pkg,.str x.name,.int .i64 x.n,.nils,.nils,.nils,.lst (.st .term) ((x.parts++[(a7 n s).1])) (some 902),.int .i64 x.pos])),(901,.box (.ptr 903 0)),(902,.tail (.st .term) (x.parts++[(a7 n s).1]).length),(903,.box (.st .par (a7 n s).2))]⟩):=
 g1 nn (fun _=>[]) (fun d=>Nat.beq d 8) nn nn (sc (hT) sn) a0 func56 (EY n x s hi hn zn zv zs hl)
def ML(n:Nat):=wR fun x s mp=>⟨some (a8 s/\rem s<n/\mp=x.parts.length/\mp<=100000),none,.tup [],[(900,.box (.agg [.int .i64 x.kind,.str x.pkg,.str x.name,.int .i64 x.n,.nils,.nils,.nils,.lst (.st .term) ((x.parts++[(a7 n s).1])) (some 902),.int .i64 x.pos])),(901,.box (.ptr 903 0)),(902,.tail (.st .term) (x.parts++[(a7 n s).1]).length),(903,.box (.st .par (a7 n s).2))]⟩
theorem tE(n:Nat)(hT:ae prog 34 (MM n)):ae prog 56 (ML n):=
 Ds Fw (fun _ _ _=>rfl) (fun _ _ _=>by simp[au]) fun x s mp zn zv zs ho=>by obtain⟨q1,q2,ep,ql⟩:=ho _ rfl;subst ep;exact xk n x s q1 q2 zn zv zs ql hT
theorem Cd:aw prog 56:=ee func56
theorem uM(n:Nat)(x:Trm)(s:Par)(hi:a8 s)(hn:rem s<n)(zv:x.vars=[])(zp:x.parts=[])(hl:x.names.length+x.shapes.length<=100000)(hT:ae prog 34 (MM n)):ax prog 56 [.ptr 900 0,.ptr 901 0] (L9 x (.st .par s) x.names.length x.shapes.length) (⟨some (a8 s/\rem s<n/\x.names.length=x.names.length/\x.shapes.length=x.shapes.length/\x.names.length+x.shapes.length<=100000),none,.tup [],[(900,.box (.agg [.int .i64 x.kind,.str x.pkg,.str x.name,.int .i64 x.n,.lst .str (x.names) (some 902),.nils,.lst (.st .shape) (x.shapes) (some 903),.lst (.st .term) ((x.parts++[(a7 n s).1])) (some 8),.int .i64 x.pos])),(901,.box (.ptr 904 0)),(902,.tail .str x.names.length),(903,.tail (.st .shape) x.shapes.length),(904,.box (.st .par (a7 n s).2)),(8,.tail (.st .term) (x.parts++[(a7 n s).1]).length)]⟩):=
 g1 nn (fun _=>[]) (fun d=>Nat.beq d 8) nn nn (sc (hT) sn) a0 func56 (BY n x s hi hn zv zp hl)
def MV(n:Nat):=Dt fun x s mn ms=>⟨some (a8 s/\rem s<n/\mn=x.names.length/\ms=x.shapes.length/\mn+ms<=100000),none,.tup [],[(900,.box (.agg [.int .i64 x.kind,.str x.pkg,.str x.name,.int .i64 x.n,.lst .str (x.names) (some 902),.nils,.lst (.st .shape) (x.shapes) (some 903),.lst (.st .term) ((x.parts++[(a7 n s).1])) (some 8),.int .i64 x.pos])),(901,.box (.ptr 904 0)),(902,.tail .str x.names.length),(903,.tail (.st .shape) x.shapes.length),(904,.box (.st .par (a7 n s).2)),(8,.tail (.st .term) (x.parts++[(a7 n s).1]).length)]⟩
theorem zM(n:Nat)(hT:ae prog 34 (MM n)):ae prog 56 (MV n):=
 Ho Cd (fun _ _ _ _=>rfl) (fun _ _ _ _=>by simp[au]) fun x s mn ms zv zp ho=>by obtain⟨q1,q2,en,es,ql⟩:=ho _ rfl;subst en;subst es;exact uM n x s q1 q2 zv zp ql hT
theorem xl:aw prog 56:=ee func56
theorem r8(n:Nat)(x:Trm)(s:Par)(hi:a8 s)(hn:rem s<n)(hl:x.names.length+x.vars.length+x.shapes.length+x.parts.length<=100000)(hT:ae prog 34 (MM n)):ax prog 56 [.ptr 900 0,.ptr 901 0] (Du x (.st .par s) x.names.length x.vars.length x.shapes.length x.parts.length) (⟨some (a8 s/\rem s<n/\x.names.length=x.names.length/\x.vars.length=x.vars.length/\x.shapes.length=x.shapes.length/\x.parts.length=x.parts.length/\x.names.length+x.vars.length+x.shapes.length+x.parts.length<=100000),none,.tup [],[(900,.box (.agg [.int .i64 x.kind,.str x.pkg,.str x.name,.int .i64 x.n,.lst .str (x.names) (some 902),.lst .str (x.vars) (some 903),.lst (.st .shape) (x.shapes) (some 904),.lst (.st .term) ((x.parts++[(a7 n s).1])) (some 905),.int .i64 x.pos])),(901,.box (.ptr 906 0)),(902,.tail .str x.names.length),(903,.tail .str x.vars.length),(904,.tail (.st .shape) x.shapes.length),(905,.tail (.st .term) (x.parts++[(a7 n s).1]).length),(906,.box (.st .par (a7 n s).2))]⟩):=
 g1 nn (fun _=>[]) (fun d=>Nat.beq d 8) nn nn (sc (hT) sn) a0 func56 (xh n x s hi hn hl)
def MN(n:Nat):=oU fun x s mn mv ms mp=>⟨some (a8 s/\rem s<n/\mn=x.names.length/\mv=x.vars.length/\ms=x.shapes.length/\mp=x.parts.length/\mn+mv+ms+mp<=100000),none,.tup [],[(900,.box (.agg [.int .i64 x.kind,.str x.pkg,.str x.name,.int .i64 x.n,.lst .str (x.names) (some 902),.lst .str (x.vars) (some 903),.lst (.st .shape) (x.shapes) (some 904),.lst (.st .term) ((x.parts++[(a7 n s).1])) (some 905),.int .i64 x.pos])),(901,.box (.ptr 906 0)),(902,.tail .str x.names.length),(903,.tail .str x.vars.length),(904,.tail (.st .shape) x.shapes.length),(905,.tail (.st .term) (x.parts++[(a7 n s).1]).length),(906,.box (.st .par (a7 n s).2))]⟩
theorem uN(n:Nat)(hT:ae prog 34 (MM n)):ae prog 56 (MN n):=
 BA xl (fun _ _ _ _ _ _=>rfl) (fun _ _ _ _ _ _=>by simp[au]) fun x s mn mv ms mp _ ho=>by obtain⟨q1,q2,en,ev,es,ep,ql⟩:=ho _ rfl;subst en;subst ev;subst es;subst ep;exact r8 n x s q1 q2 ql hT
theorem Fx:aw prog 118:=ee func118
theorem xm(n:Nat)(x:Trm)(s:Par)(hi:a8 s)(hn:rem s<n)(zn:x.names=[])(zv:x.vars=[])(zs:x.shapes=[])(hl:x.parts.length<=100000)(hT:ae prog 34 (MM n)):ax prog 118 [.ptr 900 0,.ptr 901 0] (Ly x (.st .par s) x.parts.length) (⟨some (a8 s/\rem s<n/\x.parts.length=x.parts.length/\x.parts.length<=100000),none,.tup [],[(900,.box (.agg [.int .i64 x.kind,.str x.pkg,.str x.name,.int .i64 x.n,.nils,.nils,.nils,.lst (.st .term) ((x.parts++[(a7 n s).1])) (some 902),.int .i64 x.pos])),(901,.box (.ptr 903 0)),(902,.tail (.st .term) (x.parts++[(a7 n s).1]).length),(903,.box (.st .par (a7 n s).2))]⟩):=
 g1 nn (fun _=>[]) (fun d=>Nat.beq d 8) nn nn (sc (hT) sn) a0 func118 (EZ n x s hi hn zn zv zs hl)
theorem Ce(n:Nat)(hT:ae prog 34 (MM n)):ae prog 118 (ML n):=
 Ds Fx (fun _ _ _=>rfl) (fun _ _ _=>by simp[au]) fun x s mp zn zv zs ho=>by obtain⟨q1,q2,ep,ql⟩:=ho _ rfl;subst ep;exact xm n x s q1 q2 zn zv zs ql hT
theorem tF:ae prog 57 (Hq fun x a s mn ms=>⟨some (a8 s/\mn=x.names.length/\ms=x.shapes.length/\mn+ms<=100000),none,.tup [],[(900,.box (.ptr 902 0)),(901,.box (.agg [.int .i64 x.kind,.str x.pkg,.str x.name,.int .i64 x.n,.lst .str (x.names) (some 903),.nils,.lst (.st .shape) ((x.shapes++[(bw (aj a s)).1])) (some 904),.nils,.int .i64 x.pos])),(902,.box (.st .par (bw (aj a s)).2)),(903,.tail .str x.names.length),(904,.tail (.st .shape) (x.shapes++[(bw (aj a s)).1]).length)]⟩):=
 Hr (ee func57) (fun _ _ _ _ _=>rfl) (fun _ _ _ _ _=>by simp[au]) fun x a s mn ms zv zp ho=>by obtain⟨q1,en,es,ql⟩:=ho _ rfl;subst en;subst es;exact g1 nn (fun _=>[]) (fun d=>Nat.beq d 15) nn nn (sc dj (sc kK sn)) a0 func57 (F0 x a s q1 zv zp ql)
theorem Fy:ae prog 57 (Lz fun x a s mp=>⟨some (a8 s/\mp=x.parts.length/\mp<=100000),none,.tup [],[(900,.box (.ptr 902 0)),(901,.box (.agg [.int .i64 x.kind,.str x.pkg,.str x.name,.int .i64 x.n,.nils,.nils,.lst (.st .shape) ((x.shapes++[(bw (aj a s)).1])) (some 15),.lst (.st .term) (x.parts) (some 903),.int .i64 x.pos])),(902,.box (.st .par (bw (aj a s)).2)),(903,.tail (.st .term) x.parts.length),(15,.tail (.st .shape) (x.shapes++[(bw (aj a s)).1]).length)]⟩):=
 K0 (ee func57) (fun _ _ _ _=>rfl) (fun _ _ _ _=>by simp[au]) fun x a s mp zn zv zs ho=>by obtain⟨q1,ep,ql⟩:=ho _ rfl;subst ep;exact g1 nn (fun _=>[]) (fun d=>Nat.beq d 15) nn nn (sc dj (sc kK sn)) a0 func57 (Im x a s q1 zn zv zs ql)
theorem pj:ae prog 57 (wS fun x a s mn mv ms mp=>⟨some (a8 s/\mn=x.names.length/\mv=x.vars.length/\ms=x.shapes.length/\mp=x.parts.length/\mn+mv+ms+mp<=100000),none,.tup [],[(900,.box (.ptr 902 0)),(901,.box (.agg [.int .i64 x.kind,.str x.pkg,.str x.name,.int .i64 x.n,.lst .str (x.names) (some 903),.lst .str (x.vars) (some 904),.lst (.st .shape) ((x.shapes++[(bw (aj a s)).1])) (some 905),.lst (.st .term) (x.parts) (some 906),.int .i64 x.pos])),(902,.box (.st .par (bw (aj a s)).2)),(903,.tail .str x.names.length),(904,.tail .str x.vars.length),(905,.tail (.st .shape) (x.shapes++[(bw (aj a s)).1]).length),(906,.tail (.st .term) x.parts.length)]⟩):=
 BB (ee func57) (fun _ _ _ _ _ _ _=>rfl) (fun _ _ _ _ _ _ _=>by simp[au]) fun x a s mn mv ms mp _ ho=>by obtain⟨q1,en,ev,es,ep,ql⟩:=ho _ rfl;subst en;subst ev;subst es;subst ep;exact g1 nn (fun _=>[]) (fun d=>Nat.beq d 15) nn nn (sc dj (sc kK sn)) a0 func57 (zr x a s q1 ql)
theorem IK:aw prog 165:=ee func165
theorem zN(n:Nat)(x:Trm)(s:Par)(hi:a8 s)(h0:s.err=0)(hn:rem s<=n)(zv:x.vars=[])(zs:x.shapes=[])(hl:x.names.length+x.parts.length<=100000)(hT:ae prog 34 (MM n)):ax prog 165 [.ptr 900 0,.ptr 901 0] (La x (.st .par s) x.names.length x.parts.length) (⟨some (a8 s/\s.err=0/\rem s<=n/\x.names.length=x.names.length/\x.parts.length=x.parts.length/\x.names.length+x.parts.length<=100000),none,.tup [],[(900,.box (.agg [.int .i64 ((ai (a7 n) x s).1).kind,.str ((ai (a7 n) x s).1).pkg,.str ((ai (a7 n) x s).1).name,.int .i64 ((ai (a7 n) x s).1).n,.lst .str ((ai (a7 n) x s).1).names (some 902),.nils,.nils,.lst (.st .term) ((ai (a7 n) x s).1).parts (some 903),.int .i64 ((ai (a7 n) x s).1).pos])),(901,.box (.ptr 904 0)),(902,.tail .str (ai (a7 n) x s).1.names.length),(903,.tail (.st .term) (ai (a7 n) x s).1.parts.length),(904,.box (.st .par (ai (a7 n) x s).2))]⟩):=
 g1 nn (fun _=>[]) (fun d=>Nat.beq d 23) nn nn (sc mY (sc dj (sc (hT) sn))) a0 func165 (Io n x s hi h0 hn zv zs hl)
def MP(n:Nat):=yI fun x s mn mp=>⟨some (a8 s/\s.err=0/\rem s<=n/\mn=x.names.length/\mp=x.parts.length/\mn+mp<=100000),none,.tup [],[(900,.box (.agg [.int .i64 ((ai (a7 n) x s).1).kind,.str ((ai (a7 n) x s).1).pkg,.str ((ai (a7 n) x s).1).name,.int .i64 ((ai (a7 n) x s).1).n,.lst .str ((ai (a7 n) x s).1).names (some 902),.nils,.nils,.lst (.st .term) ((ai (a7 n) x s).1).parts (some 903),.int .i64 ((ai (a7 n) x s).1).pos])),(901,.box (.ptr 904 0)),(902,.tail .str (ai (a7 n) x s).1.names.length),(903,.tail (.st .term) (ai (a7 n) x s).1.parts.length),(904,.box (.st .par (ai (a7 n) x s).2))]⟩
theorem Fz(n:Nat)(hT:ae prog 34 (MM n)):ae prog 165 (MP n):=
 Hp IK (fun _ _ _ _=>rfl) (fun _ _ _ _=>by simp[au]) fun x s mn mp zv zs ho=>by obtain⟨q1,q2,q3,en,ep,ql⟩:=ho _ rfl;subst en;subst ep;exact zN n x s q1 q2 q3 zv zs ql hT
theorem KC:ae prog 61 (LB 57 fun x s mn ms=>⟨some (a8 s/\mn=x.names.length/\ms=x.shapes.length/\mn+ms<=90000),none,.tup [],[(900,.box (.agg [.int .i64 ((aC x s).1).kind,.str ((aC x s).1).pkg,.str ((aC x s).1).name,.int .i64 ((aC x s).1).n,.lst .str ((aC x s).1).names (some 903),.nils,.lst (.st .shape) ((aC x s).1).shapes (some 904),.nils,.int .i64 ((aC x s).1).pos])),(901,.box (.ptr 905 0)),(902,.box (.fn 57 [.ptr 901 0,.ptr 900 0])),(903,.tail .str (aC x s).1.names.length),(904,.tail (.st .shape) (aC x s).1.shapes.length),(905,.box (.st .par (aC x s).2))]⟩):=
 K2 (ee func61) (fun _ _ _ _=>rfl) (fun _ _ _ _=>by simp[au]) fun x s mn ms zv zp ho=>by obtain⟨q1,en,es,ql⟩:=ho _ rfl;subst en;subst es;exact g0 (sc mY (sc tF sn)) a0 func61 (LQ x s q1 zv zp ql)
theorem LV:aw prog 64:=ee func64
theorem FA(n:Nat)(x:Trm)(s:Par)(hi:a8 s)(h0:s.err=0)(hn:rem s<=n)(hl:x.names.length+x.vars.length+x.shapes.length+x.parts.length<=90000)(hP:ae prog 56 (MN n)):ax prog 64 [.ptr 900 0,.ptr 901 0,.ptr 902 0,.ptr 903 0] (sWay 57 56 x (.st .par s) x.names.length x.vars.length x.shapes.length x.parts.length) (⟨some (a8 s/\s.err=0/\rem s<=n/\x.names.length=x.names.length/\x.vars.length=x.vars.length/\x.shapes.length=x.shapes.length/\x.parts.length=x.parts.length/\x.names.length+x.vars.length+x.shapes.length+x.parts.length<=90000),none,.tup [],[(900,.box (.agg [.int .i64 ((ak (a7 n) x s).1).kind,.str ((ak (a7 n) x s).1).pkg,.str ((ak (a7 n) x s).1).name,.int .i64 ((ak (a7 n) x s).1).n,.lst .str ((ak (a7 n) x s).1).names (some 904),.lst .str ((ak (a7 n) x s).1).vars (some 905),.lst (.st .shape) ((ak (a7 n) x s).1).shapes (some 906),.lst (.st .term) ((ak (a7 n) x s).1).parts (some 907),.int .i64 ((ak (a7 n) x s).1).pos])),(901,.box (.ptr 908 0)),(902,.box (.fn 57 [.ptr 901 0,.ptr 900 0])),(903,.box (.fn 56 [.ptr 900 0,.ptr 901 0])),(904,.tail .str (ak (a7 n) x s).1.names.length),(905,.tail .str (ak (a7 n) x s).1.vars.length),(906,.tail (.st .shape) (ak (a7 n) x s).1.shapes.length),(907,.tail (.st .term) (ak (a7 n) x s).1.parts.length),(908,.box (.st .par (ak (a7 n) x s).2))]⟩):=
 g0 (sc mY (sc dj (sc kJ (sc pj (sc (hP) sn))))) a0 func64 (LR n x s hi h0 hn hl)
theorem KD(n:Nat)(hP:ae prog 56 (MN n)):ae prog 64 (Hs 57 56 fun x s mn mv ms mp=>⟨some (a8 s/\s.err=0/\rem s<=n/\mn=x.names.length/\mv=x.vars.length/\ms=x.shapes.length/\mp=x.parts.length/\mn+mv+ms+mp<=90000),none,.tup [],[(900,.box (.agg [.int .i64 ((ak (a7 n) x s).1).kind,.str ((ak (a7 n) x s).1).pkg,.str ((ak (a7 n) x s).1).name,.int .i64 ((ak (a7 n) x s).1).n,.lst .str ((ak (a7 n) x s).1).names (some 904),.lst .str ((ak (a7 n) x s).1).vars (some 905),.lst (.st .shape) ((ak (a7 n) x s).1).shapes (some 906),.lst (.st .term) ((ak (a7 n) x s).1).parts (some 907),.int .i64 ((ak (a7 n) x s).1).pos])),(901,.box (.ptr 908 0)),(902,.box (.fn 57 [.ptr 901 0,.ptr 900 0])),(903,.box (.fn 56 [.ptr 900 0,.ptr 901 0])),(904,.tail .str (ak (a7 n) x s).1.names.length),(905,.tail .str (ak (a7 n) x s).1.vars.length),(906,.tail (.st .shape) (ak (a7 n) x s).1.shapes.length),(907,.tail (.st .term) (ak (a7 n) x s).1.parts.length),(908,.box (.st .par (ak (a7 n) x s).2))]⟩):=
 K3 LV (fun _ _ _ _ _ _=>rfl) (fun _ _ _ _ _ _=>by simp[au]) fun x s mn mv ms mp _ ho=>by obtain⟨q1,q2,q3,en,ev,es,ep,ql⟩:=ho _ rfl;subst en;subst ev;subst es;subst ep;exact FA n x s q1 q2 q3 ql hP
theorem IL:aw prog 166:=ee func166
theorem zO(n:Nat)(s:Par) (ho:a8 s/\rem (aj [40] s)<n)(hT:ae prog 34 (MM n)):ax prog 166 [.ptr 900 0] [(900,.box (.st .par s))] (⟨some (a8 s/\rem (aj [40] s)<n),none,.lst (.st .term) (cz (a7 n) s).1 none,[(900,.box (.st .par ((cz (a7 n) s).2)))]⟩):=
 g0 (sc dj (sc (hT) sn)) a0 func166 (Ip n s ho)
theorem FB(n:Nat)(hT:ae prog 34 (MM n)):ae prog 166 (pP0 fun s=>⟨some (a8 s/\rem (aj [40] s)<n),none,.lst (.st .term) (cz (a7 n) s).1 none,[(900,.box (.st .par ((cz (a7 n) s).2)))]⟩):=
 ji IL (fun _=>rfl) (fun _=>by simp[au]) fun s ho=>zO n s (ho _ rfl) hT
theorem KE:aw prog 60:=ee func60
theorem Cf(n:Nat)(k pp z:Int)(g q:Str)(b e:Str)(s:Par)(hi:a8 s)(hn:rem s<=n) :ax prog 60 [.ptr 900 0,.str b,.str e,.fn 61 [.ptr 901 0,.ptr 902 0,.ptr 903 0]] (Lb 61 57 (⟨k,g,q,z,[],[],[],[],pp⟩:Trm) (.st .par s)) (⟨some (a8 s/\rem s<=n),none,.tup [],[(900,.box (.st .par (ab b e (aC) ⟨k,g,q,z,[],[],[],[],pp⟩ s).2)),(901,.box (.agg [.int .i64 ((ab b e (aC) ⟨k,g,q,z,[],[],[],[],pp⟩ s).1).kind,.str ((ab b e (aC) ⟨k,g,q,z,[],[],[],[],pp⟩ s).1).pkg,.str ((ab b e (aC) ⟨k,g,q,z,[],[],[],[],pp⟩ s).1).name,.int .i64 ((ab b e (aC) ⟨k,g,q,z,[],[],[],[],pp⟩ s).1).n,.lst .str ((ab b e (aC) ⟨k,g,q,z,[],[],[],[],pp⟩ s).1).names (some 701),.nils,.lst (.st .shape) ((ab b e (aC) ⟨k,g,q,z,[],[],[],[],pp⟩ s).1).shapes (some 702),.nils,.int .i64 ((ab b e (aC) ⟨k,g,q,z,[],[],[],[],pp⟩ s).1).pos])),(902,.box (.ptr 900 0)),(903,.box (.fn 57 [.ptr 902 0,.ptr 901 0])),(701,.tail .str (ab b e (aC) ⟨k,g,q,z,[],[],[],[],pp⟩ s).1.names.length),(702,.tail (.st .shape) (ab b e (aC) ⟨k,g,q,z,[],[],[],[],pp⟩ s).1.shapes.length)]⟩):=
 g0 (sc fJ (sc dL (sc dj (sc (KC) sn)))) ⟨[(1,fun S0=>⟨Nat×Trm×Par,fun y=>a8 y.2.2/\rem y.2.2<y.1/\rem y.2.2<=n/\y.2.1.names.length+y.1<=5000/\y.2.1.shapes.length+y.1<=5000/\y.2.1.vars=[]/\y.2.1.parts=[]/\aV b e (aC) y.1 y.2.1 y.2.2=(ab b e (aC) ⟨k,g,q,z,[],[],[],[],pp⟩ s),fun _=>[],fun y=>[(900,.box (.st .par y.2.2)),(901,.box (.agg [.int .i64 (y.2.1).kind,.str (y.2.1).pkg,.str (y.2.1).name,.int .i64 (y.2.1).n,.lst .str (y.2.1).names (some 701),.nils,.lst (.st .shape) (y.2.1).shapes (some 702),.nils,.int .i64 (y.2.1).pos])),(701,.tail .str y.2.1.names.length),(702,.tail (.st .shape) y.2.1.shapes.length)],fun y=>y.1⟩)],[],[]⟩ func60 (Kr n k pp z g q b e s hi hn)
theorem IM(n:Nat) :ae prog 60 (Dv 61 57 fun x b e s=>⟨some (a8 s/\rem s<=n),none,.tup [],[(900,.box (.st .par (ab b e (aC) x s).2)),(901,.box (.agg [.int .i64 ((ab b e (aC) x s).1).kind,.str ((ab b e (aC) x s).1).pkg,.str ((ab b e (aC) x s).1).name,.int .i64 ((ab b e (aC) x s).1).n,.lst .str ((ab b e (aC) x s).1).names (some 701),.nils,.lst (.st .shape) ((ab b e (aC) x s).1).shapes (some 702),.nils,.int .i64 ((ab b e (aC) x s).1).pos])),(902,.box (.ptr 900 0)),(903,.box (.fn 57 [.ptr 902 0,.ptr 901 0])),(701,.tail .str (ab b e (aC) x s).1.names.length),(702,.tail (.st .shape) (ab b e (aC) x s).1.shapes.length)]⟩):=
 Ht KE (fun _ _ _ _=>rfl) (fun _ _ _ _=>by simp[au]) fun x b e s zn zv zs zp ho=>by obtain⟨k,g,q,z,ns,vs,ss,us,pp⟩:=x;simp only at zn zv zs zp;obtain⟨q1,q2⟩:=ho _ rfl;subst zn zv zs zp;exact Cf n k pp z g q b e s q1 q2
theorem KF:aw prog 60:=ee func60
theorem Cg(n:Nat)(k pp z:Int)(g q:Str)(us:List Trm)(b e:Str)(s:Par)(hi:a8 s)(hn:rem s<=n)(hu:us.length<=1)(hC:ae prog 64 (Hs 57 56 fun x s mn mv ms mp=>⟨some (a8 s/\s.err=0/\rem s<=n/\mn=x.names.length/\mv=x.vars.length/\ms=x.shapes.length/\mp=x.parts.length/\mn+mv+ms+mp<=90000),none,.tup [],[(900,.box (.agg [.int .i64 ((ak (a7 n) x s).1).kind,.str ((ak (a7 n) x s).1).pkg,.str ((ak (a7 n) x s).1).name,.int .i64 ((ak (a7 n) x s).1).n,.lst .str ((ak (a7 n) x s).1).names (some 904),.lst .str ((ak (a7 n) x s).1).vars (some 905),.lst (.st .shape) ((ak (a7 n) x s).1).shapes (some 906),.lst (.st .term) ((ak (a7 n) x s).1).parts (some 907),.int .i64 ((ak (a7 n) x s).1).pos])),(901,.box (.ptr 908 0)),(902,.box (.fn 57 [.ptr 901 0,.ptr 900 0])),(903,.box (.fn 56 [.ptr 900 0,.ptr 901 0])),(904,.tail .str (ak (a7 n) x s).1.names.length),(905,.tail .str (ak (a7 n) x s).1.vars.length),(906,.tail (.st .shape) (ak (a7 n) x s).1.shapes.length),(907,.tail (.st .term) (ak (a7 n) x s).1.parts.length),(908,.box (.st .par (ak (a7 n) x s).2))]⟩)):ax prog 60 [.ptr 900 0,.str b,.str e,.fn 64 [.ptr 901 0,.ptr 902 0,.ptr 903 0,.ptr 904 0]] (Lc 64 57 56 (⟨k,g,q,z,[],[],[],us,pp⟩:Trm) (.st .par s) us.length) (⟨some (a8 s/\rem s<=n/\us.length=us.length/\us.length<=1),none,.tup [],[(900,.box (.st .par (ab b e (ak (a7 n)) ⟨k,g,q,z,[],[],[],us,pp⟩ s).2)),(901,.box (.agg [.int .i64 ((ab b e (ak (a7 n)) ⟨k,g,q,z,[],[],[],us,pp⟩ s).1).kind,.str ((ab b e (ak (a7 n)) ⟨k,g,q,z,[],[],[],us,pp⟩ s).1).pkg,.str ((ab b e (ak (a7 n)) ⟨k,g,q,z,[],[],[],us,pp⟩ s).1).name,.int .i64 ((ab b e (ak (a7 n)) ⟨k,g,q,z,[],[],[],us,pp⟩ s).1).n,.lst .str ((ab b e (ak (a7 n)) ⟨k,g,q,z,[],[],[],us,pp⟩ s).1).names (some 701),.lst .str ((ab b e (ak (a7 n)) ⟨k,g,q,z,[],[],[],us,pp⟩ s).1).vars (some 702),.lst (.st .shape) ((ab b e (ak (a7 n)) ⟨k,g,q,z,[],[],[],us,pp⟩ s).1).shapes (some 703),.lst (.st .term) ((ab b e (ak (a7 n)) ⟨k,g,q,z,[],[],[],us,pp⟩ s).1).parts (some 905),.int .i64 ((ab b e (ak (a7 n)) ⟨k,g,q,z,[],[],[],us,pp⟩ s).1).pos])),(902,.box (.ptr 900 0)),(903,.box (.fn 57 [.ptr 902 0,.ptr 901 0])),(904,.box (.fn 56 [.ptr 901 0,.ptr 902 0])),(701,.tail .str (ab b e (ak (a7 n)) ⟨k,g,q,z,[],[],[],us,pp⟩ s).1.names.length),(702,.tail .str (ab b e (ak (a7 n)) ⟨k,g,q,z,[],[],[],us,pp⟩ s).1.vars.length),(703,.tail (.st .shape) (ab b e (ak (a7 n)) ⟨k,g,q,z,[],[],[],us,pp⟩ s).1.shapes.length),(905,.tail (.st .term) (ab b e (ak (a7 n)) ⟨k,g,q,z,[],[],[],us,pp⟩ s).1.parts.length)]⟩):=
 g0 (sc fJ (sc dL (sc dj (sc (hC) sn)))) ⟨[(1,fun S0=>⟨Nat×Trm×Par,fun y=>a8 y.2.2/\rem y.2.2<y.1/\rem y.2.2<=n/\y.2.1.names.length+y.1<=5000/\y.2.1.vars.length+y.1<=5000/\y.2.1.shapes.length+y.1<=5000/\y.2.1.parts.length+y.1<=5000/\aV b e (ak (a7 n)) y.1 y.2.1 y.2.2=(ab b e (ak (a7 n)) ⟨k,g,q,z,[],[],[],us,pp⟩ s),fun _=>[],fun y=>[(900,.box (.st .par y.2.2)),(901,.box (.agg [.int .i64 (y.2.1).kind,.str (y.2.1).pkg,.str (y.2.1).name,.int .i64 (y.2.1).n,.lst .str (y.2.1).names (some 701),.lst .str (y.2.1).vars (some 702),.lst (.st .shape) (y.2.1).shapes (some 703),.lst (.st .term) (y.2.1).parts (some 905),.int .i64 (y.2.1).pos])),(701,.tail .str y.2.1.names.length),(702,.tail .str y.2.1.vars.length),(703,.tail (.st .shape) y.2.1.shapes.length),(905,.tail (.st .term) y.2.1.parts.length)],fun y=>y.1⟩)],[],[]⟩ func60 (Ks n k pp z g q us b e s hi hn hu)
theorem IN(n:Nat)(hC:ae prog 64 (Hs 57 56 fun x s mn mv ms mp=>⟨some (a8 s/\s.err=0/\rem s<=n/\mn=x.names.length/\mv=x.vars.length/\ms=x.shapes.length/\mp=x.parts.length/\mn+mv+ms+mp<=90000),none,.tup [],[(900,.box (.agg [.int .i64 ((ak (a7 n) x s).1).kind,.str ((ak (a7 n) x s).1).pkg,.str ((ak (a7 n) x s).1).name,.int .i64 ((ak (a7 n) x s).1).n,.lst .str ((ak (a7 n) x s).1).names (some 904),.lst .str ((ak (a7 n) x s).1).vars (some 905),.lst (.st .shape) ((ak (a7 n) x s).1).shapes (some 906),.lst (.st .term) ((ak (a7 n) x s).1).parts (some 907),.int .i64 ((ak (a7 n) x s).1).pos])),(901,.box (.ptr 908 0)),(902,.box (.fn 57 [.ptr 901 0,.ptr 900 0])),(903,.box (.fn 56 [.ptr 900 0,.ptr 901 0])),(904,.tail .str (ak (a7 n) x s).1.names.length),(905,.tail .str (ak (a7 n) x s).1.vars.length),(906,.tail (.st .shape) (ak (a7 n) x s).1.shapes.length),(907,.tail (.st .term) (ak (a7 n) x s).1.parts.length),(908,.box (.st .par (ak (a7 n) x s).2))]⟩)):ae prog 60 (Dw 64 57 56 fun x b e s mp=>⟨some (a8 s/\rem s<=n/\mp=x.parts.length/\mp<=1),none,.tup [],[(900,.box (.st .par (ab b e (ak (a7 n)) x s).2)),(901,.box (.agg [.int .i64 ((ab b e (ak (a7 n)) x s).1).kind,.str ((ab b e (ak (a7 n)) x s).1).pkg,.str ((ab b e (ak (a7 n)) x s).1).name,.int .i64 ((ab b e (ak (a7 n)) x s).1).n,.lst .str ((ab b e (ak (a7 n)) x s).1).names (some 701),.lst .str ((ab b e (ak (a7 n)) x s).1).vars (some 702),.lst (.st .shape) ((ab b e (ak (a7 n)) x s).1).shapes (some 703),.lst (.st .term) ((ab b e (ak (a7 n)) x s).1).parts (some 905),.int .i64 ((ab b e (ak (a7 n)) x s).1).pos])),(902,.box (.ptr 900 0)),(903,.box (.fn 57 [.ptr 902 0,.ptr 901 0])),(904,.box (.fn 56 [.ptr 901 0,.ptr 902 0])),(701,.tail .str (ab b e (ak (a7 n)) x s).1.names.length),(702,.tail .str (ab b e (ak (a7 n)) x s).1.vars.length),(703,.tail (.st .shape) (ab b e (ak (a7 n)) x s).1.shapes.length),(905,.tail (.st .term) (ab b e (ak (a7 n)) x s).1.parts.length)]⟩):=
 Hu KF (fun _ _ _ _ _=>rfl) (fun _ _ _ _ _=>by simp[au]) fun x b e s mp zn zv zs ho=>by obtain⟨k,g,q,z,ns,vs,ss,us,pp⟩:=x;simp only at zn zv zs;obtain⟨q1,q2,e1,ql⟩:=ho _ rfl;subst zn zv zs e1;exact Cg n k pp z g q us b e s q1 q2 ql hC
theorem IP:aw prog 60:=ee func60
theorem zP(n:Nat)(k pp z:Int)(g q:Str)(b e:Str)(s:Par)(hi:a8 s)(hn:rem s<n)(hC:ae prog 56 (ML n)):ax prog 60 [.ptr 900 0,.str b,.str e,.fn 56 [.ptr 901 0,.ptr 902 0]] (Hv 56 (⟨k,g,q,z,[],[],[],[],pp⟩:Trm) (.st .par s)) (⟨some (a8 s/\rem s<n),none,.tup [],[(900,.box (.st .par (ab b e (aA (a7 n)) ⟨k,g,q,z,[],[],[],[],pp⟩ s).2)),(901,.box (.agg [.int .i64 ((ab b e (aA (a7 n)) ⟨k,g,q,z,[],[],[],[],pp⟩ s).1).kind,.str ((ab b e (aA (a7 n)) ⟨k,g,q,z,[],[],[],[],pp⟩ s).1).pkg,.str ((ab b e (aA (a7 n)) ⟨k,g,q,z,[],[],[],[],pp⟩ s).1).name,.int .i64 ((ab b e (aA (a7 n)) ⟨k,g,q,z,[],[],[],[],pp⟩ s).1).n,.nils,.nils,.nils,.lst (.st .term) ((ab b e (aA (a7 n)) ⟨k,g,q,z,[],[],[],[],pp⟩ s).1).parts (some 701),.int .i64 ((ab b e (aA (a7 n)) ⟨k,g,q,z,[],[],[],[],pp⟩ s).1).pos])),(902,.box (.ptr 900 0)),(701,.tail (.st .term) (ab b e (aA (a7 n)) ⟨k,g,q,z,[],[],[],[],pp⟩ s).1.parts.length)]⟩):=
 g0 (sc fJ (sc dL (sc dj (sc (hC) sn)))) ⟨[(1,fun S0=>⟨Nat×Trm×Par,fun y=>a8 y.2.2/\rem y.2.2<y.1/\rem y.2.2<n/\y.2.1.parts.length+y.1<=5000/\y.2.1.names=[]/\y.2.1.vars=[]/\y.2.1.shapes=[]/\aV b e (aA (a7 n)) y.1 y.2.1 y.2.2=(ab b e (aA (a7 n)) ⟨k,g,q,z,[],[],[],[],pp⟩ s),fun _=>[],fun y=>[(900,.box (.st .par y.2.2)),(901,.box (.agg [.int .i64 (y.2.1).kind,.str (y.2.1).pkg,.str (y.2.1).name,.int .i64 (y.2.1).n,.nils,.nils,.nils,.lst (.st .term) (y.2.1).parts (some 701),.int .i64 (y.2.1).pos])),(701,.tail (.st .term) y.2.1.parts.length)],fun y=>y.1⟩)],[],[]⟩ func60 (Iq n k pp z g q b e s hi hn)
def MX(n:Nat):=sD 56 fun x b e s=>⟨some (a8 s/\rem s<n),none,.tup [],[(900,.box (.st .par (ab b e (aA (a7 n)) x s).2)),(901,.box (.agg [.int .i64 ((ab b e (aA (a7 n)) x s).1).kind,.str ((ab b e (aA (a7 n)) x s).1).pkg,.str ((ab b e (aA (a7 n)) x s).1).name,.int .i64 ((ab b e (aA (a7 n)) x s).1).n,.nils,.nils,.nils,.lst (.st .term) ((ab b e (aA (a7 n)) x s).1).parts (some 701),.int .i64 ((ab b e (aA (a7 n)) x s).1).pos])),(902,.box (.ptr 900 0)),(701,.tail (.st .term) (ab b e (aA (a7 n)) x s).1.parts.length)]⟩
theorem FC(n:Nat)(hC:ae prog 56 (ML n)):ae prog 60 (MX n):=
 yJ IP (fun _ _ _ _=>rfl) (fun _ _ _ _=>by simp[au]) fun x b e s zn zv zs zp ho=>by obtain⟨k,g,q,z,ns,vs,ss,us,pp⟩:=x;simp only at zn zv zs zp;obtain⟨q1,q2⟩:=ho _ rfl;subst zn zv zs zp;exact zP n k pp z g q b e s q1 q2 hC
theorem FD:aw prog 60:=ee func60
theorem xn(n:Nat)(k pp z:Int)(g q:Str)(b e:Str)(s:Par)(hi:a8 s)(hn:rem s<=n)(hC:ae prog 165 (MP n)):ax prog 60 [.ptr 900 0,.str b,.str e,.fn 165 [.ptr 901 0,.ptr 902 0]] (Hv 165 (⟨k,g,q,z,[],[],[],[],pp⟩:Trm) (.st .par s)) (⟨some (a8 s/\rem s<=n),none,.tup [],[(900,.box (.st .par (ab b e (ai (a7 n)) ⟨k,g,q,z,[],[],[],[],pp⟩ s).2)),(901,.box (.agg [.int .i64 ((ab b e (ai (a7 n)) ⟨k,g,q,z,[],[],[],[],pp⟩ s).1).kind,.str ((ab b e (ai (a7 n)) ⟨k,g,q,z,[],[],[],[],pp⟩ s).1).pkg,.str ((ab b e (ai (a7 n)) ⟨k,g,q,z,[],[],[],[],pp⟩ s).1).name,.int .i64 ((ab b e (ai (a7 n)) ⟨k,g,q,z,[],[],[],[],pp⟩ s).1).n,.lst .str ((ab b e (ai (a7 n)) ⟨k,g,q,z,[],[],[],[],pp⟩ s).1).names (some 701),.nils,.nils,.lst (.st .term) ((ab b e (ai (a7 n)) ⟨k,g,q,z,[],[],[],[],pp⟩ s).1).parts (some 702),.int .i64 ((ab b e (ai (a7 n)) ⟨k,g,q,z,[],[],[],[],pp⟩ s).1).pos])),(902,.box (.ptr 900 0)),(701,.tail .str (ab b e (ai (a7 n)) ⟨k,g,q,z,[],[],[],[],pp⟩ s).1.names.length),(702,.tail (.st .term) (ab b e (ai (a7 n)) ⟨k,g,q,z,[],[],[],[],pp⟩ s).1.parts.length)]⟩):=
 g0 (sc fJ (sc dL (sc dj (sc (hC) sn)))) ⟨[(1,fun S0=>⟨Nat×Trm×Par,fun y=>a8 y.2.2/\rem y.2.2<y.1/\rem y.2.2<=n/\y.2.1.names.length+y.1<=5000/\y.2.1.parts.length+y.1<=5000/\y.2.1.vars=[]/\y.2.1.shapes=[]/\aV b e (ai (a7 n)) y.1 y.2.1 y.2.2=(ab b e (ai (a7 n)) ⟨k,g,q,z,[],[],[],[],pp⟩ s),fun _=>[],fun y=>[(900,.box (.st .par y.2.2)),(901,.box (.agg [.int .i64 (y.2.1).kind,.str (y.2.1).pkg,.str (y.2.1).name,.int .i64 (y.2.1).n,.lst .str (y.2.1).names (some 701),.nils,.nils,.lst (.st .term) (y.2.1).parts (some 702),.int .i64 (y.2.1).pos])),(701,.tail .str y.2.1.names.length),(702,.tail (.st .term) y.2.1.parts.length)],fun y=>y.1⟩)],[],[]⟩ func60 (F1 n k pp z g q b e s hi hn)
def MO(n:Nat):=sD 165 fun x b e s=>⟨some (a8 s/\rem s<=n),none,.tup [],[(900,.box (.st .par (ab b e (ai (a7 n)) x s).2)),(901,.box (.agg [.int .i64 ((ab b e (ai (a7 n)) x s).1).kind,.str ((ab b e (ai (a7 n)) x s).1).pkg,.str ((ab b e (ai (a7 n)) x s).1).name,.int .i64 ((ab b e (ai (a7 n)) x s).1).n,.lst .str ((ab b e (ai (a7 n)) x s).1).names (some 701),.nils,.nils,.lst (.st .term) ((ab b e (ai (a7 n)) x s).1).parts (some 702),.int .i64 ((ab b e (ai (a7 n)) x s).1).pos])),(902,.box (.ptr 900 0)),(701,.tail .str (ab b e (ai (a7 n)) x s).1.names.length),(702,.tail (.st .term) (ab b e (ai (a7 n)) x s).1.parts.length)]⟩
theorem Ch(n:Nat)(hC:ae prog 165 (MP n)):ae prog 60 (MO n):=
 yJ FD (fun _ _ _ _=>rfl) (fun _ _ _ _=>by simp[au]) fun x b e s zn zv zs zp ho=>by obtain⟨k,g,q,z,ns,vs,ss,us,pp⟩:=x;simp only at zn zv zs zp;obtain⟨q1,q2⟩:=ho _ rfl;subst zn zv zs zp;exact xn n k pp z g q b e s q1 q2 hC
theorem IQ:aw prog 60:=ee func60
theorem zQ(n:Nat)(k pp z:Int)(g q:Str)(us:List Trm)(b e:Str)(s:Par)(hi:a8 s)(hn:rem s<n)(hu:us.length<=1)(hC:ae prog 118 (ML n)):ax prog 60 [.ptr 900 0,.str b,.str e,.fn 118 [.ptr 901 0,.ptr 902 0]] (Hw 118 (⟨k,g,q,z,[],[],[],us,pp⟩:Trm) (.st .par s) us.length) (⟨some (a8 s/\rem s<n/\us.length=us.length/\us.length<=1),none,.tup [],[(900,.box (.st .par (ab b e (aA (a7 n)) ⟨k,g,q,z,[],[],[],us,pp⟩ s).2)),(901,.box (.agg [.int .i64 ((ab b e (aA (a7 n)) ⟨k,g,q,z,[],[],[],us,pp⟩ s).1).kind,.str ((ab b e (aA (a7 n)) ⟨k,g,q,z,[],[],[],us,pp⟩ s).1).pkg,.str ((ab b e (aA (a7 n)) ⟨k,g,q,z,[],[],[],us,pp⟩ s).1).name,.int .i64 ((ab b e (aA (a7 n)) ⟨k,g,q,z,[],[],[],us,pp⟩ s).1).n,.nils,.nils,.nils,.lst (.st .term) ((ab b e (aA (a7 n)) ⟨k,g,q,z,[],[],[],us,pp⟩ s).1).parts (some 903),.int .i64 ((ab b e (aA (a7 n)) ⟨k,g,q,z,[],[],[],us,pp⟩ s).1).pos])),(902,.box (.ptr 900 0)),(903,.tail (.st .term) (ab b e (aA (a7 n)) ⟨k,g,q,z,[],[],[],us,pp⟩ s).1.parts.length)]⟩):=
 g0 (sc fJ (sc dL (sc dj (sc (hC) sn)))) ⟨[(1,fun S0=>⟨Nat×Trm×Par,fun y=>a8 y.2.2/\rem y.2.2<y.1/\rem y.2.2<n/\y.2.1.parts.length+y.1<=5000/\y.2.1.names=[]/\y.2.1.vars=[]/\y.2.1.shapes=[]/\aV b e (aA (a7 n)) y.1 y.2.1 y.2.2=(ab b e (aA (a7 n)) ⟨k,g,q,z,[],[],[],us,pp⟩ s),fun _=>[],fun y=>[(900,.box (.st .par y.2.2)),(901,.box (.agg [.int .i64 (y.2.1).kind,.str (y.2.1).pkg,.str (y.2.1).name,.int .i64 (y.2.1).n,.nils,.nils,.nils,.lst (.st .term) (y.2.1).parts (some 903),.int .i64 (y.2.1).pos])),(903,.tail (.st .term) y.2.1.parts.length)],fun y=>y.1⟩)],[],[]⟩ func60 (Ir n k pp z g q us b e s hi hn hu)
def MQ(n:Nat):=sE 118 fun x b e s mp=>⟨some (a8 s/\rem s<n/\mp=x.parts.length/\mp<=1),none,.tup [],[(900,.box (.st .par (ab b e (aA (a7 n)) x s).2)),(901,.box (.agg [.int .i64 ((ab b e (aA (a7 n)) x s).1).kind,.str ((ab b e (aA (a7 n)) x s).1).pkg,.str ((ab b e (aA (a7 n)) x s).1).name,.int .i64 ((ab b e (aA (a7 n)) x s).1).n,.nils,.nils,.nils,.lst (.st .term) ((ab b e (aA (a7 n)) x s).1).parts (some 903),.int .i64 ((ab b e (aA (a7 n)) x s).1).pos])),(902,.box (.ptr 900 0)),(903,.tail (.st .term) (ab b e (aA (a7 n)) x s).1.parts.length)]⟩
theorem FE(n:Nat)(hC:ae prog 118 (ML n)):ae prog 60 (MQ n):=
 Ew IQ (fun _ _ _ _ _=>rfl) (fun _ _ _ _ _=>by simp[au]) fun x b e s mp zn zv zs ho=>by obtain⟨k,g,q,z,ns,vs,ss,us,pp⟩:=x;simp only at zn zv zs;obtain⟨q1,q2,e1,ql⟩:=ho _ rfl;subst zn zv zs e1;exact zQ n k pp z g q us b e s q1 q2 ql hC
theorem KG:aw prog 65:=ee func65
def N2(n:Nat):=pP0 fun s=>⟨some (a8 s/\rem s<n+1),none,.st .term (cE (a7 n) s).1,[(900,.box (.st .par (cE (a7 n) s).2))]⟩
theorem Ci(n:Nat)(s:Par) (ho:a8 s/\rem s<n+1)(hA:ae prog 117 (N2 n))(hL:ae prog 60 (MQ n)):ax prog 65 [.ptr 900 0] [(900,.box (.st .par s))] (⟨some (a8 s/\rem s<n+1),none,.st .term (fT (a7 n) s).1,[(900,.box (.st .par ((fT (a7 n) s).2)))]⟩):=
 g0 (sc gw (sc (hA) (sc dL (sc fJ (sc kJ (sc (hL) sn)))))) ⟨[(3,fun S0=>⟨Nat×Trm×Par,fun y=>a8 y.2.2/\rem y.2.2<y.1/\rem y.2.2<n+1/\dU (a7 n) (an s).pos y.1 y.2.1 y.2.2=fT (a7 n) s,fun _=>[],fun y=>[(900,.box (.st .par y.2.2)),(4,.box (.st .term y.2.1))],fun y=>y.1⟩)],[],[]⟩ func65 (Kt n s ho)
theorem IS(n:Nat)(hA:ae prog 117 (N2 n))(hL:ae prog 60 (MQ n)):ae prog 65 (pP0 fun s=>⟨some (a8 s/\rem s<n+1),none,.st .term (fT (a7 n) s).1,[(900,.box (.st .par ((fT (a7 n) s).2)))]⟩):=
 ji KG (fun _=>rfl) (fun _=>by simp[au]) fun s ho=>Ci n s (ho _ rfl) hA hL
theorem KH:aw prog 117:=ee func117
def MZ(n:Nat):=pP0 fun s=>⟨some (a8 s/\rem (aj [40] s)<n),none,.lst (.st .term) (cz (a7 n) s).1 none,[(900,.box (.st .par (cz (a7 n) s).2))]⟩
theorem Cj(n:Nat)(s:Par) (ho:a8 s/\rem s<n+1)(hT:ae prog 34 (MM n))(hL:ae prog 60 (MO n))(hI:ae prog 166 (MZ n)):ax prog 117 [.ptr 900 0] [(900,.box (.st .par s))] (⟨some (a8 s/\rem s<n+1),none,.st .term (cE (a7 n) s).1,[(900,.box (.st .par ((cE (a7 n) s).2)))]⟩):=
 g0 (sc gw (sc dL (sc (yW) (sc fJ (sc kJ (sc dj (sc kK (sc iu (sc (hT) (sc (hL) (sc (hI) sn))))))))))) a0 func117 (Ku n s ho)
theorem IT(n:Nat)(hT:ae prog 34 (MM n))(hL:ae prog 60 (MO n))(hI:ae prog 166 (MZ n)):ae prog 117 (pP0 fun s=>⟨some (a8 s/\rem s<n+1),none,.st .term (cE (a7 n) s).1,[(900,.box (.st .par ((cE (a7 n) s).2)))]⟩):=
 ji KH (fun _=>rfl) (fun _=>by simp[au]) fun s ho=>Cj n s (ho _ rfl) hT hL hI
theorem DH:aw prog 34:=ee func34
theorem Ck(n:Nat)(s:Par) (ho:a8 s/\rem s<n+1)(hPo:ae prog 56 (MY n))(hPp:ae prog 56 (ML n))(hPns:ae prog 56 (MV n))(hF:ae prog 60 (Dv 61 57 fun x b e s=>⟨some (a8 s/\rem s<=n),none,.tup [],[(900,.box (.st .par (ab b e (aC) x s).2)),(901,.box (.agg [.int .i64 ((ab b e (aC) x s).1).kind,.str ((ab b e (aC) x s).1).pkg,.str ((ab b e (aC) x s).1).name,.int .i64 ((ab b e (aC) x s).1).n,.lst .str ((ab b e (aC) x s).1).names (some 701),.nils,.lst (.st .shape) ((ab b e (aC) x s).1).shapes (some 702),.nils,.int .i64 ((ab b e (aC) x s).1).pos])),(902,.box (.ptr 900 0)),(903,.box (.fn 57 [.ptr 902 0,.ptr 901 0])),(701,.tail .str (ab b e (aC) x s).1.names.length),(702,.tail (.st .shape) (ab b e (aC) x s).1.shapes.length)]⟩))(hW:ae prog 60 (Dw 64 57 56 fun x b e s mp=>⟨some (a8 s/\rem s<=n/\mp=x.parts.length/\mp<=1),none,.tup [],[(900,.box (.st .par (ab b e (ak (a7 n)) x s).2)),(901,.box (.agg [.int .i64 ((ab b e (ak (a7 n)) x s).1).kind,.str ((ab b e (ak (a7 n)) x s).1).pkg,.str ((ab b e (ak (a7 n)) x s).1).name,.int .i64 ((ab b e (ak (a7 n)) x s).1).n,.lst .str ((ab b e (ak (a7 n)) x s).1).names (some 701),.lst .str ((ab b e (ak (a7 n)) x s).1).vars (some 702),.lst (.st .shape) ((ab b e (ak (a7 n)) x s).1).shapes (some 703),.lst (.st .term) ((ab b e (ak (a7 n)) x s).1).parts (some 905),.int .i64 ((ab b e (ak (a7 n)) x s).1).pos])),(902,.box (.ptr 900 0)),(903,.box (.fn 57 [.ptr 902 0,.ptr 901 0])),(904,.box (.fn 56 [.ptr 901 0,.ptr 902 0])),(701,.tail .str (ab b e (ak (a7 n)) x s).1.names.length),(702,.tail .str (ab b e (ak (a7 n)) x s).1.vars.length),(703,.tail (.st .shape) (ab b e (ak (a7 n)) x s).1.shapes.length),(905,.tail (.st .term) (ab b e (ak (a7 n)) x s).1.parts.length)]⟩))(hE:ae prog 60 (MX n))(hO:ae prog 65 (pP0 fun s=>⟨some (a8 s/\rem s<n+1),none,.st .term (fT (a7 n) s).1,[(900,.box (.st .par (fT (a7 n) s).2))]⟩)):ax prog 34 [.ptr 900 0] [(900,.box (.st .par s))] (⟨some (a8 s/\rem s<n+1),none,.st .term (a7 (n+1) s).1,[(900,.box (.st .par ((a7 (n+1) s).2)))]⟩):=
 g0 (sc gw (sc fJ (sc dj (sc kJ (sc Fy (sc pj (sc tF (sc (hPo) (sc (hPp) (sc (hPns) (sc (hF) (sc (hW) (sc (hE) (sc (hO) sn)))))))))))))) a0 func34 (Kv n s ho)
theorem zR:∀n:Nat,ae prog 34 (MM n)
 |0=>ji DH (fun _=>rfl) (fun _=>by simp[au]) fun s ho=>absurd (ho _ rfl).2 (OO _)
 |n+1=>by
  have hT:=zR n
  exact ji DH (fun _=>rfl) (fun _=>by simp[au]) fun s ho=>
   Ck n s (ho _ rfl) (Cc n hT) (tE n hT) (zM n hT) (IM n) (IN n (KD n (uN n hT))) (FC n (tE n hT))
    (IS n (IT n hT (Ch n (Fz n hT)) (FB n hT)) (FE n (Ce n hT)))
theorem vw:ae prog 28 (p2 (.lst (.st .token)) (.int .i64) fun l a=>⟨none,none,.ptr 10 0,[(10,.box (.st .par (aZ l a)))]⟩):=
 fB (ee func28) fun l a hl _ _=>g0 (sc iu sn) a0 func28 (Is l a hl)
theorem tG:ae prog 42 (p2 (.lst (.st .token)) (.int .i64) fun l a=>⟨some (0<=a/\a<(l.length:Int)),none,.st .fault (cM l a),[]⟩):=
 fB (ee func42) fun l a hl _ ho=>g0 sn a0 func42 (F2 l a hl (ho _ rfl))
theorem IU:ae prog 12 (p2 (.lst (.st .token)) (.int .i64) fun l a=>⟨some (qW l),none,.tup [.st .shape (eL l a).1,.int .i64 (eL l a).2.1,.st .fault (eL l a).2.2],[]⟩):=
 fB (ee func12) fun l a _ _ ho=>g0 (sc vw (sc dL (sc kK sn))) a0 func12 (Kw l a (ho _ rfl))
theorem vz:aw prog 66:=ee func66
theorem xo(n:Nat)(t:Trm)(m:Int)(hs:Wf (.st .term) t)(hz:szT t<=n+1)(h0:0<=m)(h1:m<=1000000)(hA:ae prog 66 (p2 (.st .term) (.int .i64) fun t m=>⟨some (szT t<=n/\0<=m/\m<=1000000),none,.tup [.int .i64 (countT t m).1,.int .i64 (countT t m).2],[]⟩)):ax prog 66 [.st .term t,.int .i64 m] [] (⟨some (szT t<=n+1/\0<=m/\m<=1000000),none,.tup [.int .i64 (countT t m).1,.int .i64 (countT t m).2],[]⟩):=
 g0 (sc (hA) sn) ⟨[(3,fun S0=>⟨Nat×Int×Int,fun y=>y.1<=t.parts.length/\1<=y.2.1/\y.2.1<=m+1/\0<=y.2.2/\y.2.2+1<=y.2.1/\countL (t.parts.drop y.1) m y.2.1 y.2.2=countL t.parts m 1 0,fun y=>[(6,.int .i64 y.2.1),(7,.int .i64 y.2.2),(15,.int .i64 y.1)],fun _=>[],fun y=>t.parts.length-y.1⟩)],[],[]⟩ func66 (F3 n t m hs hz h0 h1)
theorem tH:∀n:Nat,ae prog 66 (p2 (.st .term) (.int .i64) fun t m=>⟨some (szT t<=n/\0<=m/\m<=1000000),none,.tup [.int .i64 (countT t m).1,.int .i64 (countT t m).2],[]⟩)
 |0=>fB vz fun t m hs _ ho=>absurd (ho _ rfl).1 (by have:=jL t;omega)
 |n+1=>fB vz fun t m hs _ ho=>xo n t m hs (ho _ rfl).1 (ho _ rfl).2.1 (ho _ rfl).2.2 (tH n)
theorem zS:ae prog 214 (pcl .str 130 fun x=>⟨none,none,.bool (!aG x),[]⟩):=
 sF (ee func214) fun x _ ho=>g0 (sc mC sn) a0 func214 (BZ x)
theorem zT:ae prog 244 (pfc (.lst .str) 214 130 fun l=>⟨none,none,.int .i64 (bu aG l 0),[]⟩):=
 jV (ee func244) fun l hl ho=>g0 (sc zS sn) ⟨[(2,fun S0=>⟨Nat,fun k=>k<=l.length/\bu aG (l.drop k) k=bu aG l 0,fun k=>[(8,.int .i64 k)],fun _=>[],fun k=>l.length-k⟩)],[],[]⟩ func244 (C0 l hl)
theorem zU:ae prog 213 (pfc (.lst .str) 214 130 fun l=>⟨none,none,.bool (!l.all aG),[]⟩):=
 jV (ee func213) fun l _ ho=>g0 (sc zT sn) a0 func213 (C1 l)
theorem vA:ae prog 172 (pf (.lst .str) 130 fun l=>⟨none,none,.bool (l.all aG),[]⟩):=
 oN (ee func172) fun l _ ho=>g0 (sc zU sn) a0 func172 (It l)
theorem FF:ae prog 171 (p1 (.lst .str) fun l=>⟨some (l.length *16<=140737488355328),none,.bool (l.all aG&&decide l.Nodup),[]⟩):=
 bX (ee func171) fun l _ ho=>g0 (sc tC (sc (sT) (sc vA (sc (qM) sn)))) a0 func171 (Iu l (ho _ rfl))
theorem Cm:aw prog 210:=ee func210
theorem uO(n:Nat)(x:Shape) (ho:sz x<=n)(hA:ae prog 211 (p1 (.st .shape) fun s=>⟨some (sz s<=n),none,.bool (allS bn s),[]⟩)):ax prog 210 [.st .shape x,.ptr 900 0] [(900,.box (.fn 211 []))] (⟨some (sz x<=n),none,.bool (!(allS bn) x),[]⟩):=
 g0 (sc (hA) sn) a0 func210 (C2 n x ho)
theorem zW(n:Nat)(hA:ae prog 211 (p1 (.st .shape) fun s=>⟨some (sz s<=n),none,.bool (allS bn s),[]⟩)):ae prog 210 (pcl (.st .shape) 211 fun x=>⟨some (sz x<=n),none,.bool (!(allS bn) x),[]⟩):=
 sF Cm fun x _ ho=>uO n x (ho _ rfl) hA
theorem Cn:aw prog 242:=ee func242
theorem uP(n:Nat)(l:List AL.Shape) (hl:Wf (.lst (.st .shape)) l)(ho:∀x∈l,sz x<=n)(hA:ae prog 211 (p1 (.st .shape) fun s=>⟨some (sz s<=n),none,.bool (allS bn s),[]⟩)):ax prog 242 [.lst (.st .shape) l none,.fn 210 [.ptr 900 0]] [(900,.box (.fn 211 []))] (⟨some (∀x∈l,sz x<=n),none,.int .i64 (bu (allS bn) l 0),[]⟩):=
 g0 (sc ((zW n hA)) sn) ⟨[(2,fun S0=>⟨Nat,fun k=>k<=l.length/\bu (allS bn) (l.drop k) k=bu (allS bn) l 0,fun k=>[(8,.int .i64 k)],fun _=>[],fun k=>l.length-k⟩)],[],[]⟩ func242 (C3 n l hl ho)
theorem zX(n:Nat)(hA:ae prog 211 (p1 (.st .shape) fun s=>⟨some (sz s<=n),none,.bool (allS bn s),[]⟩)):ae prog 242 (pfc (.lst (.st .shape)) 210 211 fun l=>⟨some (∀x∈l,sz x<=n),none,.int .i64 (bu (allS bn) l 0),[]⟩):=
 jV Cn fun l hl ho=>uP n l hl (ho _ rfl) hA
theorem Co:aw prog 209:=ee func209
theorem uQ(n:Nat)(l:List AL.Shape) (ho:∀x∈l,sz x<=n)(hA:ae prog 211 (p1 (.st .shape) fun s=>⟨some (sz s<=n),none,.bool (allS bn s),[]⟩)):ax prog 209 [.lst (.st .shape) l none,.fn 210 [.ptr 900 0]] [(900,.box (.fn 211 []))] (⟨some (∀x∈l,sz x<=n),none,.bool (!l.all (allS bn)),[]⟩):=
 g0 (sc ((zX n hA)) sn) a0 func209 (C4 n l ho)
theorem zY(n:Nat)(hA:ae prog 211 (p1 (.st .shape) fun s=>⟨some (sz s<=n),none,.bool (allS bn s),[]⟩)):ae prog 209 (pfc (.lst (.st .shape)) 210 211 fun l=>⟨some (∀x∈l,sz x<=n),none,.bool (!l.all (allS bn)),[]⟩):=
 jV Co fun l _ ho=>uQ n l (ho _ rfl) hA
theorem IV:aw prog 168:=ee func168
theorem zZ(n:Nat)(l:List AL.Shape) (ho:∀x∈l,sz x<=n)(hA:ae prog 211 (p1 (.st .shape) fun s=>⟨some (sz s<=n),none,.bool (allS bn s),[]⟩)):ax prog 168 [.lst (.st .shape) l none,.fn 211 []] [] (⟨some (∀x∈l,sz x<=n),none,.bool (l.all (allS bn)),[]⟩):=
 g0 (sc ((zY n hA)) sn) a0 func168 (Iv n l ho)
theorem FH(n:Nat)(hA:ae prog 211 (p1 (.st .shape) fun s=>⟨some (sz s<=n),none,.bool (allS bn s),[]⟩)):ae prog 168 (pf (.lst (.st .shape)) 211 fun l=>⟨some (∀x∈l,sz x<=n),none,.bool (l.all (allS bn)),[]⟩):=
 oN IV fun l _ ho=>zZ n l (ho _ rfl) hA
theorem DI:aw prog 211:=ee func211
theorem Cp(n:Nat)(s:AL.Shape)(ho:sz s<=n+1)(hE:ae prog 168 (pf (.lst (.st .shape)) 211 fun l=>⟨some (∀x∈l,sz x<=n),none,.bool (l.all (allS bn)),[]⟩)):ax prog 211 [.st .shape s] [] (⟨some (sz s<=n+1),none,.bool (allS bn s),[]⟩):=
 g0 (sc (hE) sn) a0 func211 (Kx n s ho)
theorem Aa:∀n:Nat,ae prog 211 (p1 (.st .shape) fun s=>⟨some (sz s<=n),none,.bool (allS bn s),[]⟩)
 |0=>bX DI fun s _ ho=>absurd (ho _ rfl) (by have:=gj s;omega)
 |n+1=>bX DI fun s _ ho=>Cp n s (ho _ rfl) (FH n (Aa n))
theorem Cq:ae prog 169 (p1 (.st .shape) fun s=>.ret (.bool (decide (bz s=0)&&allS bn s))):=
 bX (ee func169) fun s _ _=>g0 (sc qh (sc (Aa 400) sn)) a0 func169 (F4 s)
theorem KI:ae prog 167 (p1 (.st .term) fun t=>.ret (.agg [.int .i64 (t.names.length:Int),.int .i64 (t.vars.length:Int),.int .i64 (t.shapes.length:Int),.int .i64 (t.parts.length:Int)])):=
 bX (ee func167) fun t _ _=>g0 sn a0 func167 (LS t)
theorem FI:ae prog 170 (p1 .str fun s=>.ret (.bool (di s))):=
 bX (ee func170) fun s hs _=>g0 (sc (EF) sn) ⟨[(2,fun S0=>⟨Nat,fun k=>k<=s.length/\(s.all fU)=(s.drop k).all fU,fun k=>[(8,.int .i64 k)],fun _=>[],fun k=>s.length-k⟩)],[],[]⟩ func170 (Iw s hs)
theorem xp:ae prog 210 (pcl (.st .shape) 169 fun x=>⟨none,none,.bool (!aS x),[]⟩):=
 sF (ee func210) fun x _ ho=>g0 (sc Cq sn) a0 func210 (zt x)
theorem xq:ae prog 242 (pfc (.lst (.st .shape)) 210 169 fun l=>⟨none,none,.int .i64 (bu aS l 0),[]⟩):=
 jV (ee func242) fun l hl ho=>g0 (sc xp sn) ⟨[(2,fun S0=>⟨Nat,fun k=>k<=l.length/\bu aS (l.drop k) k=bu aS l 0,fun k=>[(8,.int .i64 k)],fun _=>[],fun k=>l.length-k⟩)],[],[]⟩ func242 (zu l hl)
theorem xr:ae prog 209 (pfc (.lst (.st .shape)) 210 169 fun l=>⟨none,none,.bool (!l.all aS),[]⟩):=
 jV (ee func209) fun l _ ho=>g0 (sc xq sn) a0 func209 (zw l)
theorem Cr:ae prog 168 (pf (.lst (.st .shape)) 169 fun l=>⟨none,none,.bool (l.all aS),[]⟩):=
 oN (ee func168) fun l _ ho=>g0 (sc xr sn) a0 func168 (F5 l)
theorem FJ:ae prog 119 (p1 (.st .term) fun t=>⟨some (t.names.length<=1000000),none,.bool (aJ t),[]⟩):=
 bX (ee func119) fun t ht ho=>g0 (sc KI (sc Cr (sc FI (sc mC (sc FF (sc vA (sc qg sn))))))) ⟨[],[],[(2,fun S0=>⟨[(34,.bool (!jt t))],[]⟩)]⟩ func119 (Ix t ht (ho _ rfl))
theorem Ab:aw prog 100:=ee func100
theorem tI(n:Nat)(x:Trm) (ho:szT x<=n/\bP x=true)(hA:ae prog 67 (p1 (.st .term) fun t=>⟨some (szT t<=n/\bP t=true),none,.bool (allT aJ t),[]⟩)):ax prog 100 [.st .term x,.ptr 900 0] [(900,.box (.fn 67 []))] (⟨some (szT x<=n/\bP x=true),none,.bool (!(allT aJ) x),[]⟩):=
 g0 (sc (hA) sn) a0 func100 (zx n x ho)
theorem xt(n:Nat)(hA:ae prog 67 (p1 (.st .term) fun t=>⟨some (szT t<=n/\bP t=true),none,.bool (allT aJ t),[]⟩)):ae prog 100 (pcl (.st .term) 67 fun x=>⟨some (szT x<=n/\bP x=true),none,.bool (!(allT aJ) x),[]⟩):=
 sF Ab fun x _ ho=>tI n x (ho _ rfl) hA
theorem Ac:aw prog 161:=ee func161
theorem tJ(n:Nat)(l:List Trm) (hl:Wf (.lst (.st .term)) l)(ho:∀x∈l,szT x<=n/\bP x=true)(hA:ae prog 67 (p1 (.st .term) fun t=>⟨some (szT t<=n/\bP t=true),none,.bool (allT aJ t),[]⟩)):ax prog 161 [.lst (.st .term) l none,.fn 100 [.ptr 900 0]] [(900,.box (.fn 67 []))] (⟨some (∀x∈l,szT x<=n/\bP x=true),none,.int .i64 (bu (allT aJ) l 0),[]⟩):=
 g0 (sc ((xt n hA)) sn) ⟨[(2,fun S0=>⟨Nat,fun k=>k<=l.length/\bu (allT aJ) (l.drop k) k=bu (allT aJ) l 0,fun k=>[(8,.int .i64 k)],fun _=>[],fun k=>l.length-k⟩)],[],[]⟩ func161 (zy n l hl ho)
theorem xu(n:Nat)(hA:ae prog 67 (p1 (.st .term) fun t=>⟨some (szT t<=n/\bP t=true),none,.bool (allT aJ t),[]⟩)):ae prog 161 (pfc (.lst (.st .term)) 100 67 fun l=>⟨some (∀x∈l,szT x<=n/\bP x=true),none,.int .i64 (bu (allT aJ) l 0),[]⟩):=
 jV Ac fun l hl ho=>tJ n l hl (ho _ rfl) hA
theorem Ad:aw prog 99:=ee func99
theorem tK(n:Nat)(l:List Trm) (ho:∀x∈l,szT x<=n/\bP x=true)(hA:ae prog 67 (p1 (.st .term) fun t=>⟨some (szT t<=n/\bP t=true),none,.bool (allT aJ t),[]⟩)):ax prog 99 [.lst (.st .term) l none,.fn 100 [.ptr 900 0]] [(900,.box (.fn 67 []))] (⟨some (∀x∈l,szT x<=n/\bP x=true),none,.bool (!l.all (allT aJ)),[]⟩):=
 g0 (sc ((xu n hA)) sn) a0 func99 (zA n l ho)
theorem xw(n:Nat)(hA:ae prog 67 (p1 (.st .term) fun t=>⟨some (szT t<=n/\bP t=true),none,.bool (allT aJ t),[]⟩)):ae prog 99 (pfc (.lst (.st .term)) 100 67 fun l=>⟨some (∀x∈l,szT x<=n/\bP x=true),none,.bool (!l.all (allT aJ)),[]⟩):=
 jV Ad fun l _ ho=>tK n l (ho _ rfl) hA
theorem FK:aw prog 49:=ee func49
theorem xx(n:Nat)(l:List Trm) (ho:∀x∈l,szT x<=n/\bP x=true)(hA:ae prog 67 (p1 (.st .term) fun t=>⟨some (szT t<=n/\bP t=true),none,.bool (allT aJ t),[]⟩)):ax prog 49 [.lst (.st .term) l none,.fn 67 []] [] (⟨some (∀x∈l,szT x<=n/\bP x=true),none,.bool (l.all (allT aJ)),[]⟩):=
 g0 (sc ((xw n hA)) sn) a0 func49 (F6 n l ho)
theorem Cs(n:Nat)(hA:ae prog 67 (p1 (.st .term) fun t=>⟨some (szT t<=n/\bP t=true),none,.bool (allT aJ t),[]⟩)):ae prog 49 (pf (.lst (.st .term)) 67 fun l=>⟨some (∀x∈l,szT x<=n/\bP x=true),none,.bool (l.all (allT aJ)),[]⟩):=
 oN FK fun l _ ho=>xx n l (ho _ rfl) hA
theorem vB:aw prog 67:=ee func67
theorem xy(n:Nat)(t:Trm)(ho:szT t<=n+1/\bP t=true)(hE:ae prog 49 (pf (.lst (.st .term)) 67 fun l=>⟨some (∀x∈l,szT x<=n/\bP x=true),none,.bool (l.all (allT aJ)),[]⟩)):ax prog 67 [.st .term t] [] (⟨some (szT t<=n+1/\bP t=true),none,.bool (allT aJ t),[]⟩):=
 g0 (sc FJ (sc (hE) sn)) a0 func67 (F7 n t ho)
theorem tL:∀n:Nat,ae prog 67 (p1 (.st .term) fun t=>⟨some (szT t<=n/\bP t=true),none,.bool (allT aJ t),[]⟩)
 |0=>bX vB fun t _ ho=>absurd (ho _ rfl).1 (by have:=jL t;omega)
 |n+1=>bX vB fun t _ ho=>xy n t (ho _ rfl) (Cs n (tL n))
theorem xz(x:Trm)(ho:bP x=true) :ax prog 35 [.st .term x] [] (⟨some (bP x=true),none,.int .i64 (b6 x),[]⟩):=
 g0 (sc (tH (szT x)) (sc (tL (szT x)) sn)) a0 func35 (F8 x ho)
theorem oc:ae prog 35 (p1 (.st .term) fun t=>⟨some (bP t=true),none,.int .i64 (b6 t),[]⟩):=
 bX (ee func35) fun t _ ho=>xz t (ho _ rfl)
theorem qi:ae prog 80 (pLn fun s p n k=>⟨some (s.length<=4096/\0<=p/\p<=(s.length:Int)/\0<=k/\k<=2),none,.int .u8 (bAt s (p+k)),[]⟩):=
 LC (ee func80) fun s p n k ho=>g0 sn a0 func80 (Iy s p n k (ho _ rfl))
theorem IW:ae prog 133 (p1 (.int .u8) fun c=>.ret (.bool (ck c))):=
 bX (ee func133) fun c _ _=>g0 (sc kH (sc kI (sc qf sn))) a0 func133 (Ky c)
theorem FL:ae prog 82 (p1 (.int .u8) fun c=>.ret (.bool (cG c))):=
 bX (ee func82) fun c _ _=>g0 sn a0 func82 (Iz c)
theorem Ct:ae prog 194 (p1 (.int .u8) fun c=>.ret (.bool (aH c))):=
 bX (ee func194) fun c _ _=>g0 sn a0 func194 (F9 c)
theorem Cu:ae prog 81 (pLf 128 fun s p n=>⟨some (s.length<=4096/\0<=p/\p<=(s.length:Int)),none,.str (cut s p (p+aq bB s p)),[(900,.box (.agg [.str s,.int .i64 (p+aq bB s p)]))]⟩):=
 wV (ee func81) fun s p n ho=>g0 (sc tA sn) ⟨[(2,fun S0=>⟨Nat,fun k=>p+k<=(s.length:Int)/\aq bB s p=k+aq bB s (p+k),fun _=>[],fun k=>[(900,.box (.agg [.str s,.int .i64 (p+(k:Int))]))],fun k=>s.length-k⟩)],[],[]⟩ func81 (Fa s p n (ho _ rfl))
theorem Cv:ae prog 81 (pLf 133 fun s p n=>⟨some (s.length<=4096/\0<=p/\p<=(s.length:Int)),none,.str (cut s p (p+aq ck s p)),[(900,.box (.agg [.str s,.int .i64 (p+aq ck s p)]))]⟩):=
 wV (ee func81) fun s p n ho=>g0 (sc IW sn) ⟨[(2,fun S0=>⟨Nat,fun k=>p+k<=(s.length:Int)/\aq ck s p=k+aq ck s (p+k),fun _=>[],fun k=>[(900,.box (.agg [.str s,.int .i64 (p+(k:Int))]))],fun k=>s.length-k⟩)],[],[]⟩ func81 (Fb s p n (ho _ rfl))
theorem Cw:ae prog 81 (pLf 82 fun s p n=>⟨some (s.length<=4096/\0<=p/\p<=(s.length:Int)),none,.str (cut s p (p+aq cG s p)),[(900,.box (.agg [.str s,.int .i64 (p+aq cG s p)]))]⟩):=
 wV (ee func81) fun s p n ho=>g0 (sc FL sn) ⟨[(2,fun S0=>⟨Nat,fun k=>p+k<=(s.length:Int)/\aq cG s p=k+aq cG s (p+k),fun _=>[],fun k=>[(900,.box (.agg [.str s,.int .i64 (p+(k:Int))]))],fun k=>s.length-k⟩)],[],[]⟩ func81 (Fc s p n (ho _ rfl))
theorem Cx:ae prog 81 (pLf 194 fun s p n=>⟨some (s.length<=4096/\0<=p/\p<=(s.length:Int)),none,.str (cut s p (p+aq aH s p)),[(900,.box (.agg [.str s,.int .i64 (p+aq aH s p)]))]⟩):=
 wV (ee func81) fun s p n ho=>g0 (sc Ct sn) ⟨[(2,fun S0=>⟨Nat,fun k=>p+k<=(s.length:Int)/\aq aH s p=k+aq aH s (p+k),fun _=>[],fun k=>[(900,.box (.agg [.str s,.int .i64 (p+(k:Int))]))],fun k=>s.length-k⟩)],[],[]⟩ func81 (Fe s p n (ho _ rfl))
theorem Cy:ae prog 123 (p1 .str fun s=>⟨some (s.length<=4096),none,.tup [.undef,.st .fault (wW s)],[]⟩):=
 bX (ee func123) fun s _ ho=>g0 (sc (sU) sn) ⟨[(3,fun S0=>⟨Nat×List Int,fun y=>y.1<=s.length/\y.2.length<=y.1/\bO s=jq s y.1,fun y=>[(4,.lst (.int .i64) y.2 (some 10)),(5,.int .i64 y.1)],fun y=>[(10,.tail (.int .i64) y.2.length)],fun y=>s.length-y.1⟩)],[],[]⟩ func123 (Ff s (ho _ rfl))
theorem qS:ae prog 191 (p1 .str fun s=>.ret (.bool (dn s))):=
 bX (ee func191) fun s _ _=>g0 (sc (yX) sn) a0 func191 (C5 s)
theorem FM:ae prog 223 (p1 .str fun s=>.ret (.bool (gA s))):=
 bX (ee func223) fun s hs _=>g0 (sc qS sn) ⟨[(4,fun S0=>⟨Nat,fun k=>k<=s.length/\(s.all fun c=>jC (bI c))=(s.drop k).all fun c=>jC (bI c),fun k=>[(22,.int .i64 k)],fun _=>[],fun k=>s.length-k⟩)],[],[]⟩ func223 (IA s hs)
theorem Cz:ae prog 192 (p1 (.st .version) fun v=>.ret (.int .i64 (ek v))):=
 bX (ee func192) fun v hv _=>g0 (sc (vk) (sc FM sn)) ⟨[(2,fun S0=>⟨Nat,fun k=>k<=3/\([v.major,v.minor,v.patch].take k).all qY=true,fun k=>[(15,.int .i64 k)],fun _=>[],fun k=>3-k⟩),(11,fun S0=>⟨Nat,fun k=>k<=(splitB 46 v.pre).length/\((splitB 46 v.pre).take k).all gA=true,fun k=>[(37,.int .i64 k)],fun _=>[],fun k=>(splitB 46 v.pre).length-k⟩)],[],[]⟩ func192 (Fg v hv)
theorem CA:ae prog 135 (p1 .str fun s=>⟨some (s.length<=4096),none,.tup [.st .version (er s).1,.int .i64 (er s).2],[]⟩):=
 bX (ee func135) fun s _ ho=>g0 (sc (K7) (sc (vk) (sc qS (sc (yW) (sc Cz sn))))) ⟨[(7,fun S0=>⟨Nat,fun k=>k<=3/\((splitB 46 (aU s)).take k).all fW=true,fun k=>[(34,.int .i64 k)],fun k=>[(8,.box (.row (.int .i64) (oY s k)))],fun k=>3-k⟩)],[],[]⟩ func135 (Fh s (ho _ rfl))
theorem qj:ae prog 124 (pC2 fun s c n e a=>⟨some (n=c.out.length),none,.bool false,[(900,.box (.agg [.str s,.int .i64 ((gq e a c).2).pos,.lst (.st .token) ((gq e a c).2).out (some 901),.int .i64 ((gq e a c).2).err,.int .i64 ((gq e a c).2).fat])),(901,.tail (.st .token) ((gq e a c).2).out.length)]⟩):=
 Hz (ee func124) fun s c n e a ho=>g0 sn a0 func124 (IB s c n e a (ho _ rfl))
theorem tM:ae prog 83 (pC2 fun s c n a b=>⟨some (n=c.out.length/\s.length<=4096/\0<=a/\a<=b/\b<=(s.length:Int)),none,.bool (iA s a b c).1,[(900,.box (.agg [.str s,.int .i64 ((iA s a b c).2).pos,.lst (.st .token) ((iA s a b c).2).out (some 901),.int .i64 ((iA s a b c).2).err,.int .i64 ((iA s a b c).2).fat])),(901,.tail (.st .token) ((iA s a b c).2).out.length)]⟩):=
 Hz (ee func83) fun s c n a b ho=>g0 (sc Cy (sc qj sn)) a0 func83 (Fi s c n a b (ho _ rfl))
theorem IX:ae prog 125 (pCt fun s c n k t fr=>⟨some (n=c.out.length/\(n+1) *32<=140737488355328),none,.bool true,[(902,.box (.agg [.str s,.int .i64 ((fE k t fr c).2).pos,.lst (.st .token) ((fE k t fr c).2).out (some 903),.int .i64 ((fE k t fr c).2).err,.int .i64 ((fE k t fr c).2).fat])),(903,.tail (.st .token) (n+1))]⟩):=
 LD (ee func125) fun s c n k t fr ho=>g0 sn a0 func125 (Kz s c n k t fr (ho _ rfl))
theorem Ae:ae prog 136 (pC0 fun s c n=>⟨some (n=c.out.length/\n<=4096/\s.length<=4096/\0<=c.pos/\c.pos<=(s.length:Int)/\c.pos<(s.length:Int)),none,.tup [.str (cn s c).1,.bool (cn s c).2.1],[(900,.box (.agg [.str s,.int .i64 ((cn s c).2.2).pos,.lst (.st .token) ((cn s c).2.2).out (some 901),.int .i64 ((cn s c).2.2).err,.int .i64 ((cn s c).2.2).fat])),(901,.tail (.st .token) ((cn s c).2.2).out.length)]⟩):=
 Hy (ee func136) fun s c n ho=>g1 nn (fun f=>if Nat.beq f 80||Nat.beq f 81 then[some 2]else[]) nn nn nn (sc qi (sc qj (sc (uF) (sc Cx (sc tM sn))))) ⟨[(4,fun S0=>⟨Nat×Str×SC,fun y=>y.2.2.out=c.out/\y.2.2.err=c.err/\y.2.2.fat=c.fat/\0<=y.2.2.pos/\y.2.2.pos<=(s.length:Int)/\(y.2.1.length:Int)<=y.2.2.pos/\(s.length:Int)<y.2.2.pos+(y.1:Int)/\cn s c=bW s c.pos y.1 y.2.1 y.2.2,fun y=>[(5,.lst (.int .u8) (b9 y.2.1) (some 701))],fun y=>[(900,.box (.agg [.str s,.int .i64 (y.2.2).pos,.lst (.st .token) (y.2.2).out (some 901),.int .i64 (y.2.2).err,.int .i64 (y.2.2).fat])),(701,.tail (.int .u8) (b9 y.2.1).length)],fun y=>y.1⟩)],[],[]⟩ func136 (C6 s c n (ho _ rfl))
theorem IY:ae prog 137 (p1 .str fun s=>.ret (.bool (lF s))):=
 bX (ee func137) fun s _ _=>g0 (sc (wY) sn) a0 func137 (KA s)
theorem CB:ae prog 84 (pC0 fun s c n=>⟨some (n=c.out.length/\n<=4096/\s.length<=4096/\0<=c.pos/\c.pos<=(s.length:Int)/\c.pos<(s.length:Int)),none,.bool (aP s c).1,[(900,.box (.agg [.str s,.int .i64 ((aP s c).2).pos,.lst (.st .token) ((aP s c).2).out (some 901),.int .i64 ((aP s c).2).err,.int .i64 ((aP s c).2).fat])),(901,.tail (.st .token) ((aP s c).2).out.length)]⟩):=
 Hy (ee func84) fun s c n ho=>g1 nn (fun f=>if Nat.beq f 80||Nat.beq f 81 then[some 2]else[]) nn nn (fun d=>Nat.beq d 21) (sc qi (sc kH (sc kI (sc Cu (sc zD (sc IX (sc mC (sc qg (sc qj (sc qf (sc Cv (sc (yX) (sc CA (sc Ae (sc IY sn))))))))))))))) ⟨[(24,fun S0=>⟨Nat,fun k=>k<=2/\(k<=1->ez s c.pos 2=false)/\(k=0->ez s c.pos 1=false),fun k=>[(12,.int .i64 k)],fun k=>[],fun k=>k⟩)],[],[]⟩ func84 (Fj s c n (ho _ rfl))
theorem Af:ae prog 41 (p1 .str fun s=>.ret (.tup [.lst (.st .token) (aN s).1 none,.st .fault (aN s).2])):=
 bX (ee func41) fun s hs _=>g1 nn (fun f=>if Nat.beq f 80||Nat.beq f 81 then[some 2]else[]) nn nn nn (sc qi (sc Cw (sc tM (sc CB sn)))) ⟨[(4,fun S0=>⟨Nat×SC,fun y=>(y.2.out.length:Int)<=y.2.pos/\(s.length:Int)<y.2.pos+(y.1:Int)/\0<=y.2.pos/\y.2.pos<=(s.length:Int)/\aN s=dE s y.1 y.2,fun y=>[],fun y=>[(14,.box (.agg [.str s,.int .i64 (y.2).pos,.lst (.st .token) (y.2).out (some 701),.int .i64 (y.2).err,.int .i64 (y.2).fat])),(701,.tail (.st .token) y.2.out.length)],fun y=>y.1⟩)],[],[]⟩ func41 (KB s hs)
theorem FN:ae prog 15 (p2 (.lst (.st .token)) (.int .i64) fun l a=>⟨some (qW l),none,.tup [.st .term (bA l a).1,.int .i64 (bA l a).2.1,.st .fault (bA l a).2.2],[]⟩):=
 fB (ee func15) fun l a hl _ ho=>g0 (sc vw (sc dL (sc gw (sc (zR 5000) (sc oc (sc iu sn)))))) a0 func15 (IC l a hl (ho _ rfl))
theorem pn:ae prog 18 (p1 .str fun s=>.ret (.tup [.st .shape (cX s).1,.st .fault (cX s).2])):=
 bX (ee func18) fun s _ _=>g0 (sc Af (sc IU (sc tG sn))) a0 func18 (zB s)
theorem pq:ae prog 20 (p1 .str fun s=>.ret (.tup [.st .term (bm s).1,.st .fault (bm s).2])):=
 bX (ee func20) fun s _ _=>g0 (sc Af (sc FN (sc tG sn))) a0 func20 (zC s)
end Go.AL.Seat
end
section
open Go Go.AL Go.Pd
namespace Go.AL.Seat
theorem FO(n:Nat)(a b:Shape)(ha:Wf (.st .shape) a)(hb:Wf (.st .shape) b)(hn:sz a<=n+1) :
  let A:=True/\false=eqS a b/\True;let B:=(↑(List.length a.names):Int);let C:=(↑(List.length b.names):Int);let D:=(↑(List.length a.parts):Int);let E:=(↑(List.length b.parts):Int);let F:=List.length a.names=List.length b.names;let G:=List.length a.parts=List.length b.parts;let H:=(0:Int);let I:=false=false/\a=a/\b=b/\True;let J:=a=a/\b=b/\I;let K:=(1:Int);let L:=a=a/\b=b/\false=false/\I;let M:=dfl (Ty.st SN.shape);if(!decide (a.kind=b.kind))=true then A else if(!decide (a.pkg=b.pkg))=true then A else if(!decide (a.name=b.name))=true then A else if(!decide (B=C))=true then A else if(!decide (D=E))=true then A else(∃(x:Nat),(x<=List.length a.names/\F/\G/\eqS a b=(decide (List.drop x a.names=List.drop x b.names)&&eqL a.parts b.parts))/\H=(↑x:Int)/\J)/\∀(x:Nat),let N:=(↑x:Int);x<=List.length a.names/\F/\G/\eqS a b=(decide (List.drop x a.names=List.drop x b.names)&&eqL a.parts b.parts)->if decide (N<B)=true then(H<=N/\N<B)/\(H<=N/\N<C)/\if(!decide (List.getD a.names (Int.toNat N) (dfl Ty.str)=List.getD b.names (Int.toNat N) (dfl Ty.str)))=true then A else inR IntKind.i64 (N+K)/\∃(y:Nat),(y<=List.length a.names/\F/\G/\eqS a b=(decide (List.drop y a.names=List.drop y b.names)&&eqL a.parts b.parts))/\List.length a.names-y<List.length a.names-x/\N+K=(↑y:Int)/\J else(∃(x_1:Nat),(x_1<=List.length a.parts/\G/\eqS a b=eqL (List.drop x_1 a.parts) (List.drop x_1 b.parts))/\H=(↑x_1:Int)/\N=N/\L)/\∀(x_1:Nat),let O:=(↑x_1:Int);let P:=List.getD a.parts (Int.toNat O) M;x_1<=List.length a.parts/\G/\eqS a b=eqL (List.drop x_1 a.parts) (List.drop x_1 b.parts)->if decide (O<D)=true then(H<=O/\O<D)/\(H<=O/\O<E)/\sz P<=n/\if(!eqS P (List.getD b.parts (Int.toNat O) M))=true then A else inR IntKind.i64 (O+K)/\∃(y:Nat),(y<=List.length a.parts/\G/\eqS a b=eqL (List.drop y a.parts) (List.drop y b.parts))/\List.length a.parts-y<List.length a.parts-x_1/\O+K=(↑y:Int)/\N=N/\L else True/\true=eqS a b/\True:=by
 conv=>zeta
 have lna:=ha.names.len;have lpa:=ha.parts.len;have hz:=ky a;have he:eqS a b=(decide (a.kind=b.kind)&&decide (a.pkg=b.pkg)&&decide (a.name=b.name)&&decide (a.names=b.names)&&eqL a.parts b.parts):=by cases a;cases b;rfl
 simp only[Nu,OG,NZ,NX];refine a6 (fun h=>?_) (fun h1=>a6 (fun h=>?_) (fun h2=>a6 (fun h=>?_) (fun h3=>a6 (fun h=>?_) (fun h4=>a6 (fun h=>?_) (fun h5=>?_)))))
 ·rw[he];simp only[Np]at h;rw[h];simp
 ·rw[he];simp only[Np]at h;rw[h];simp
 ·rw[he];simp only[Np]at h;rw[h];simp
 ·have:¬a.names=b.names:=by intro e;rw[e]at h;simp at h
  rw[he];simp[this]
 ·have:a.parts.length≠b.parts.length:=by intro e;rw[e]at h;simp at h
  rw[he,wL this];simp
 have l4:a.names.length=b.names.length:=by simp at h4;omega
 have l5:a.parts.length=b.parts.length:=by simp at h5;omega
 have he':eqS a b=(decide (a.names=b.names)&&eqL a.parts b.parts):=by rw[he];simp only[NO,Qc]at h1 h2 h3;rw[h1,h2,h3];simp
 refine⟨⟨0,⟨Nt _,l4,l5,by simpa using he'⟩,rfl⟩,?_⟩;rintro k ⟨k1,_,_,k4⟩;apply a6<;>intro h
 ·replace h:=Xo h;have hk:k<a.names.length:=by omega
  have hk':k<b.names.length:=by omega
  rw[b8 a.names k (dfl .str) hk,b8 b.names k (dfl .str) hk']at k4;refine⟨by omega,by omega,a6 (fun c=>?_) (fun c=>?_)⟩
  ·have c':¬a.names.getD k (dfl .str)=b.names.getD k (dfl .str):=by simpa using c
   rw[k4];have:¬(a.names.getD k (dfl .str)::a.names.drop (k+1)=b.names.getD k (dfl .str)::b.names.drop (k+1)):=fun e=>c' (List.cons.inj e).1;simp only[this,OA,NR]
  ·have c':a.names.getD k (dfl .str)=b.names.getD k (dfl .str):=by simpa using c
   refine⟨cO hk lna,k+1,⟨by omega,l4,l5,?_⟩,by omega,by omega⟩;rw[k4,c'];congr 1;rw[On];simp
 ·replace h:¬((k:Int)<(a.names.length:Int)):=fun e=>h (Xd e);have e:k=a.names.length:=by omega
  subst e;have k4':eqS a b=eqL a.parts b.parts:=by rw[k4,NJ,l4,NJ];simp
  refine⟨⟨0,⟨Nt _,l5,by simpa using k4'⟩,rfl⟩,?_⟩;rintro j ⟨j1,_,j3⟩;apply a6<;>intro h
  ·replace h:=Xo h;have hj:j<a.parts.length:=by omega
   have hj':j<b.parts.length:=by omega
   have hm:=gi (bT a.parts j (dfl (.st .shape)) hj);rw[b8 a.parts j (dfl (.st .shape)) hj,b8 b.parts j (dfl (.st .shape)) hj']at j3;simp only[eqL]at j3;refine⟨by omega,by omega,by omega,a6 (fun c=>?_) (fun c=>?_)⟩
   ·have c':eqS (a.parts.getD j (dfl (.st .shape))) (b.parts.getD j (dfl (.st .shape)))=false:=by simpa using c
    rw[j3,c'];rfl
   ·have c':eqS (a.parts.getD j (dfl (.st .shape))) (b.parts.getD j (dfl (.st .shape)))=true:=by simpa using c
    rw[c',O3]at j3;exact⟨cO hj lpa,j+1,⟨by omega,l5,j3⟩,by omega,by omega⟩
  ·replace h:¬((j:Int)<(a.parts.length:Int)):=fun e=>h (Xd e);have e:j=a.parts.length:=by omega
   subst e;rw[j3,NJ,l5,NJ];rfl
end Go.AL.Seat
end
section
open Go Go.AL Go.Proofs Go.Shelf Go.Pd
namespace Go.AL.Seat
open Go.Proofs.Tryz
variable [Tabs]
variable [SeatLaid]
theorem vC:aw prog 14:=ee func14
theorem xA(n:Nat)(a b:Shape)(ha:Wf (.st .shape) a)(hb:Wf (.st .shape) b)(hn:sz a<=n+1)(hA:ae prog 14 (p2 (.st .shape) (.st .shape) fun a b=>⟨some (sz a<=n),none,.bool (eqS a b),[]⟩)):ax prog 14 [.st .shape a,.st .shape b] [] (.ret (.bool (eqS a b))):=
 g0 (sc (hA) sn) ⟨[(4,fun S0=>⟨Nat,fun k=>k<=a.names.length/\a.names.length=b.names.length/\a.parts.length=b.parts.length/\eqS a b=(decide (a.names.drop k=b.names.drop k)&&eqL a.parts b.parts),fun k=>[(5,.int .i64 k)],fun _=>[],fun k=>a.names.length-k⟩),(9,fun S0=>⟨Nat,fun k=>k<=a.parts.length/\a.parts.length=b.parts.length/\eqS a b=eqL (a.parts.drop k) (b.parts.drop k),fun k=>[(6,.int .i64 k)],fun _=>[],fun k=>a.parts.length-k⟩)],[],[]⟩ func14 (FO n a b ha hb hn)
theorem CD:∀n:Nat,ae prog 14 (p2 (.st .shape) (.st .shape) fun a b=>⟨some (sz a<=n),none,.bool (eqS a b),[]⟩):=by
 intro n
 induction n with
 |zero=>exact fB vC fun a b _ _ ho=>absurd (ho _ rfl) (by have:=gj a;omega)
 |succ n ih=>exact fB vC fun a b ha hb ho=>xA n a b ha hb (ho _ rfl) ih
end Go.AL.Seat
end
section
open Go Go.AL Go.Pd
namespace Go.AL.Seat
theorem FQ(F:Str->Shape×Flt)(G:Str->Trm×Flt)  :
  let A:=(F ([40,73,110,116,44,32,91,75,101,121,93,41,32,45,62,32,123,97,58,32,113,47,73,100,125]:Str));let B:=(0:Int);let C:=(F ([123,97,58,32,73,110,116,44,32,97,58,32,73,110,116,125]:Str));let D:=(G ([102,46,97,40,49,41]:Str));let E:=(↑(List.length D.1.parts):Int);let H:=(1:Int);let I:=True/\false=tc F G/\True;if decide (A.2.err=B)=true then if decide (A.1.kind=(8:Int))=true then if decide ((↑(List.length A.1.parts):Int)=(3:Int))=true then if(decide (C.2.err=(111:Int))&&(decide (C.2.pos=(9:Int))&&true))=true then if decide (D.2.err=B)=true then if decide (D.1.kind=(7:Int))=true then if decide (E=(2:Int))=true then(B<=H/\H<E)/\if decide ((List.getD D.1.parts (Int.toNat H) (dfl (Ty.st SN.term))).pos=(4:Int))=true then True/\decide ((G ([91,73,110,116]:Str)).2.err=(90:Int))=tc F G/\True else I else I else I else I else I else I else I else I:=by
 conv=>zeta
 unfold tc;simp only[OG,NZ,NX,Int.toNat_one];apply a6<;>intro h1
 ·rw[h1];apply a6<;>intro h2
  ·rw[h2];apply a6<;>intro h3
   ·have h3n:=Xo h3;rw[Xd (show _=3 by omega)];apply a6<;>intro h4
    ·rw[N4,Oa]at h4;rw[h4.1,h4.2];apply a6<;>intro h5
     ·rw[h5];apply a6<;>intro h6
      ·rw[h6];apply a6<;>intro h7
       ·have h7n:=Xo h7;rw[Xd (show _=2 by omega)];refine⟨by omega,a6 (fun h8=>?_) (fun h8=>?_)⟩
        ·rw[h8];simp
        ·rw[NO]at h8;rw[h8];simp
       ·rw[Xf (fun e=>h7 (Xd (by omega)))];simp
      ·rw[NO]at h6;rw[h6];simp
     ·rw[NO]at h5;rw[h5];simp
    ·rw[NO,Oa,Pp]at h4;rcases h4 with h4|h4<;>rw[h4]<;>simp
   ·rw[Xf (fun e=>h3 (Xd (by omega)))];simp
  ·rw[NO]at h2;rw[h2];simp
 ·rw[NO]at h1;rw[h1];simp
end Go.AL.Seat
end
section
open Go Go.AL Go.Proofs Go.Shelf Go.Pd
namespace Go.AL.Seat
open Go.Proofs.Tryz
variable [Tabs]
variable [SeatLaid]
theorem FR:aw prog 11:=ee func11
theorem xB(F:Str->Shape×Flt)(G:Str->Trm×Flt) (hF:ae prog 18 (p1 .str fun s=>.ret (.tup [.st .shape (F s).1,.st .fault (F s).2])))(hG:ae prog 20 (p1 .str fun s=>.ret (.tup [.st .term (G s).1,.st .fault (G s).2]))):ax prog 11 [] [] (.ret (.bool (tc F G))):=
 g0 (sc (hF) (sc (hG) sn)) a0 func11 (FQ F G)
theorem CE:ae prog 11 (p0 (.ret (.bool true))):=Mu FR (BM ▸ xB cX bm pn pq)
end Go.AL.Seat
end
section
namespace Go.Pd
open Go.AL
def At(l:List Tokn):Int->List KT->Prop
 |_,[]=>True
 |p,k::r=>kt (dP l p)=k/\At l (p+1) r
theorem mD{l:List Tokn}:∀(ks js:List KT)(p:Int),At l p (ks++js)↔At l p ks/\At l (p+(ks.length:Int)) js
 |[],js,p=>by simp[At]
 |k::r,js,p=>by rw[NY,At,At,mD r js (p+1),N7,show p+1+(r.length:Int)=p+((r.length+1:Nat):Int) by omega,and_assoc]
abbrev St0(l:List Tokn)(p f:Int):Par:=⟨l,p,0,f⟩
section
variable {l:List Tokn} {p f:Int}
theorem gX{k:Int}{t:Str}{r:List KT}(h:At l p ((k,t)::r)):(an (St0 l p f)).kind=k/\(an (St0 l p f)).text=t:=by have:=h.1;unfold kt at this;exact⟨OH Prod.fst this,OH Prod.snd this⟩
theorem nH{k:Int}{t u:Str}{r:List KT}(h:At l p ((k,t)::r)):isF u (St0 l p f)=((decide (k=6)||decide (k=5))&&decide (t=u)):=by obtain⟨h1,h2⟩:=gX (f:=f) h;rw[LK,h1,h2,bK.2 rfl];simp
theorem cJ{k:Int}{t:Str}{r:List KT}(h:At l p ((k,t)::r))(hk:k=6∨k=5):aj t (St0 l p f)=St0 l (p+1) f:=by unfold aj;rw[nH h,N6 (by rcases hk with rfl|rfl<;>simp)];rfl
theorem iI{k:Int}{t:Str}{r:List KT}(h:At l p ((k,t)::r)):(aM k (St0 l p f)).1.text=t/\(aM k (St0 l p f)).2=St0 l (p+1) f:=by obtain⟨h1,h2⟩:=gX (f:=f) h;unfold aM;rw[N6 ⟨h1,bK.2 rfl⟩];exact⟨h2,rfl⟩
theorem pw{m:Str}{ns:List Str}{r:List KT}(h:At l p ((1,m)::r))(hn:¬m∈ns):bN ns (St0 l p f)=(m,St0 l (p+1) f):=by obtain⟨h1,h2⟩:=iI (f:=f) h;unfold bN;rw[h1,h2,N3 (fun c=>hn c.2)]
def FT(l:List Tokn)(f:Int)(R:Par->Shape×Par)(s:Shape):Prop:=∀p,At l p (toksS s)->R (St0 l p f)=(s,St0 l (p+((toksS s).length:Int)) f)
theorem tN{R:Par->Shape×Par}{btw en:Str}(hbe:btw≠en):∀(ns:List Str)(ps:List Shape)(k:Nat)(x:Shape)(p:Int),ns.length=ps.length->ns≠[]->ns.length<=k->(x.names++ns).Nodup->(∀q∈ps,FT l f R q)->
  At l p (joinG [(6,btw)] (toksP ns ps)++[(6,en)])->aV btw en (az R) k x (St0 l p f)=(⟨x.kind,x.pkg,x.name,x.names++ns,x.parts++ps⟩,St0 l (p+((joinG [(6,btw)] (toksP ns ps)).length:Int)+1) f)
 |[],_,_,_,_,_,h,_,_,_,_=>absurd rfl h
 |_::_,_,0,_,_,_,_,h,_,_,_=>absurd h (by simp)
 |_::_,[],_+1,_,_,h,_,_,_,_,_=>by cases h
 |m::ns,q::ps,k+1,x,p,hl,_,hk,hn,hb,ha=>by
  have hm:¬m∈x.names:=by rw[Qi]at hn;exact fun e=>hn.2.2 m e m NF rfl
  have hq:=hb q NF
  have first:∀r:List KT,At l p (((1,m)::(6,[58])::toksS q)++r)->az R x (St0 l p f)=(⟨x.kind,x.pkg,x.name,x.names++[m],x.parts++[q]⟩,St0 l (p+2+((toksS q).length:Int)) f)/\At l (p+2+((toksS q).length:Int)) r:=fun r h=>by
   rw[mD]at h;obtain⟨h1,h2⟩:=h;have f1:=pw (f:=f) (ns:=x.names) h1 hm;have f2:=cJ (f:=f) h1.2 (.inl rfl);have f3:=hq (p+1+1) h1.2.2;have e2:p+1+1=p+2:=by omega
   rw[e2]at f2 f3;refine⟨?_,?_⟩
   ·unfold az;simp only[f1,f2,f3]
   ·rw[N7,N7]at h2;rw[show p+2+((toksS q).length:Int)=p+(((toksS q).length+1+1:Nat):Int) by omega];exact h2
  cases ns with
  |nil=>
   obtain rfl:ps=[]:=Ni (by simpa using hl.symm);have e0:joinG [(6,btw)] (toksP [m] [q])=(1,m)::(6,[58])::toksS q:=by simp[toksP,joinG]
   rw[e0]at ha⊢;obtain⟨e1,e2⟩:=first _ ha
   simp only[aV];rw[N3 (by rw[bK.2 rfl];decide),e1,nH e2,N6 (by simp)];simp only[N7];refine OB rfl ?_;show(⟨l,_,0,f⟩:Par)=⟨l,_,0,f⟩;rw[show p+2+((toksS q).length:Int)+1=p+(((toksS q).length+1+1:Nat):Int)+1 by omega]
  |cons m2 ns=>
   cases ps with
   |nil=>cases hl
   |cons q2 ps=>
    have e0:joinG [(6,btw)] (toksP (m::m2::ns) (q::q2::ps))=((1,m)::(6,[58])::toksS q)++[(6,btw)]++joinG [(6,btw)] (toksP (m2::ns) (q2::ps)):=by simp only[toksP];rw[joinG_two]
    rw[e0,Nl,Nl]at ha;obtain⟨e1,e2⟩:=first _ ha
    rw[e0];simp only[aV];rw[N3 (by rw[bK.2 rfl];decide),e1];have e3:At l (p+2+((toksS q).length:Int)) ((6,btw)::(joinG [(6,btw)] (toksP (m2::ns) (q2::ps))++[(6,en)])):=e2;rw[nH e3,N3 (by simp[hbe]),cJ e3 (.inl rfl)];rw[tN hbe (m2::ns) (q2::ps) k _ _ (by simpa using hl) (by simp) (by simpa using hk) (by simpa using hn) (fun y hy=>hb y (Nn _ hy)) e3.2];refine OB ?_ ?_
    ·simp
    ·show(⟨l,_,0,f⟩:Par)=⟨l,_,0,f⟩;congr 1;simp only[N5,N7,Na];omega
theorem vD{R:Par->Shape×Par}{btw en:Str}(hbe:btw≠en):∀(ps:List Shape)(k:Nat)(x:Shape)(p:Int),ps≠[]->ps.length<=k->(∀q∈ps,FT l f R q)->
  At l p (joinG [(6,btw)] (toksP [] ps)++[(6,en)])->aV btw en (aB R) k x (St0 l p f)=(⟨x.kind,x.pkg,x.name,x.names,x.parts++ps⟩,St0 l (p+((joinG [(6,btw)] (toksP [] ps)).length:Int)+1) f)
 |[],_,_,_,h,_,_,_=>absurd rfl h
 |_::_,0,_,_,_,h,_,_=>absurd h (by simp)
 |q::ps,k+1,x,p,_,hk,hb,ha=>by
  have hq:=hb q NF;have first:∀r:List KT,At l p (toksS q++r)->aB R x (St0 l p f)=(⟨x.kind,x.pkg,x.name,x.names,x.parts++[q]⟩,St0 l (p+((toksS q).length:Int)) f)/\At l (p+((toksS q).length:Int)) r:=fun r h=>by rw[mD]at h;obtain⟨h1,h2⟩:=h;have f3:=hq p h1;refine⟨?_,h2⟩;unfold aB;rw[f3]
  cases ps with
  |nil=>
   have e0:joinG [(6,btw)] (toksP [] [q])=toksS q:=by simp[toksP,joinG]
   rw[e0]at ha⊢;obtain⟨e1,e2⟩:=first _ ha
   simp only[aV];rw[N3 (by rw[bK.2 rfl];decide),e1,nH e2,N6 (by simp)];rfl
  |cons q2 ps=>
   have e0:joinG [(6,btw)] (toksP [] (q::q2::ps))=toksS q++[(6,btw)]++joinG [(6,btw)] (toksP [] (q2::ps)):=by simp only[toksP];rw[joinG_two]
   rw[e0,Nl,Nl]at ha;obtain⟨e1,e2⟩:=first _ ha
   rw[e0];simp only[aV];rw[N3 (by rw[bK.2 rfl];decide),e1];have e3:At l (p+((toksS q).length:Int)) ((6,btw)::(joinG [(6,btw)] (toksP [] (q2::ps))++[(6,en)])):=e2;rw[nH e3,N3 (by simp[hbe]),cJ e3 (.inl rfl)];rw[vD hbe (q2::ps) k _ _ (by simp) (by simpa using hk) (fun y hy=>hb y (Nn _ hy)) e3.2];refine OB ?_ ?_
   ·simp
   ·show(⟨l,_,0,f⟩:Par)=⟨l,_,0,f⟩;congr 1;simp only[N5,N7,Na];omega
end
end Go.Pd
end
section
namespace Go.Pd
open Go.AL
section
variable {l:List Tokn} {f:Int}
theorem dR{p:Int}{t u:Str}{r:List KT}(h:At l p ((6,t)::r)):isF u (St0 l p f)=decide (t=u):=by rw[nH h];simp
theorem tO{R:Par->Shape×Par}{btw en:Str}(hbe:btw≠en)(hne:∀y∈[btw,[58]],y≠en){k:Int}{ns:List Str}{ps:List Shape}{p:Int}(hl:ns.length=ps.length)(hk:ns.length<=l.length+2)(hn:ns.Nodup)(hb:∀q∈ps,FT l f R q)
 (ha:At l p (joinG [(6,btw)] (toksP ns ps)++[(6,en)])) :
  ab btw en (az R) ⟨k,[],[],[],[]⟩ (St0 l p f)=(⟨k,[],[],ns,ps⟩,St0 l (p+((joinG [(6,btw)] (toksP ns ps)).length:Int)+1) f):=by
 unfold ab
 cases ns with
 |nil=>
  obtain rfl:ps=[]:=Ni hl.symm;have e0:joinG [(6,btw)] (toksP [] [])=[]:=by simp[toksP,joinG]
  rw[e0]at ha⊢;rw[dR ha,N6 (by simp)];simp[aD]
 |cons m ns=>
  have h1:∃r,At l p ((1,m)::r):=by
   cases ps with
   |nil=>cases hl
   |cons q ps=>
    simp only[toksP]at ha
    cases hx:toksP ns ps with|nil=>rw[hx,iZ]at ha;exact⟨_,ha⟩|cons y r=>rw[hx,joinG_two]at ha;exact⟨_,ha⟩
  obtain⟨r,h1⟩:=h1;rw[nH h1,N3 (by simp)];exact tN hbe (m::ns) ps (l.length+2) _ p hl (by simp) hk (by simpa using hn) hb ha
theorem FU{s:Shape}(hf:bc s=true):∃k t r,toksS s=(k,t)::r/\t≠[41]:=by
 rw[mB];unfold tt;unfold bc at hf;simp only at hf
 repeat' split
 all_goals first|exact⟨_,_,_,rfl,by decide⟩|skip
 ·rename_i k1 k2 k3 k4 k5 k6 k7 k8 g
  have:cW s.name=true:=by
   simp only[k1,k2,k3,k4,k5,k6,k7,k8,or_self,ND]at hf;split at hf
   ·simp only[N4]at hf;exact hf.1.1.1
   split at hf
   ·simp only[N4]at hf;exact hf.1.1.1
   ·cases hf
  refine⟨_,_,_,rfl,fun e=>?_⟩;rw[e]at this;exact absurd this (by decide)
 ·rename_i k1 k2 k3 k4 k5 k6 k7 k8 g
  have:aG s.pkg=true:=by
   simp only[k1,k2,k3,k4,k5,k6,k7,k8,or_self,ND]at hf;split at hf
   ·simp only[N4,NW,N8]at hf;exact hf.1.1.2.resolve_left (fun c=>g c.1)
   split at hf
   ·simp only[N4]at hf;exact hf.1.1.2
   ·cases hf
  refine⟨_,_,_,rfl,fun e=>?_⟩;rw[e]at this;exact absurd this (by decide)
theorem FV{R:Par->Shape×Par}{btw en:Str}(hbe:btw≠en)(he:en=[41]){k:Int}{ps:List Shape}{p:Int}(hk:ps.length<=l.length+2)(hb:∀q∈ps,FT l f R q/\bc q=true)
 (ha:At l p (joinG [(6,btw)] (toksP [] ps)++[(6,en)])) :
  ab btw en (aB R) ⟨k,[],[],[],[]⟩ (St0 l p f)=(⟨k,[],[],[],ps⟩,St0 l (p+((joinG [(6,btw)] (toksP [] ps)).length:Int)+1) f):=by
 unfold ab
 cases ps with
 |nil=>
  have e0:joinG [(6,btw)] (toksP [] [])=[]:=by simp[toksP,joinG]
  rw[e0]at ha⊢;rw[dR ha,N6 (by simp)];simp[aD]
 |cons q ps=>
  have h1:∃c t r,At l p ((c,t)::r)/\t≠[41]:=by
   obtain⟨c,t,r,e,ht⟩:=FU (hb q NF).2;simp only[toksP]at ha;rw[e]at ha
   cases hx:toksP [] ps with|nil=>rw[hx,iZ]at ha;exact⟨_,_,_,ha,ht⟩|cons y u=>rw[hx,joinG_two]at ha;exact⟨_,_,_,ha,ht⟩
  obtain⟨c,t,r,h1,ht⟩:=h1;rw[nH h1,N3 (by rw[he];simp[ht])];exact vD hbe (q::ps) (l.length+2) _ p (by simp) hk (fun q hq=>(hb q hq).1) ha
theorem Lh{p:Int}{k:Int}{t:Str}{r:List KT}(h:At l p ((k,t)::r)):(an (St0 l p f)).kind=k:=(gX h).1
theorem od:∀{ps:List Shape},ps≠[]->(toksP [] ps).getLastD []=toksS (ps.getLastD Ep)/\(toksP [] ps).dropLast=toksP [] ps.dropLast
 |[],h=>absurd rfl h
 |[q],_=>by simp[toksP]
 |q::y::r,_=>by
  obtain⟨a,b⟩:=od (ps:=y::r) (by simp);simp only[toksP]at a b⊢;refine⟨?_,?_⟩
  ·simpa using a
  ·rw[List.dropLast_cons₂,b,List.dropLast_cons₂,toksP]
theorem FW{s:Shape}(h1:s.pkg=[]->l6 s.name=false):gL s.pkg s.name=⟨9,s.pkg,s.name,[],[]⟩:=by
 unfold gL;by_cases hg:s.pkg=[]
 ·have h2:=h1 hg;unfold l6 at h2;simp only[Pt,Ns]at h2;rw[N3 (fun c=>h2.1.1.1 c.2),N3 (fun c=>h2.1.1.2 c.2),N3 (fun c=>h2.1.2 c.2),N3 (fun c=>h2.2 c.2)]
 ·rw[N3 (fun c=>hg c.1),N3 (fun c=>hg c.1),N3 (fun c=>hg c.1),N3 (fun c=>hg c.1)]
theorem qk:∀(n:Nat)(s:Shape),sz s<=n->sz s<=l.length+2->allS bc s=true->allS bn s=true->FT l f (ah n) s
 |0,s,hn,_,_,_=>by have:=gj s;omega
 |n+1,s,hn,hl,hf,ho=>fun p ha=>by
  rw[fH,N4,eX,Ng]at hf ho;obtain⟨f1,f2⟩:=hf;obtain⟨o1,o2⟩:=ho;have hz:=ky s;have hpl:=oR s.parts;have ih:∀q∈s.parts,FT l f (ah n) q:=fun q hq=>qk n q (by have:=gi hq;omega) (by have:=gi hq;omega) (f2 q hq) (o2 q hq);have hfp:∀q∈s.parts,bc q=true:=fun q hq=>by have:=f2 q hq;rw[fH,N4]at this;exact this.1
  show eV (ah n) (St0 l p f)=_;rw[mB]at ha⊢;obtain⟨k,g,m,ns,ps⟩:=s;simp only at f1 ih hfp ha hpl hz⊢;unfold bc at f1;simp only at f1;have nb:aY (St0 l p f)=false:=bK.2 rfl;have up:∀{t:Str},At l p [(2,t)]->eV (ah n) (St0 l p f)=(gL [] t,St0 l (p+1) f):=fun h=>by obtain⟨h1,h2⟩:=gX (f:=f) h;unfold eV;simp only;rw[N6 ⟨h1,nb⟩,h2];rfl
  have sg:∀{t:Str} {r:List KT},At l p ((6,t)::r)->eV (ah n) (St0 l p f)=
    (if t=[91]then(⟨5,[],[],[],[(ah n (St0 l (p+1) f)).1]⟩,aj [93] (ah n (St0 l (p+1) f)).2)
     else if t=[123]then ab [44] [125] (az (ah n)) ⟨6,[],[],[],[]⟩ (St0 l (p+1) f)
     else if t=[60]then ab [124] [62] (az (ah n)) ⟨7,[],[],[],[]⟩ (St0 l (p+1) f)
     else if t=[40]then aB (ah n) (ab [44] [41] (aB (ah n)) ⟨8,[],[],[],[]⟩ (St0 l (p+1) f)).1 (aj [45,62] (ab [44] [41] (aB (ah n)) ⟨8,[],[],[],[]⟩ (St0 l (p+1) f)).2)
     else(⟨0,[],[],[],[]⟩,cC 90 (an (St0 l p f)).pos (St0 l p f))):=fun h=>by
   have h1:=Lh (f:=f) h;unfold eV;simp only[dR h,h1,N8];rw[N3 (by simp),N3 (by simp)];rfl
  unfold tt at ha⊢;by_cases k1:k=1
  ·rw[N6 (.inl k1)]at f1;simp only[N4,N8]at f1;obtain⟨⟨⟨rfl,rfl⟩,rfl⟩,rfl⟩:=f1;rw[N6 k1]at ha⊢;rw[up ha,k1];rfl
  by_cases k2:k=2
  ·rw[N6 (.inr (.inl k2))]at f1;simp only[N4,N8]at f1;obtain⟨⟨⟨rfl,rfl⟩,rfl⟩,rfl⟩:=f1;rw[N3 k1,N6 k2]at ha⊢;rw[up ha,k2];rfl
  by_cases k3:k=3
  ·rw[N6 (.inr (.inr (.inl k3)))]at f1;simp only[N4,N8]at f1;obtain⟨⟨⟨rfl,rfl⟩,rfl⟩,rfl⟩:=f1;rw[N3 k1,N3 k2,N6 k3]at ha⊢;rw[up ha,k3];rfl
  by_cases k4:k=4
  ·rw[N6 (.inr (.inr (.inr k4)))]at f1;simp only[N4,N8]at f1;obtain⟨⟨⟨rfl,rfl⟩,rfl⟩,rfl⟩:=f1;rw[N3 k1,N3 k2,N3 k3,N6 k4]at ha⊢;rw[up ha,k4];rfl
  rw[N3 k1,N3 k2,N3 k3,N3 k4]at ha⊢;rw[N3 (by simp[k1,k2,k3,k4])]at f1;by_cases k5:k=5
  ·rw[N6 k5]at f1 ha⊢;simp only[N4,N8]at f1;obtain⟨⟨⟨rfl,rfl⟩,rfl⟩,f1⟩:=f1;obtain⟨q,rfl⟩:=Oh.1 f1;have e0:(toksP [] [q]).headD []=toksS q:=by simp[toksP]
   rw[e0]at ha⊢;rw[Nl]at ha;rw[sg ha,N6 rfl];have h2:=(mD (toksS q) _ (p+1)).1 ha.2;rw[ih q NF (p+1) h2.1,cJ h2.2 (.inl rfl),k5];refine OB rfl ?_;show(⟨l,_,0,f⟩:Par)=⟨l,_,0,f⟩;congr 1;simp only[N5,N7,Na];omega
  rw[N3 k5]at f1 ha⊢;by_cases k6:k=6
  ·rw[N6 (.inl k6)]at f1;rw[N6 k6]at ha⊢;unfold dm at f1;simp only[N4,N8]at f1;obtain⟨⟨rfl,rfl⟩,⟨f3,f4⟩,f5⟩:=f1;rw[Nl]at ha;rw[sg ha,N3 (by decide),N6 rfl,tO (by decide) (by decide) f3 (by omega) f5 ih ha.2,k6];refine OB rfl ?_;show(⟨l,_,0,f⟩:Par)=⟨l,_,0,f⟩;congr 1;simp only[N5,N7,Na];omega
  rw[N3 k6]at ha⊢;by_cases k7:k=7
  ·rw[N6 (.inr k7)]at f1;rw[N6 k7]at ha⊢;unfold dm at f1;simp only[N4,N8]at f1;obtain⟨⟨rfl,rfl⟩,⟨f3,f4⟩,f5⟩:=f1;rw[Nl]at ha;rw[sg ha,N3 (by decide),N3 (by decide),N6 rfl,tO (by decide) (by decide) f3 (by omega) f5 ih ha.2,k7];refine OB rfl ?_;show(⟨l,_,0,f⟩:Par)=⟨l,_,0,f⟩;congr 1;simp only[N5,N7,Na];omega
  rw[N3 k7]at ha⊢;rw[N3 (by simp[k6,k7])]at f1;by_cases k8:k=8
  ·rw[N6 k8]at f1 ha⊢;simp only[N4,Np,N8,Ns]at f1;obtain⟨⟨⟨rfl,rfl⟩,rfl⟩,f1⟩:=f1;obtain⟨e1,e2⟩:=od f1;rw[e1,e2]at ha⊢;have hd:ps=ps.dropLast++[ps.getLastD Ep]:=by rw[Oq,OS f1];exact(OV f1).symm
   have hm:ps.getLastD Ep∈ps:=by rw[hd];simp
   have ha1:At l p ((6,[40])::(joinG [(6,[44])] (toksP [] ps.dropLast)++[(6,[41])]++((6,[45,62])::toksS (ps.getLastD Ep)))):=by simpa using ha
   rw[sg ha1,N3 (by decide),N3 (by decide),N3 (by decide),N6 rfl];obtain⟨h1,h2⟩:=(mD (joinG [(6,[44])] (toksP [] ps.dropLast)++[(6,[41])]) _ (p+1)).1 ha1.2;rw[FV (by decide) rfl (by rw[List.length_dropLast];omega) (fun q hq=>⟨ih q (PW _ hq),hfp q (PW _ hq)⟩) h1];rw[show p+1+((joinG [(6,[44])] (toksP [] ps.dropLast)++[((6,[41]):KT)]).length:Int)=p+1+((joinG [((6,[44]):KT)] (toksP [] ps.dropLast)).length:Int)+1 by rw[N5];simp;omega]at h2;rw[cJ h2 (.inl rfl)];unfold aB;rw[ih _ hm _ h2.2,k8];refine OB ?_ ?_
   ·show(⟨8,[],[],[],ps.dropLast++[ps.getLastD Ep]⟩:Shape)=_;rw[<-hd]
   ·show(⟨l,_,0,f⟩:Par)=⟨l,_,0,f⟩;congr 1;simp only[N5,N7,Na];omega
  rw[N3 k8]at f1 ha⊢;have k10:k≠10:=by unfold bn at o1;simpa using o1
  have k9:k=9:=by
   by_cases k9:k=9
   ·exact k9
   rw[N3 k9,N3 k10]at f1;cases f1
  rw[N6 k9]at f1;simp only[N4,NW,Np,N8]at f1;obtain⟨⟨⟨f3,f4⟩,rfl⟩,rfl⟩:=f1
  have uo:gL g m=⟨9,g,m,[],[]⟩:=FW (s:=⟨9,g,m,[],[]⟩) (fun hg=>by
   rcases f4 with c|c
   ·exact c.2
   ·simp only at hg;rw[hg]at c;exact absurd c (by decide))
  by_cases hg:g=[]
  ·rw[N6 hg]at ha⊢;rw[up ha,k9];rw[hg]at uo⊢;rw[uo];rfl
  ·rw[N3 hg]at ha⊢;obtain⟨h1,h2⟩:=gX (f:=f) ha;unfold eV;simp only;rw[N3 (by rw[h1];simp),N6 ⟨h1,nb⟩,h2];have m1:=cJ (f:=f) ha.2 (.inl rfl);have adv:aD (St0 l p f)=St0 l (p+1) f:=rfl;rw[adv,m1];obtain⟨t1,t2⟩:=iI (f:=f) ha.2.2;rw[t1,t2,uo,k9];refine OB rfl ?_;show(⟨l,_,0,f⟩:Par)=⟨l,_,0,f⟩;congr 1;simp only[N7,Na];omega
end
end Go.Pd
end
section
namespace Go.Pd
open Go.AL
theorem jQ(s:Str):∀(n:Nat)(c:SC),0<=c.pos->c.pos<=(s.length:Int)->(s.length:Int)<c.pos+(n:Int)->(c.out.length:Int)<=c.pos->(dE s n c).2.err=0->(dE s n c).1.length<=s.length+1
 |0,c,h0,h1,h2,_,_=>by omega
 |n+1,c,h0,h1,h2,ho,h=>by
  rw[dE]at h⊢;by_cases a:c.pos=(s.length:Int)
  ·rw[N6 a];show(c.out++[_]).length<=_;rw[N5,Nc];omega
  rw[N3 a]at h⊢;have hlt:c.pos<(s.length:Int):=by omega
  by_cases b:gO (bAt s c.pos)=true
  ·rw[N6 b]at h⊢;exact jQ s n _ (by show 0<=c.pos+1;omega) (by show c.pos+1<=_;omega) (by show _<c.pos+1+(n:Int);omega) (by show(c.out.length:Int)<=c.pos+1;omega) h
  rw[N3 b]at h⊢;by_cases d:bAt s c.pos=45/\bAt s (c.pos+1)=45
  ·rw[N6 d]at h⊢;have hw:=dp (pr:=cG) h0 h1;have hh:=cN (pr:=cG) h0 hlt (by rw[<-jo hlt,d.1];rfl)
   cases hb:bO (cut s c.pos (c.pos+(aq cG s c.pos:Int)))with|some k=>rw[hb]at h;exact absurd (show(30:Int)=0 from h) (by decide)|none=>rw[hb]at h;exact jQ s n _ (by show 0<=c.pos+_;omega) hw (by show _<c.pos+_+(n:Int);omega) (by show(c.out.length:Int)<=c.pos+(aq cG s c.pos:Int);omega) h
  rw[N3 d]at h⊢;by_cases e:(aP s c).1=true
  ·rw[N6 e]at h⊢;obtain⟨t1,t2,t3⟩:=fg h0 hlt e;exact jQ s n _ (by omega) t2 (by omega) (by omega) h
  ·rw[N3 e]at h
   exact absurd h (by
    have:(aP s c).1=false:=by simpa using e
    exact lg h0 hlt this)
theorem Ag{s:Str}(h:(aN s).2.err=0):(aN s).1.length<=4097:=by
 unfold aN at h⊢;split at h
 ·exact absurd h (by decide)
 ·rename_i x;rw[N3 x];have:=jQ s (s.length+2) ⟨0,[],0,0⟩ (by show(0:Int)<=0;omega) (by show(0:Int)<=_;omega) (by show _<(0:Int)+((s.length+2:Nat):Int);omega) (by show((0:Nat):Int)<=0;omega) h;omega
theorem px{α:Type}(sep:List α):∀xs:List (List α),(xs.map List.length).sum<=(joinG sep xs).length
 |[]=>Nt _
 |[x]=>by rw[iZ];simp
 |x::y::r=>by have:=px sep (y::r);rw[joinG_two,Nj,Oz,N5,N5];omega
theorem tP:∀(ns:List Str)(ps:List Shape),(∀p∈ps,sz p<=(toksS p).length)->szL ps<=((toksP ns ps).map List.length).sum
 |_,[],_=>by simp[szL]
 |[],p::r,h=>by have:=tP [] r (fun q hq=>h q (Nn _ hq));have:=h p NF;simp only[toksP,szL,Nj,Oz];omega
 |m::ns,p::r,h=>by have:=tP ns r (fun q hq=>h q (Nn _ hq));have:=h p NF;simp only[toksP,szL,Nj,Oz,N7];omega
theorem xC:∀(n:Nat)(s:Shape),sz s<=n->allS bc s=true->sz s<=(toksS s).length
 |0,s,hn,_=>by have:=gj s;omega
 |n+1,s,hn,hf=>by
  rw[fH,N4,eX,Ng]at hf;obtain⟨f1,f2⟩:=hf;have hz:=ky s;have ih:szL s.parts<=((toksP s.names s.parts).map List.length).sum:=tP s.names s.parts (fun p hp=>xC n p (by have:=gi hp;omega) (f2 p hp));have np:s.parts=[]->sz s=1:=fun e=>by rw[hz,e];rfl
  rw[mB];unfold bc at f1;simp only at f1;unfold tt;by_cases k1:s.kind=1∨s.kind=2∨s.kind=3∨s.kind=4
  ·rw[N6 k1]at f1;simp only[N4,N8]at f1;rw[np f1.2];rcases k1 with k|k|k|k<;>rw[k]<;>simp
  rw[N3 k1]at f1;simp only[Qj]at k1;rw[N3 k1.1,N3 k1.2.1,N3 k1.2.2.1,N3 k1.2.2.2];by_cases k5:s.kind=5
  ·rw[N6 k5]at f1⊢;simp only[N4,N8]at f1;obtain⟨x,hx⟩:∃x,toksP s.names s.parts=[x]:=Oh.1 (by rw[kF];exact f1.2);rw[hx]at ih⊢;simp only[Nj,P6,Oz,List.sum_nil]at ih;simp;omega
  rw[N3 k5]at f1⊢;by_cases k6:s.kind=6
  ·rw[N6 k6];have:=px [((6,[44]):KT)] (toksP s.names s.parts);simp;omega
  rw[N3 k6];by_cases k7:s.kind=7
  ·rw[N6 k7];have:=px [((6,[124]):KT)] (toksP s.names s.parts);simp;omega
  rw[N3 k7];rw[N3 (by simp[k6,k7])]at f1;by_cases k8:s.kind=8
  ·rw[N6 k8]at f1⊢;simp only[N4,Np,N8,Ns]at f1;have hn:toksP s.names s.parts≠[]:=fun e=>f1.2 (Ni (by rw[<-kF s.names s.parts,e];rfl));generalize toksP s.names s.parts=us at ih hn⊢;have hd:us=us.dropLast++[us.getLastD []]:=by rw[Oq,OS hn];exact(OV hn).symm
   have:=px [((6,[44]):KT)] us.dropLast
   have e:(us.map List.length).sum=(us.dropLast.map List.length).sum+(us.getLastD []).length:=by
    conv=>lhs;rw[hd]
    simp
   simp only[N5,N7,Na];omega
  rw[N3 k8]at f1⊢
  have:s.parts=[]:=by
   by_cases k9:s.kind=9
   ·rw[N6 k9]at f1;simp only[N4,N8]at f1;exact f1.2
   rw[N3 k9]at f1;by_cases k10:s.kind=10
   ·rw[N6 k10]at f1;simp only[N4,N8]at f1;exact f1.2
   rw[N3 k10]at f1;cases f1
  rw[np this];split<;>simp
theorem Li:∀(ts pre post:List Tokn),At (pre++(ts++post)) (pre.length:Int) (ts.map kt)
 |[],_,_=>trivial
 |t::ts,pre,post=>by
  refine⟨?_,?_⟩
  ·unfold dP;rw[N6 (by simp;omega),Nu,Nb,Nr (Nf _)];simp
  ·have:=Li ts (pre++[t]) post;rw[Nl]at this;simpa using this
theorem DJ{F:Str->Prop}{x:Str}{ks:List KT}(h:Pf F x ks)(hF:F [])(hl:x.length<=4096):∃ts:List Tokn,(aN x).1=ts++[⟨0,[],(x.length:Int)⟩]/\(aN x).2=⟨0,0⟩/\ts.map kt=ks/\ks.length=ts.length/\ts.length<=4096/\At (aN x).1 0 ks:=by obtain⟨ts,h1,rfl⟩:=h x 0 [] (by simp) hF;rw[OQ]at h1;have e:=LL h1 hl;have c:=Ag (s:=x) (by rw[e]);rw[e]at c⊢;refine⟨ts,rfl,rfl,rfl,by simp,by simpa using c,?_⟩;have:=Li ts [] [⟨0,[],(x.length:Int)⟩];simpa using this
theorem KJ:Fol []:=fun _ _ e=>by cases e
theorem Ah{s:Shape}(hc:bz s=0)(ho:allS bn s=true)(hl:(showS s).length<=4096):cX (showS s)=(s,⟨0,0⟩):=by
 obtain⟨c1,_,c3⟩:=jJ hc;obtain⟨ts,e1,e2,e3,e4,e5,e6⟩:=DJ (tv _ s (Nf _) c3).1 KJ hl;have hz:=xC _ s (Nf _) c3
 have hb:ah big (St0 (aN (showS s)).1 0 0)=(s,St0 (aN (showS s)).1 (0+((toksS s).length:Int)) 0):=
  qk big s (by show _<=5000;omega) (by rw[e1,N5];omega) c3 ho 0 e6
 have hB:aZ (aN (showS s)).1 0=St0 (aN (showS s)).1 0 0:=by unfold aZ;rw[N3 (by omega),N3 (by rw[e1,N5,Nc];omega)]
 have hT:eL (aN (showS s)).1 0=(s,0+((toksS s).length:Int),⟨0,0⟩):=by unfold eL;rw[hB,N3 (by rw[bK.2 rfl];decide)];unfold bw;simp only[hb];rw[N3 (by rw[bK.2 rfl];decide),N6 hc];rfl
 have hP:cM (aN (showS s)).1 (0+((toksS s).length:Int))=⟨0,0⟩:=by unfold cM;rw[N6 (by rw[e1,N5,Nc,e4];omega)]
 unfold cX lG;simp only[hT,hP,e2,NS]
end Go.Pd
end
section
namespace Go.Pd
open Go.AL
open Go.Lib (decDigits nDigits itoa)
theorem tQ{u:Nat}(h:u<10):bI (UInt8.ofNat (48+u))=48+(u:Int):=by unfold bI;rw[UInt8.toNat_ofNat'];omega
theorem DK(u:Nat):(decDigits u).all (fun c=>cv (bI c))=true:=by
 induction u using Nat.strongRecOn with
 |_ u ih=>
  have one:∀v:Nat,v<10->cv (bI (UInt8.ofNat (48+v)))=true:=fun v hv=>by rw[tQ hv];unfold cv;rw[Xd (by omega),Xd (by omega)];rfl
  by_cases h:u<10
  ·rw[decDigits,dif_pos h];rw[NI,one u h];rfl
  ·rw[decDigits,dif_neg h,OW,ih (u/10) (by omega),NI,one (u%10) (by omega)];rfl
theorem CF(u:Nat):decDigits u≠[]:=fun e=>by
 have:=Go.Lib.decDigits_length u;rw[e]at this;have:=Go.Lib.nDigits_pos u;simp at *
 omega
theorem IZ:∀(k u:Nat),u<10 ^ (k+1)->nDigits u<=k+1
 |0,u,h=>by rw[Go.Lib.nDigits_small (by simpa using h)];exact Nf _
 |k+1,u,h=>by
  by_cases c:u<10
  ·rw[Go.Lib.nDigits_small c];omega
  ·rw[Go.Lib.nDigits_big c];rw[Nat.pow_succ]at h;have:=IZ k (u/10) (by omega);omega
theorem J0(u:Nat)(h1:1<=u):bI ((decDigits u).getD 0 0)≠48:=by
 induction u using Nat.strongRecOn with
 |_ u ih=>
  by_cases h:u<10
  ·rw[decDigits,dif_pos h];show bI (UInt8.ofNat (48+u))≠48;rw[tQ h];omega
  ·rw[decDigits,dif_neg h];have hn:=O2.2 (CF (u/10));rw[Nb,Nq hn,<-Nb];exact ih (u/10) (by omega) (by omega)
theorem FX(u:Nat):im (decDigits u)=(u:Int):=by
 induction u using Nat.strongRecOn with
 |_ u ih=>
  have one:∀v:Nat,v<10->(((UInt8.ofNat (48+v)).toNat:Nat):Int)=48+(v:Int):=fun v hv=>tQ hv;by_cases h:u<10
  ·rw[decDigits,dif_pos h];show 10 *(0:Int)+(((UInt8.ofNat (48+u)).toNat:Int)-48)=_;rw[one u h];omega
  ·rw[decDigits,dif_neg h];have e:=ih (u/10) (by omega);unfold im at e⊢;rw[List.foldl_append,e];show 10 *((u/10:Nat):Int)+(((UInt8.ofNat (48+u%10)).toNat:Int)-48)=_;rw[one (u%10) (by omega)];omega
theorem CG{u:Nat}(h:u<=999999999999999):ff (decDigits u)=true:=by
 unfold ff;have hl:(decDigits u).length<=15:=by rw[Go.Lib.decDigits_length];exact IZ 14 u (by omega)
 rw[DK,Xd hl];by_cases c:1<=u
 ·rw[Xf (J0 u c)];simp
 ·rw[show u=0 by omega];rw[decDigits,dif_pos (by omega)]
  decide
theorem Ai{n:Int}(h:0<=n):itoa n=decDigits n.toNat:=by unfold itoa;rw[N3 (by omega)]
def nj(z:Str):Prop:=∀y z',z=y::z'->bB (bI y)=false/\bI y≠61/\bI y≠46/\bI y≠45
theorem nj.fol{z:Str}(h:nj z):Fol z:=fun y z' e=>⟨(h y z' e).1,(h y z' e).2.1⟩
theorem KK{y:UInt8}{z:Str}(h1:bB (bI y)=false)(h2:bI y≠61)(h3:bI y≠46)(h4:bI y≠45):nj (y::z):=fun a b e=>by cases e;exact⟨h1,h2,h3,h4⟩
theorem J1:nj []:=fun _ _ e=>by cases e
theorem KL{c:Int}(h:bB c=false):bL c=false/\bM c=false/\cv c=false:=by unfold bB at h;simp only[Pt]at h;exact⟨by simp[h],by simp[h],by simp[h]⟩
theorem FY{W:Str}{a:Nat}{x:Str}{z:Str}(h:W.drop a=x++z)(hx:x≠[])(hn:ff x=true)(hz:nj z):Sc W a (a+x.length) [⟨3,x,(a:Int)⟩]:=by
 have hd:x.all (fun c=>cv (bI c))=true:=by unfold ff at hn;simp only[N4]at hn;exact hn.1.1
 obtain⟨b,r,rfl⟩:=Oo hx;have hd1:W.drop a=b::(r++z):=h;have hb:cv (bI b)=true:=by rw[NI,N4]at hd;exact hd.1
 have hi:48<=bI b/\bI b<=57:=by unfold cv at hb;rw[N4,N8,N8]at hb;omega
 have hw:aq ck W (a:Int)=(b::r).length:=tq h (Ng.2 fun c hc=>by
  have:=Ng.1 hd c hc;unfold ck;rw[this];simp) (fun y z' e=>by
  obtain⟨h1,_,h3,h4⟩:=hz y z' e;obtain⟨r1,r2,r3⟩:=KL h1;unfold ck;rw[r1,r2,r3,Xf h3,Xf h4];rfl)
 refine tp hd1 ?_ (fun e=>by have:=e.1;omega) (by simp) (fun c hp=>?_)
 ·unfold gO;rw[Xf (by omega),Xf (by omega),Xf (by omega),Xf (by omega)];rfl
 unfold aP;have s1:bL (bI b)=false:=by unfold bL;rw[Xf (by omega)];rfl
 have s2:bM (bI b)=false:=by unfold bM;rw[Xf (by omega)];rfl
 rw[hp,(eM hd1).2.1,s1,s2,N3 (by simp),N6 hb,hw,qd h];unfold wT;rw[N6 hn];unfold fE bV;rw[hp,show(a:Int)+((b::r).length:Int)=((a+(b::r).length:Nat):Int) by omega]
theorem vE{n:Int}(h0:0<=n)(h1:n<=999999999999999):Pf nj (itoa n) [(3,itoa n)]/\Hd (itoa n)/\im (itoa n)=n:=by rw[Ai h0];have hn:=CG (u:=n.toNat) (by omega);refine⟨fun W a z hw hz=>Sk.of (FY hw (CF _) hn hz),?_,by rw[FX];omega⟩;obtain⟨b,r,e⟩:=Oo (CF n.toNat);have hd:=DK n.toNat;rw[e,NI,N4]at hd;refine⟨b,r,e,fun e61=>?_⟩;rw[e61]at hd;exact absurd hd.1 (by decide)
def dc(b:UInt8):Str:=if b=10 then[92,110]else if b=9 then[92,116]else if b=34∨b=92 then[92,b]else[b]
def jw(s:Str):Str:=[34]++s.flatMap dc++[34]
theorem FZ{y:Str}(hy:∀h y',y=h::y'->h.toNat<128):cu y 0=false:=by
 cases y with
 |nil=>rfl
 |cons h y'=>
  have:=hy h y' rfl;unfold cu;have:¬((h::y').getD 0 0).toNat/64=2:=by show ¬h.toNat/64=2;omega
  rw[Xf this,Ov]
theorem G0(b:UInt8)(r:Str){y:Str}(hy:∀h y',y=h::y'->h.toNat<128):dD (b::r++y)=dD (b::r):=by
 have h0:=FZ hy;have sh:∀(c:UInt8)(l:Str)(k:Nat),cu (c::l) (k+1)=cu l k:=fun c l k=>by unfold cu;simp
 have z0:∀k,cu [] k=false:=fun k=>by unfold cu;simp
 match r with
 |[]=>rw[NY,Nk];simp[dD,h0,z0]
 |[c]=>
  have e:cu ([c]++y) 0=cu [c] 0:=by simp[cu]
  have e1:cu ([c]++y) 1=false:=by rw[NY,sh,Nk,h0]
  have e2:cu [c] 1=false:=by rw[sh,z0]
  have l0:gz ([c]++y) 0=gz [c] 0:=rfl;rw[NY];simp only[dD,e,e1,e2,l0];simp
 |[c,d]=>
  have e:cu ([c,d]++y) 0=cu [c,d] 0:=by simp[cu]
  have e1:cu ([c,d]++y) 1=cu [c,d] 1:=by simp[cu]
  have e2:cu ([c,d]++y) 2=false:=by rw[NY,sh,NY,sh,Nk,h0]
  have e3:cu [c,d] 2=false:=by rw[sh,sh,z0]
  have l0:gz ([c,d]++y) 0=gz [c,d] 0:=rfl;have l1:gz ([c,d]++y) 1=gz [c,d] 1:=rfl;rw[NY];simp only[dD,e,e1,e2,e3,l0,l1];simp
 |c::d::e::r=>
  have e0:cu (c::d::e::r++y) 0=cu (c::d::e::r) 0:=by simp[cu]
  have e1:cu (c::d::e::r++y) 1=cu (c::d::e::r) 1:=by simp[cu]
  have e2:cu (c::d::e::r++y) 2=cu (c::d::e::r) 2:=by simp[cu]
  have l0:gz (c::d::e::r++y) 0=gz (c::d::e::r) 0:=rfl;have l1:gz (c::d::e::r++y) 1=gz (c::d::e::r) 1:=rfl;have l2:gz (c::d::e::r++y) 2=gz (c::d::e::r) 2:=rfl;rw[NY];simp only[dD,e0,e1,e2,l0,l1,l2]
theorem Aj:∀(n:Nat)(x y:Str),x.length<=n->(∀h y',y=h::y'->h.toNat<128)->bO (x++y)=none->bO x=none/\bO y=none
 |0,x,y,hn,_,h=>by obtain rfl:=Ni (by omega:x.length=0);exact⟨rfl,h⟩
 |n+1,x,y,hn,hy,h=>by
  cases x with
  |nil=>exact⟨rfl,h⟩
  |cons b r=>obtain⟨h1,h2⟩:=(my (x:=b::r++y) (by simp)).1 h;rw[G0 b r hy]at h1 h2;have hl:=Dy (b::r);rw[List.drop_append_of_le_length hl]at h2;obtain⟨k1,k2⟩:=Aj n _ y (by rw[NU];simp only[N7]at hn⊢;omega) hy h2;exact⟨(my (by simp)).2 ⟨h1,k1⟩,k2⟩
theorem Ak{b:UInt8}{k:Nat}(hk:k<256)(h:bI b=(k:Int)):b=UInt8.ofNat k:=by unfold bI at h;apply UInt8.toNat_inj.1;rw[UInt8.toNat_ofNat'];omega
theorem tR{b:UInt8}(h1:fU b=true)(h2:aH (bI b)=false):b=10∨b=9∨b=34∨b=92:=by
 have h3:bI b=10∨bI b=9∨bI b=34∨bI b=92:=by
  unfold aH at h2;simp only[Pp,Ns,Qc,N8]at h2;rcases h2 with(k|k)|k
  ·by_cases c:fU b=false
   ·rw[c]at h1;cases h1
   rw[vm]at c;omega
  ·omega
  ·omega
 rcases h3 with k|k|k|k
 ·exact .inl (Ak (k:=10) (by decide) k)
 ·exact .inr (.inl (Ak (k:=9) (by decide) k))
 ·exact .inr (.inr (.inl (Ak (k:=34) (by decide) k)))
 ·exact .inr (.inr (.inr (Ak (k:=92) (by decide) k)))
theorem vF{b:UInt8}(h:aH (bI b)=true):dc b=[b]/\32<=bI b/\bI b≠34/\bI b≠92:=by
 unfold aH at h;simp only[N4,Np,N8,Ns]at h;obtain⟨⟨h1,h2⟩,h3⟩:=h;refine⟨?_,h1,h2,h3⟩;unfold dc
 rw[N3 (fun e=>by rw[e]at h1;exact absurd h1 (by decide)),N3 (fun e=>by rw[e]at h1;exact absurd h1 (by decide)),N3 (fun e=>by
  rcases e with e|e
  ·rw[e]at h2;exact absurd h2 (by decide)
  ·rw[e]at h3;exact absurd h3 (by decide))]
theorem xD:∀{x:Str},x.all (fun b=>aH (bI b))=true->x.flatMap dc=x
 |[],_=>rfl
 |b::r,h=>by rw[NI,N4]at h;rw[O9,(vF h.1).1,xD h.2];rfl
theorem G1{x y:Str}(hy:∀h y',y=h::y'->h.toNat<128)(h:di (x++y)=true):di x=true/\di y=true:=by unfold di at h⊢;simp only[N4,P2,OW]at h⊢;obtain⟨k1,k2⟩:=Aj _ x y (Nf _) hy h.2;exact⟨⟨h.1.1,k1⟩,h.1.2,k2⟩
theorem qm{W:Str}{fr:Int}{z:Str}:∀(k:Nat)(n acc:Str)(c:SC)(a fuel:Nat),n.length<=k->di n=true->c.pos=(a:Int)->W.drop a=n.flatMap dc++34::z->n.length<fuel->
  bW W fr fuel acc c=(acc++n,true,bV c ((a+(n.flatMap dc).length+1:Nat):Int))
 |k,n,acc,c,a,0,_,_,_,_,hf=>absurd hf (OO _)
 |k,[],acc,c,a,fuel+1,hk,hq,hp,hw,hf=>by have hw':W.drop a=34::z:=hw;rw[bW,hp,(eM hw').2.1,N3 (by decide),N6 (by decide),OD];rfl
 |0,b::r,acc,c,a,fuel+1,hk,hq,hp,hw,hf=>absurd hk (by simp)
 |k+1,b::r,acc,c,a,fuel+1,hk,hq,hp,hw,hf=>by
  by_cases hb:aH (bI b)=true
  ·
   have hx:=PQ (p:=fun b=>aH (bI b)) (l:=b::r);have hxa:((b::r).takeWhile fun b=>aH (bI b)).all (fun b=>aH (bI b))=true:=List.all_takeWhile;have hx0:(b::r).takeWhile (fun b=>aH (bI b))=b::r.takeWhile fun b=>aH (bI b):=by rw[OM,N6 hb]
   have hyh:∀h y',(b::r).dropWhile (fun b=>aH (bI b))=h::y'->aH (bI h)=false:=fun h y' e=>by have:=List.head_dropWhile_not (fun b=>aH (bI b)) (l:=b::r) (by rw[e];simp);simp only[e,List.head_cons]at this;exact this
   generalize (b::r).dropWhile (fun b=>aH (bI b))=y at hx hyh;generalize hX:(b::r).takeWhile (fun b=>aH (bI b))=x at hx hxa hx0;have hq':di (x++y)=true:=by rw[hx];exact hq
   have hqb:∀h∈y,fU h=true:=fun h hh=>by unfold di at hq';simp only[N4]at hq';exact Ng.1 hq'.1 h (List.mem_append_right _ hh)
   have hy:∀h y',y=h::y'->h.toNat<128:=fun h y' e=>by rcases tR (hqb h (by rw[e];exact NF)) (hyh h y' e)with rfl|rfl|rfl|rfl<;>decide
   obtain⟨q1,q2⟩:=G1 hy hq';have hw2:W.drop a=x++(y.flatMap dc++34::z):=by rw[hw,<-hx,Q4,xD hxa,Nl]
   have hw3:W.drop a=b::((r.takeWhile fun b=>aH (bI b))++(y.flatMap dc++34::z)):=by rw[hw2,hx0];rfl
   obtain⟨_,b1,_⟩:=eM hw3;obtain⟨_,p1,p2,p3⟩:=vF hb
   have hwl:aq aH W (a:Int)=x.length:=tq hw2 hxa (fun g z' e=>by
    cases y with
    |nil=>
     have:g=34:=by have e':(34:UInt8)::z=g::z':=e;cases e';rfl
     rw[this];decide
    |cons h y'=>
     rw[O9]at e;rcases tR (hqb h NF) (hyh h y' rfl)with rfl|rfl|rfl|rfl<;>
     ·have e':g=92:=by have:=OH List.head? e;simpa[dc]using this.symm
      rw[e'];decide)
   have hxn:x≠[]:=by rw[hx0];simp
   have hxl:=O2.2 hxn;have hu:bO x=none:=by unfold di at q1;simp only[N4,P2]at q1;exact q1.2
   have hlen:x.length+y.length=r.length+1:=by rw[<-N5,hx];rfl
   rw[bW,hp,b1,N3 (by omega),N3 p2,N3 p3,hwl,qd hw2,hu];show bW W fr fuel (acc++x) (bV c ((a:Int)+(x.length:Int)))=_;have hd:=(HU hw2 hxn).2;simp only[N7]at hk hf;rw[qm k y (acc++x) (bV c ((a:Int)+(x.length:Int))) (a+x.length) fuel (by omega) q2 (by show(a:Int)+_=_;omega) hd (by omega)];rw[Nl,hx,<-hx,Q4,xD hxa,N5];unfold bV;simp only;rw[show a+x.length+(y.flatMap dc).length+1=a+(x.length+(y.flatMap dc).length)+1 by omega]
  ·
   have hb':aH (bI b)=false:=by simpa using hb
   have hqb:fU b=true:=by unfold di at hq;simp only[N4,NI]at hq;exact hq.1.1
   have b4:=tR hqb hb'
   have hq2:di r=true:=by
    unfold di at hq⊢;simp only[N4,NI,P2]at hq⊢;have h1:=((my (by simp)).1 hq.2).2
    have h2:dD (b::r)=1:=by
     have:b.toNat<128:=by rcases b4 with rfl|rfl|rfl|rfl<;>decide
     simp[dD,this]
    rw[h2]at h1;exact⟨hq.1.2,h1⟩
   obtain⟨g,e1,x,e2,e3⟩:∃g:UInt8,dc b=[92,g]/\∃x,jn (bI g)=some x/\UInt8.ofNat x.toNat=b:=by
    rcases b4 with rfl|rfl|rfl|rfl
    ·exact⟨110,rfl,10,rfl,rfl⟩
    ·exact⟨116,rfl,9,rfl,rfl⟩
    ·exact⟨34,rfl,34,rfl,rfl⟩
    ·exact⟨92,rfl,92,rfl,rfl⟩
   have hw2:W.drop a=92::g::(r.flatMap dc++34::z):=by rw[hw,O9,e1];rfl
   obtain⟨_,b1,hd1⟩:=eM hw2;obtain⟨_,b2,hd2⟩:=eM hd1;have b2':bAt W ((a:Int)+1)=bI g:=by exact_mod_cast b2
   simp only[N7]at hk hf;rw[bW,hp,b1,N3 (by decide),N3 (by decide),N6 (by decide),b2',e2];show bW W fr fuel (acc++[UInt8.ofNat x.toNat]) (bV c ((a:Int)+2))=_;rw[e3,qm k r (acc++[b]) (bV c ((a:Int)+2)) (a+2) fuel (by omega) hq2 (by show(a:Int)+2=_;omega) hd2 (by omega)];rw[Nl,O9,e1,N5];unfold bV;simp only;rw[show a+2+(r.flatMap dc).length+1=a+([92,g].length+(r.flatMap dc).length)+1 by simp;omega];rfl
theorem DL:∀n:Str,n.length<=(n.flatMap dc).length
 |[]=>Nt _
 |b::r=>by
  have:=DL r
  have h1:1<=(dc b).length:=by
   unfold dc
   repeat' split
   all_goals simp
  rw[O9,N5,N7];omega
theorem G2{n:Str}(h:di n=true):Pf fF (jw n) [(4,n)]/\Hd (jw n):=by
 refine⟨fun W a z hw hz=>?_,34,n.flatMap dc++[34],rfl,by decide⟩;have hw1:W.drop a=34::(n.flatMap dc++34::z):=by rw[hw];unfold jw;simp
 have hl:(jw n).length=(n.flatMap dc).length+2:=by unfold jw;simp
 obtain⟨l1,b1,hd1⟩:=eM hw1;have hlen:=OH List.length hd1;rw[NU,N5]at hlen;have hn:=DL n;refine Sk.of (t:=⟨4,n,(a:Int)⟩) (tp hw1 (by decide) (fun e=>absurd e.1 (by decide)) (by rw[hl];omega) (fun c hp=>?_));unfold aP;rw[hp,b1,N3 (by decide),N3 (by decide),N6 (by decide)];unfold cn;rw[qm n.length n [] (bV c (c.pos+1)) (a+1) (W.length+2) (Nf _) h (by show c.pos+1=_;omega) hd1 (by omega)];unfold wU;rw[N6 rfl,hl];unfold fE bV;simp only[Nk];rw[show a+1+(n.flatMap dc).length+1=a+((n.flatMap dc).length+2) by omega]
end Go.Pd
end
section
namespace Go.Pd
open Go.AL
def cH(k:Int):Bool:=decide (k=1)||decide (k=6)||decide (k=11)||decide (k=12)||decide (k=13)||decide (k=14)
def fa:List Trm->Bool
 |[]=>false
 |p::_=>cH p.kind
def opS(b:Bool)(x:Str):Str:=if b=true then[40]++x++[41]else x
def opK(b:Bool)(x:List KT):List KT:=if b=true then[(6,[40])]++x++[(6,[41])]else x
def ix{α:Type}(n:Nat)(f:Nat->α):List α:=(List.range n).map f
def mE(ns ss:List Str)(i:Nat):Str:=ns.getD i []++[58,32]++ss.getD i []
def xE(ns:List Str)(ss:List (List KT))(i:Nat):List KT:=[(1,ns.getD i [])]++[(6,[58])]++ss.getD i []
def mF(ns ps:List Str)(i:Nat):Str:=ns.getD i []++[32,61,32]++ps.getD i []
def xF(ns:List Str)(ps:List (List KT))(i:Nat):List KT:=[(1,ns.getD i [])]++[(6,[61])]++ps.getD i []
def oe(ns vs ss ps:List Str)(i:Nat):Str:=ns.getD i []++[40]++vs.getD i []++[58,32]++ss.getD i []++[41,32,45,62,32]++ps.getD (i+1) []
def uR(ns vs:List Str)(ss ps:List (List KT))(i:Nat):List KT:=[(1,ns.getD i [])]++[(6,[40])]++[(1,vs.getD i [])]++[(6,[58])]++ss.getD i []++[(6,[41]),(6,[45,62])]++ps.getD (i+1) []
abbrev DM:Str:=[116,114,117,101]
abbrev xG:Str:=[102,97,108,115,101]
abbrev CH:Str:=[108,101,116]
abbrev wIn:Str:=[105,110]
abbrev G3:Str:=[110,101,119]
abbrev G4:Str:=[114,97,119]
abbrev Al:Str:=[102,117,110]
abbrev wOf:Str:=[111,102]
abbrev wIf:Str:=[105,102]
abbrev DN:Str:=[116,104,101,110]
abbrev DO:Str:=[101,108,115,101]
abbrev wAs:Str:=[97,115]
abbrev vG:Str:=[99,97,115,101]
def qn(k:Int)(g n:Str)(z:Int)(ns vs ss ps:List Str)(b:Bool):Str:=
 if k=1 then Go.Lib.itoa z else if k=2 then jw n else if k=3 then DM else if k=4 then xG
 else if k=5 then if g=[]then n else g++[47]++n
 else if k=7 then opS b (ps.headD [])++[40]++joinG [44,32] ps.tail++[41]
 else if k=9 then opS b (ps.headD [])++[46]++n
 else if k=10 then[64]++n++[40]++ps.headD []++[41]
 else if k=14 then CH++[32]++n++[32,61,32]++ps.headD []++([32]++wIn++[32])++ps.getD 1 []
 else if k=16 then G3++[32]++n++[40]++ps.headD []++[41]
 else if k=17 then G4++[32]++n++[40]++ps.headD []++[41]
 else if k=6 then(Al++[32]++[40])++joinG [44,32] (ix ns.length (mE ns ss))++[41,32,45,62,32]++ps.headD []
 else if k=8 then[123]++joinG [44,32] (ix ns.length (mF ns ps))++[125]
 else if k=11 then[91]++joinG [44,32] ps++([93]++[32]++wOf++[32])++ss.headD []
 else if k=12 then wIf++[32]++ps.headD []++([32]++DN++[32])++ps.getD 1 []++([32]++DO++[32])++ps.getD 2 []++([32]++wAs++[32])++ss.headD []
 else if k=13 then vG++[32]++ps.headD []++([32]++wOf++[32]++[123])++joinG [32,124,32] (ix ns.length (oe ns vs ss ps))++([125]++[32]++wAs++[32])++ss.getD ns.length []
 else[40]++ps.headD []++([32]++wAs++[32])++ss.headD []++[41]
def gQ(k:Int)(g n:Str)(z:Int)(ns vs:List Str)(ss ps:List (List KT))(b:Bool):List KT:=
 if k=1 then[(3,Go.Lib.itoa z)]else if k=2 then[(4,n)]else if k=3 then[(5,DM)]else if k=4 then[(5,xG)]
 else if k=5 then if g=[]then[(1,n)]else[(1,g)]++[(6,[47])]++[(1,n)]
 else if k=7 then opK b (ps.headD [])++[(6,[40])]++joinG [(6,[44])] ps.tail++[(6,[41])]
 else if k=9 then opK b (ps.headD [])++[(6,[46])]++[(1,n)]
 else if k=10 then[(6,[64])]++[(1,n)]++[(6,[40])]++ps.headD []++[(6,[41])]
 else if k=14 then[(5,CH)]++[(1,n)]++[(6,[61])]++ps.headD []++[(5,wIn)]++ps.getD 1 []
 else if k=16 then[(5,G3)]++[(2,n)]++[(6,[40])]++ps.headD []++[(6,[41])]
 else if k=17 then[(5,G4)]++[(2,n)]++[(6,[40])]++ps.headD []++[(6,[41])]
 else if k=6 then[(5,Al),(6,[40])]++joinG [(6,[44])] (ix ns.length (xE ns ss))++[(6,[41]),(6,[45,62])]++ps.headD []
 else if k=8 then[(6,[123])]++joinG [(6,[44])] (ix ns.length (xF ns ps))++[(6,[125])]
 else if k=11 then[(6,[91])]++joinG [(6,[44])] ps++[(6,[93]),(5,wOf)]++ss.headD []
 else if k=12 then[(5,wIf)]++ps.headD []++[(5,DN)]++ps.getD 1 []++[(5,DO)]++ps.getD 2 []++[(5,wAs)]++ss.headD []
 else if k=13 then[(5,vG)]++ps.headD []++[(5,wOf),(6,[123])]++joinG [(6,[124])] (ix ns.length (uR ns vs ss ps))++[(6,[125]),(5,wAs)]++ss.getD ns.length []
 else[(6,[40])]++ps.headD []++[(5,wAs)]++ss.headD []++[(6,[41])]
mutual
def showT:Trm->Str
 |⟨k,g,n,z,ns,vs,ss,ps,_⟩=>qn k g n z ns vs (ss.map showS) (showTL ps) (fa ps)
def showTL:List Trm->List Str
 |[]=>[]
 |p::r=>showT p::showTL r
end
mutual
def toksT:Trm->List KT
 |⟨k,g,n,z,ns,vs,ss,ps,_⟩=>gQ k g n z ns vs (ss.map toksS) (toksTL ps) (fa ps)
def toksTL:List Trm->List (List KT)
 |[]=>[]
 |p::r=>toksT p::toksTL r
end
theorem dO:∀l:List Trm,showTL l=l.map showT
 |[]=>by rw[showTL];rfl
 |p::r=>by rw[showTL,dO r];rfl
theorem eB:∀l:List Trm,toksTL l=l.map toksT
 |[]=>by rw[toksTL];rfl
 |p::r=>by rw[toksTL,eB r];rfl
theorem rz{F:Str->Prop}{sep:Str}{ss:List KT}(hs:Pf fF sep ss)(hf:∀z:Str,F (sep++z)):∀(xs:List Str)(ks:List (List KT)),xs.length=ks.length->
  (∀i (hi:i<xs.length) (hk:i<ks.length),Pf F xs[i] ks[i])->Pf F (joinG sep xs) (joinG ss ks)
 |[],[],_,_=>HZ
 |[x],[k],_,h=>h 0 (by simp) (by simp)
 |x::y::r,k::j::q,hl,h=>by rw[joinG_two,joinG_two];have h0:Pf F x k:=h 0 (by simp) (by simp);have h1:Pf fF (x++sep) (k++ss):=h0.app hs (fun z _=>hf z);exact h1.app (rz hs hf (y::r) (j::q) (by simpa using hl) (fun i hi hk=>h (i+1) (by simpa using hi) (by simpa using hk))) (fun z _=>trivial)
 |[],_::_,hl,_=>by cases hl
 |_::_,[],hl,_=>by cases hl
 |[x],_::_::_,hl,_=>by cases hl
 |_::_::_,[_],hl,_=>by cases hl
theorem iv{x:Str}(h:x∈nB):Pf fF (x++[32]) [(5,x)]:=(xb h).app gu (fun z _=>jv (by decide) (by decide))
theorem j0{x:Str}(h:x∈nB):Pf fF ([32]++x++[32]) [(5,x)]:=(gu.app (xb h) (fun z _=>trivial)).app gu (fun z _=>jv (by decide) (by decide))
theorem Lj:Pf fF [32,61,32] [(6,[61])]:=gu.app (du (x:=61) (by decide)) (fun z _=>trivial)
theorem LW:Pf fF [32,124,32] [(6,[124])]:=gu.app (du (x:=124) (by decide)) (fun z _=>trivial)
theorem nI:Pf fF [41,32,45,62,32] [(6,[41]),(6,[45,62])]:=(du (x:=41) (by decide)).app (zm.app gu (fun z _=>trivial)) (fun z _=>trivial)
theorem CI:Pf NeZ (Al++[32]++[40]) [(5,Al),(6,[40])]:=(iv (by decide)).app (cI (x:=40) (by decide)) (fun z _=>trivial)
theorem CJ:Pf fF ([93]++[32]++wOf++[32]) [(6,[93]),(5,wOf)]:=by have:=(du (x:=93) (by decide)).app (iv (x:=wOf) (by decide)) (fun z _=>trivial);exact this
theorem CK:Pf fF ([125]++[32]++wAs++[32]) [(6,[125]),(5,wAs)]:=by have:=(du (x:=125) (by decide)).app (iv (x:=wAs) (by decide)) (fun z _=>trivial);exact this
theorem G5:Pf NeZ ([32]++wOf++[32]++[123]) [(5,wOf),(6,[123])]:=(j0 (x:=wOf) (by decide)).app (cI (x:=123) (by decide)) (fun z _=>trivial)
theorem gZ{x:Str}(h:aG x=true):Hd x:=by unfold aG at h;rw[N4]at h;exact pg h.1
theorem fq{y:UInt8}(hy:y∈([32,41,44,93,125]:Str))(z:Str):nj (y::z):=by
 have:∀x∈([32,41,44,93,125]:Str),bB (bI x)=false/\bI x≠61/\bI x≠46/\bI x≠45:=by decide
 obtain⟨a,b,c,d⟩:=this y hy;exact KK a b c d
def Wr(x:Str)(ks:List KT):Prop:=Pf nj x ks/\Hd x
theorem jx{α β:Type}(f:α->β)(l:List α)(i:Nat)(a:α)(b:β)(h:i<l.length):(l.map f).getD i b=f (l.getD i a):=by simp[Nb,h]
theorem tS{α:Type}(n:Nat)(f:Nat->α):(ix n f).length=n:=by simp[ix]
theorem CL{α:Type}(n:Nat)(f:Nat->α)(i:Nat)(h:i<(ix n f).length):(ix n f)[i]=f i:=by simp[ix]
theorem J2{F:Str->Prop}{sep:Str}{ss:List KT}(hs:Pf fF sep ss)(hf:∀z:Str,F (sep++z))(n:Nat)(f:Nat->Str)(k:Nat->List KT)(h:∀i,i<n->Pf F (f i) (k i)):Pf F (joinG sep (ix n f)) (joinG ss (ix n k)):=
 rz hs hf _ _ (by rw[tS,tS]) (fun i hi hk=>by
  rw[CL,CL];exact h i (by rw[tS]at hi;exact hi))
theorem J3{sep:Str}(hs:Hd sep){n:Nat}{f:Nat->Str}(h:∀i,i<n->Hd (f i))(z:Str)(hz:NeZ z):NeZ (joinG sep (ix n f)++z):=by
 by_cases e:ix n f=[]
 ·rw[e];exact hz
 ·refine(ph hs e (fun x hx=>?_)).ne z;unfold ix at hx;obtain⟨i,hi,rfl⟩:=O5.1 hx;exact h i (Pu.1 hi)
end Go.Pd
end
section
namespace Go.Pd
open Go.AL
theorem fj{y:UInt8}(hy:y∈([32,40,41,44,46,47,58,93,125]:Str))(z:Str):Fol (y::z):=by
 have:∀x∈([32,40,41,44,46,47,58,93,125]:Str),bB (bI x)=false/\bI x≠61:=by decide
 obtain⟨a,b⟩:=this y hy;exact jv a b
def Beh(k:Int)(z:Str):Prop:=if cH k=true then nj z else Fol z
theorem J4{k:Int}{z:Str}(h:nj z):Beh k z:=by unfold Beh;split;exact h;exact h.fol
theorem LX{k:Int}{z:Str}(h:cH k=false)(hz:Fol z):Beh k z:=by unfold Beh;rw[N3 (by rw[h];decide)];exact hz
theorem fk{k:Int}{z:Str}(h:Beh k z):Fol z:=by
 unfold Beh at h;split at h
 ·exact h.fol
 ·exact h
theorem KM{ps:List Trm}(hp:∀p∈ps,Pf (Beh p.kind) (showT p) (toksT p)/\Hd (showT p))(i:Nat)(hi:i<ps.length):Wr ((showTL ps).getD i []) ((toksTL ps).getD i []):=by
 rw[dO,eB,jx showT ps i cd [] hi,jx toksT ps i cd [] hi];have hm:ps.getD i cd∈ps:=by rw[Nb,N9 hi];exact OZ hi
 obtain⟨a,b⟩:=hp _ hm;exact⟨a.mono (fun z hz=>J4 hz),b⟩
theorem LY{ss:List Shape}(h:ss.all aS=true)(i:Nat)(hi:i<ss.length):Pc ((ss.map showS).getD i []) ((ss.map toksS).getD i [])/\Hd ((ss.map showS).getD i []):=by
 rw[jx showS ss i eF [] hi,jx toksS ss i eF [] hi];have hm:ss.getD i eF∈ss:=by rw[Nb,N9 hi];exact OZ hi
 have:=Ng.1 h _ hm;unfold aS at this;rw[N4,N8]at this;exact tv _ _ (Nf _) (jJ this.1).2.2
theorem aI{α:Type}(l:List α)(d:α):l.headD d=l.getD 0 d:=by cases l<;>rfl
theorem MB{ps:List Trm}(hn:0<ps.length)(hp:∀p∈ps,Pf (Beh p.kind) (showT p) (toksT p)/\Hd (showT p)):Pf Fol (opS (fa ps) ((showTL ps).headD [])) (opK (fa ps) ((toksTL ps).headD []))/\Hd (opS (fa ps) ((showTL ps).headD [])):=by
 cases ps with
 |nil=>exact absurd hn (by simp)
 |cons p r=>
  obtain⟨a,b⟩:=hp p NF;have e1:(showTL (p::r)).headD []=showT p:=by rw[showTL];rfl
  have e2:(toksTL (p::r)).headD []=toksT p:=by rw[toksTL];rfl
  rw[e1,e2];show Pf Fol (opS (cH p.kind) (showT p)) (opK (cH p.kind) (toksT p))/\Hd (opS (cH p.kind) (showT p));unfold opS opK;by_cases c:cH p.kind=true
  ·rw[N6 c,N6 c];have q1:=(cI (x:=40) (by decide)).app a (fun z _=>b.ne z);have q2:=q1.app ((cI (x:=41) (by decide)).mono (fun z (hz:Fol z)=>hz.ne)) (fun z _=>J4 (fq (y:=41) (by decide) z));exact⟨q2,40,showT p++[41],rfl,by decide⟩
  ·rw[N3 c,N3 c];exact⟨a.mono (fun z hz=>LX (by simpa using c) hz),b⟩
theorem py{l:List Str}(h:l.all aG=true)(i:Nat)(hi:i<l.length):aG (l.getD i [])=true:=by rw[Nb,N9 hi];exact Ng.1 h _ (OZ hi)
theorem hD{y:UInt8}{r:Str}(h:bI y≠61):Hd (y::r):=⟨y,r,rfl,h⟩
theorem Hd.app{x:Str}(h:Hd x)(y:Str):Hd (x++y):=by obtain⟨a,r,rfl,k⟩:=h;exact⟨a,r++y,rfl,k⟩
theorem J5{x:Str}{ks:List KT}(h:Wr x ks){a:Str}{js:List KT}(ha:Pf Fol a js):Pf Fol (a++[40]++x++[41]) (js++[(6,[40])]++ks++[(6,[41])]):=by have q1:=ha.app (cI (x:=40) (by decide)) (fun z _=>fj (y:=40) (by decide) z);have q2:=q1.app h.1 (fun z _=>h.2.ne z);exact q2.app ((cI (x:=41) (by decide)).mono (fun z (hz:Fol z)=>hz.ne)) (fun z _=>fq (y:=41) (by decide) z)
theorem G6{t:Trm}(hf:aJ t=true)(hp:∀p∈t.parts,Pf (Beh p.kind) (showT p) (toksT p)/\Hd (showT p)) :
  Pf (Beh t.kind) (qn t.kind t.pkg t.name t.n t.names t.vars (t.shapes.map showS) (showTL t.parts) (fa t.parts)) (gQ t.kind t.pkg t.name t.n t.names t.vars (t.shapes.map toksS) (toksTL t.parts) (fa t.parts))/\
  Hd (qn t.kind t.pkg t.name t.n t.names t.vars (t.shapes.map showS) (showTL t.parts) (fa t.parts)):=by
 have hop:=fun hn=>MB (ps:=t.parts) hn hp;have hpt:=KM hp;have hhp:∀d:Int,True:=fun _=>trivial;obtain⟨k,g,n,z,ns,vs,ss,ps,q⟩:=t;unfold aJ at hf;rw[N4]at hf;obtain⟨hh,hb⟩:=hf;unfold jt at hh;simp only[N4]at hh;have hss:=hh.2;have hsp:=LY hss;unfold cY at hb;simp only[bg]at hb hop hpt hsp⊢;unfold qn gQ
 have sp:∀{c:Prop} [Decidable c] {x y:Str} {u v:List KT} {F:Str->Prop},(c->Pf F x u/\Hd x)->(¬c->Pf F y v/\Hd y)->Pf F (if c then x else y) (if c then u else v)/\Hd (if c then x else y):=fun{c} _ {x y u v F} h1 h2=>by
  by_cases k:c
  ·rw[N6 k,N6 k];exact h1 k
  ·rw[N3 k,N3 k];exact h2 k
 refine sp (fun e=>?_) (fun e1=>?_)
 ·rw[N6 e]at hb;simp only[N4,N8]at hb;obtain⟨a,b,_⟩:=vE hb.1.1.2 hb.1.2;exact⟨a.mono (fun z hz=>by unfold Beh at hz;rw[N6 (by rw[e];rfl)]at hz;exact hz),b⟩
 rw[N3 e1]at hb;refine sp (fun e=>?_) (fun e2=>?_)
 ·rw[N6 e]at hb;simp only[N4]at hb;obtain⟨a,b⟩:=G2 hb.1;exact⟨a.mono (fun z hz=>trivial),b⟩
 rw[N3 e2]at hb
 have wd:∀{x:Str},x∈nB->Pf (Beh k) x [(5,x)]/\Hd x:=fun{x} h=>by
  have:∀y∈nB,aG y=true∨∃c r,y=c::r/\bI c≠61:=by
   intro y hy;have:∀y∈nB,y≠[]/\bI (y.getD 0 0)≠61:=by decide
   obtain⟨h1,h2⟩:=this y hy;obtain⟨c,r,rfl⟩:=Oo h1;exact .inr ⟨c,r,rfl,h2⟩
  refine⟨(xb h).mono (fun z hz=>fk hz),?_⟩;rcases this x h with k|k
  ·exact gZ k
  ·exact k
 refine sp (fun e=>wd (by decide)) (fun e3=>sp (fun e=>wd (by decide)) (fun e4=>?_));rw[N3 (by simp[e3,e4])]at hb;refine sp (fun e=>?_) (fun e5=>?_)
 ·rw[N6 e]at hb;simp only[N4,NW,N8]at hb;refine sp (fun hg=>⟨(fI hb.1.1).mono (fun z hz=>fk hz),gZ hb.1.1⟩) (fun hg=>?_);have hgn:=hb.1.2.resolve_left hg;have q1:=(fI hgn).app (cI (x:=47) (by decide)) (fun z _=>fj (y:=47) (by decide) z);exact⟨q1.app ((fI hb.1.1).mono (fun z hz=>fk hz)) (fun z _=>(gZ hb.1.1).ne z),((gZ hgn).app _).app _⟩
 rw[N3 e5]at hb;refine sp (fun e=>?_) (fun e7=>?_)
 ·rw[N3 (by rw[e];decide),N6 e]at hb;simp only[N4,N8]at hb;obtain⟨a,b⟩:=hop hb.1.2;have q1:=a.app (cI (x:=40) (by decide)) (fun z _=>fj (y:=40) (by decide) z);have hl:(showTL ps).tail.length=(toksTL ps).tail.length:=by rw[dO,eB];simp
  have hj:∀i (hi:i<(showTL ps).tail.length) (hk:i<(toksTL ps).tail.length),Wr (showTL ps).tail[i] (toksTL ps).tail[i]:=fun i hi hk=>by
   have h1:i+1<ps.length:=by rw[dO]at hi;simp at hi;omega
   have:=hpt (i+1) h1;rw[Nb,N9 (by rw[dO];simpa using h1),Nb,N9 (by rw[eB];simpa using h1)]at this;simpa using this
  have j:=rz (F:=nj) (du (x:=44) (by decide)) (fun z=>fq (y:=44) (by decide) _) _ _ hl (fun i hi hk=>(hj i hi hk).1)
  have q2:=q1.app j (fun z hz=>by
   by_cases c:(showTL ps).tail=[]
   ·rw[c];exact hz.fol.ne
   ·refine(ph (sep:=[44,32]) ⟨44,[32],rfl,by decide⟩ c (fun x hx=>?_)).ne z;obtain⟨i,hi,rfl⟩:=P4.1 hx;exact(hj i hi (by rw[<-hl];exact hi)).2)
  exact⟨q2.app ((cI (x:=41) (by decide)).mono (fun z hz=>(fk hz).ne)) (fun z _=>fq (y:=41) (by decide) z),((b.app _).app _).app _⟩
 refine sp (fun e=>?_) (fun e9=>?_)
 ·rw[N3 (by rw[e];decide),N3 (by rw[e];decide),N3 (by rw[e];decide),N6 (.inl e)]at hb;simp only[N4,N8]at hb;obtain⟨a,b⟩:=hop (by have:=hb.2.2;omega);have q1:=a.app (cI (x:=46) (by decide)) (fun z _=>fj (y:=46) (by decide) z);exact⟨q1.app ((fI hb.1).mono (fun z hz=>fk hz)) (fun z _=>(gZ hb.1).ne z),(b.app _).app _⟩
 refine sp (fun e=>?_) (fun e10=>?_)
 ·rw[N3 (by rw[e];decide),N3 (by rw[e];decide),N3 (by rw[e];decide),N6 (.inr e)]at hb;simp only[N4,N8]at hb;have w:=hpt 0 (by have:=hb.2.2;omega);rw[<-aI,<-aI]at w;have q1:=(cI (x:=64) (by decide)).app (fI hb.1) (fun z _=>(gZ hb.1).ne z);exact⟨(J5 w q1).mono (fun z hz=>fk hz),hD (by decide)⟩
 refine sp (fun e=>?_) (fun e14=>?_)
 ·rw[N3 (by rw[e];decide),N3 (by rw[e];decide),N3 (by rw[e];decide),N3 (by rw[e];decide),N3 (by rw[e];decide),N3 (by rw[e];decide),N3 (by rw[e];decide),N6 e]at hb;simp only[N4,N8]at hb;have hl:=hb.2.2;have w0:=hpt 0 (by omega);have w1:=hpt 1 (by omega);rw[<-aI,<-aI]at w0;have q1:=(iv (x:=CH) (by decide)).app (fI hb.1) (fun z _=>trivial);have q2:=q1.app Lj (fun z _=>fj (y:=32) (by decide) _);have q3:=q2.app w0.1 (fun z _=>trivial);have q4:=q3.app (j0 (x:=wIn) (by decide)) (fun z _=>fq (y:=32) (by decide) _);exact⟨(q4.app w1.1 (fun z _=>trivial)).mono (fun z hz=>by unfold Beh at hz;rw[N6 (by rw[e];rfl)]at hz;exact hz),hD (by decide)⟩
 refine sp (fun e=>?_) (fun e16=>?_)
 ·rw[N3 (by rw[e];decide),N3 (by rw[e];decide),N3 (by rw[e];decide),N3 (by rw[e];decide),N3 (by rw[e];decide),N3 (by rw[e];decide),N3 (by rw[e];decide),N3 (by rw[e];decide),N3 (by rw[e];decide),N6 (.inl e)]at hb;simp only[N4,N8]at hb;have w:=hpt 0 (by have:=hb.2.2;omega);rw[<-aI,<-aI]at w;have q1:=(iv (x:=G3) (by decide)).app (pe hb.1) (fun z _=>trivial);exact⟨(J5 w q1).mono (fun z hz=>fk hz),hD (by decide)⟩
 refine sp (fun e=>?_) (fun e17=>?_)
 ·rw[N3 (by rw[e];decide),N3 (by rw[e];decide),N3 (by rw[e];decide),N3 (by rw[e];decide),N3 (by rw[e];decide),N3 (by rw[e];decide),N3 (by rw[e];decide),N3 (by rw[e];decide),N3 (by rw[e];decide),N6 (.inr e)]at hb;simp only[N4,N8]at hb;have w:=hpt 0 (by have:=hb.2.2;omega);rw[<-aI,<-aI]at w;have q1:=(iv (x:=G4) (by decide)).app (pe hb.1) (fun z _=>trivial);exact⟨(J5 w q1).mono (fun z hz=>fk hz),hD (by decide)⟩
 refine sp (fun e=>?_) (fun e6=>?_)
 ·rw[N6 e]at hb;simp only[N4,N8,cK]at hb;have x2:=hb.1.2.1;have x6:=hb.2.1.2;have x7:=hb.2.2;have w:=hpt 0 (by omega);rw[<-aI,<-aI]at w;have one:∀i,i<ns.length->Pf Fol (mE ns (ss.map showS) i) (xE ns (ss.map toksS) i)/\Hd (mE ns (ss.map showS) i):=fun i hi=>by have hn:=py x2 i hi;obtain⟨s1,s2⟩:=hsp i (by omega);have q1:=(fI hn).app (du (x:=58) (by decide)) (fun z _=>fj (y:=58) (by decide) _);exact⟨q1.app s1 (fun z _=>trivial),((gZ hn).app _).app _⟩
  have j:=J2 (F:=Fol) (du (x:=44) (by decide)) (fun z=>fj (y:=44) (by decide) _) ns.length _ _ (fun i hi=>(one i hi).1);have q1:=CI.app j (fun z hz=>J3 (sep:=[44,32]) ⟨44,[32],rfl,by decide⟩ (fun i hi=>(one i hi).2) z hz.ne);have q2:=q1.app nI (fun z _=>fj (y:=41) (by decide) _);exact⟨(q2.app w.1 (fun z _=>trivial)).mono (fun z hz=>by unfold Beh at hz;rw[N6 (by rw[e];rfl)]at hz;exact hz),hD (by decide)⟩
 rw[N3 e6,N3 e7]at hb;refine sp (fun e=>?_) (fun e8=>?_)
 ·rw[N6 e]at hb;simp only[N4,N8,cK]at hb;have x2:=hb.1.2.1;have x7:=hb.2.2;have one:∀i,i<ns.length->Pf nj (mF ns (showTL ps) i) (xF ns (toksTL ps) i)/\Hd (mF ns (showTL ps) i):=fun i hi=>by have hn:=py x2 i hi;have w:=hpt i (by omega);have q1:=(fI hn).app Lj (fun z _=>fj (y:=32) (by decide) _);exact⟨q1.app w.1 (fun z _=>trivial),((gZ hn).app _).app _⟩
  have j:=J2 (F:=nj) (du (x:=44) (by decide)) (fun z=>fq (y:=44) (by decide) _) ns.length _ _ (fun i hi=>(one i hi).1);have q1:=(cI (x:=123) (by decide)).app j (fun z hz=>J3 (sep:=[44,32]) ⟨44,[32],rfl,by decide⟩ (fun i hi=>(one i hi).2) z hz.fol.ne);exact⟨q1.app ((cI (x:=125) (by decide)).mono (fun z hz=>(fk hz).ne)) (fun z _=>fq (y:=125) (by decide) _),hD (by decide)⟩
 rw[N3 e8,N3 (by simp[e9,e10])]at hb;refine sp (fun e=>?_) (fun e11=>?_)
 ·rw[N6 e]at hb;simp only[N4,N8]at hb;have x6:=hb.2.1.2;obtain⟨s1,s2⟩:=hsp 0 (by omega);rw[<-aI,<-aI]at s1;have hl:(showTL ps).length=(toksTL ps).length:=by rw[dO,eB];simp
  have hj:∀i (hi:i<(showTL ps).length) (hk:i<(toksTL ps).length),Wr (showTL ps)[i] (toksTL ps)[i]:=fun i hi hk=>by
   have h1:i<ps.length:=by rw[dO]at hi;simpa using hi
   have:=hpt i h1;rw[Nb,N9 hi,Nb,N9 hk]at this;exact this
  have j:=rz (F:=nj) (du (x:=44) (by decide)) (fun z=>fq (y:=44) (by decide) _) _ _ hl (fun i hi hk=>(hj i hi hk).1)
  have q1:=(cI (x:=91) (by decide)).app j (fun z hz=>by
   by_cases c:showTL ps=[]
   ·rw[c];exact hz.fol.ne
   ·refine(ph (sep:=[44,32]) ⟨44,[32],rfl,by decide⟩ c (fun x hx=>?_)).ne z;obtain⟨i,hi,rfl⟩:=P4.1 hx;exact(hj i hi (by rw[<-hl];exact hi)).2)
  have q2:=q1.app CJ (fun z _=>fq (y:=93) (by decide) _);exact⟨(q2.app s1 (fun z _=>trivial)).mono (fun z hz=>fk hz),hD (by decide)⟩
 rw[N3 e11]at hb;refine sp (fun e=>?_) (fun e12=>?_)
 ·rw[N6 e]at hb;simp only[N4,N8]at hb;have x6:=hb.2.1.2;have x7:=hb.2.2;obtain⟨s1,s2⟩:=hsp 0 (by omega);rw[<-aI,<-aI]at s1;have w0:=hpt 0 (by omega);rw[<-aI,<-aI]at w0;have q1:=(iv (x:=wIf) (by decide)).app w0.1 (fun z _=>trivial);have q2:=q1.app (j0 (x:=DN) (by decide)) (fun z _=>fq (y:=32) (by decide) _);have q3:=q2.app (hpt 1 (by omega)).1 (fun z _=>trivial);have q4:=q3.app (j0 (x:=DO) (by decide)) (fun z _=>fq (y:=32) (by decide) _);have q5:=q4.app (hpt 2 (by omega)).1 (fun z _=>trivial);have q6:=q5.app (j0 (x:=wAs) (by decide)) (fun z _=>fq (y:=32) (by decide) _);exact⟨(q6.app s1 (fun z _=>trivial)).mono (fun z hz=>fk hz),hD (by decide)⟩
 rw[N3 e12]at hb;refine sp (fun e=>?_) (fun e13=>?_)
 ·rw[N6 e]at hb;simp only[N4,N8,cK]at hb;have x2:=hb.1.1.2.1;have x3:=hb.1.2;have x5:=hb.2.1.1.2;have x6:=hb.2.1.2;have x7:=hb.2.2;have w0:=hpt 0 (by omega);rw[<-aI,<-aI]at w0;obtain⟨s1,s2⟩:=hsp ns.length (by omega);have one:∀i,i<ns.length->Pf nj (oe ns vs (ss.map showS) (showTL ps) i) (uR ns vs (ss.map toksS) (toksTL ps) i)/\Hd (oe ns vs (ss.map showS) (showTL ps) i):=fun i hi=>by have hn:=py x2 i hi;have hv:=py x3 i (by omega);obtain⟨t1,t2⟩:=hsp i (by omega);have w:=hpt (i+1) (by omega);have q1:=(fI hn).app (cI (x:=40) (by decide)) (fun z _=>fj (y:=40) (by decide) _);have q2:=q1.app (fI hv) (fun z _=>(gZ hv).ne z);have q3:=q2.app (du (x:=58) (by decide)) (fun z _=>fj (y:=58) (by decide) _);have q4:=q3.app t1 (fun z _=>trivial);have q5:=q4.app nI (fun z _=>fj (y:=41) (by decide) _);exact⟨q5.app w.1 (fun z _=>trivial),((((((gZ hn).app _).app _).app _).app _).app _).app _⟩
  have j:=J2 (F:=nj) LW (fun z=>fq (y:=32) (by decide) _) ns.length _ _ (fun i hi=>(one i hi).1);have q1:=(iv (x:=vG) (by decide)).app w0.1 (fun z _=>trivial);have q2:=q1.app G5 (fun z _=>fq (y:=32) (by decide) _);have q3:=q2.app j (fun z hz=>J3 (sep:=[32,124,32]) ⟨32,[124,32],rfl,by decide⟩ (fun i hi=>(one i hi).2) z hz.fol.ne);have q4:=q3.app CK (fun z _=>fq (y:=125) (by decide) _);exact⟨(q4.app s1 (fun z _=>trivial)).mono (fun z hz=>fk hz),hD (by decide)⟩
 rw[N3 e13,N3 e14]at hb;by_cases e15:k=15
 ·rw[N6 e15]at hb;simp only[N4,N8]at hb;have x6:=hb.2.1.2;have x7:=hb.2.2;obtain⟨s1,s2⟩:=hsp 0 (by omega);rw[<-aI,<-aI]at s1;have w0:=hpt 0 (by omega);rw[<-aI,<-aI]at w0;have q1:=(cI (x:=40) (by decide)).app w0.1 (fun z _=>w0.2.ne z);have q2:=q1.app (j0 (x:=wAs) (by decide)) (fun z _=>fq (y:=32) (by decide) _);have q3:=q2.app s1 (fun z _=>trivial);exact⟨q3.app ((cI (x:=41) (by decide)).mono (fun z hz=>(fk hz).ne)) (fun z _=>fj (y:=41) (by decide) _),hD (by decide)⟩
 ·rw[N3 e15,N3 (by simp[e16,e17])]at hb;cases hb
mutual
theorem term_pc:∀t:Trm,allT aJ t=true->Pf (Beh t.kind) (showT t) (toksT t)/\Hd (showT t)
 |⟨k,g,n,z,ns,vs,ss,ps,q⟩,h=>by rw[dQ,N4]at h;have:=G6 h.1 (terms_pc ps h.2);rw[showT,toksT];exact this
theorem terms_pc:∀l:List Trm,allTL aJ l=true->∀p∈l,Pf (Beh p.kind) (showT p) (toksT p)/\Hd (showT p)
 |[],_,p,hp=>by cases hp
 |t::r,h,p,hp=>by
  rw[allTL,N4]at h;rcases Nw.1 hp with e|k
  ·rw[e];exact term_pc t h.1
  ·exact terms_pc r h.2 p k
end
end Go.Pd
end
section
namespace Go.Pd
open Go.AL
section
variable {l:List Tokn} {f:Int}
theorem At.hd1{p:Int}{ks js:List KT}(h:At l p (ks++js)):At l p ks:=((mD ks js p).1 h).1
theorem At.tl1{p:Int}{ks js:List KT}(h:At l p (ks++js)):At l (p+(ks.length:Int)) js:=((mD ks js p).1 h).2
theorem KN{q:Int}(h:(dP l q).kind≠0):q<(l.length:Int):=by
 unfold dP at h;split at h
 ·assumption
 ·split at h<;>exact absurd rfl h
theorem Lk{p:Int}{k:Int}{t:Str}{r:List KT}(h:At l p ((k,t)::r))(hk:k≠0):p<(l.length:Int):=by have e:(dP l p).kind=k:=(gX (f:=0) h).1;exact KN (by rw[e];exact hk)
theorem fv{a b:Int}(h:a=b):St0 l a f=St0 l b f:=by rw[h]
theorem vH:∀(n:Nat)(s:Shape),sz s<=n->allS bc s=true->∃(r:List KT)(k:Int)(t:Str),toksS s=r++[(k,t)]/\k≠0
 |0,s,hn,_=>by have:=gj s;omega
 |n+1,s,hn,hf=>by
  rw[fH,N4,eX,Ng]at hf;obtain⟨f1,f2⟩:=hf;have hz:=ky s;rw[mB];unfold bc at f1;simp only at f1;unfold tt;by_cases k1:s.kind=1
  ·rw[N6 k1];exact⟨[],_,_,rfl,by decide⟩
  rw[N3 k1];by_cases k2:s.kind=2
  ·rw[N6 k2];exact⟨[],_,_,rfl,by decide⟩
  rw[N3 k2];by_cases k3:s.kind=3
  ·rw[N6 k3];exact⟨[],_,_,rfl,by decide⟩
  rw[N3 k3];by_cases k4:s.kind=4
  ·rw[N6 k4];exact⟨[],_,_,rfl,by decide⟩
  rw[N3 k4];by_cases k5:s.kind=5
  ·rw[N6 k5];exact⟨_,_,_,rfl,by decide⟩
  rw[N3 k5];by_cases k6:s.kind=6
  ·rw[N6 k6];exact⟨_,_,_,rfl,by decide⟩
  rw[N3 k6];by_cases k7:s.kind=7
  ·rw[N6 k7];exact⟨_,_,_,rfl,by decide⟩
  rw[N3 k7];rw[N3 (by simp[k1,k2,k3,k4]),N3 k5,N3 (by simp[k6,k7])]at f1;by_cases k8:s.kind=8
  ·rw[N6 k8]at f1⊢;simp only[N4,Np,N8,Ns]at f1;rw[f1.1.2,(od f1.2).1];have hm:s.parts.getLastD Ep∈s.parts:=by rw[Oq,OS f1.2];exact List.getLast_mem f1.2
   obtain⟨r,k,t,e,hk⟩:=vH n _ (by have:=gi hm;omega) (f2 _ hm);rw[e];exact⟨_,k,t,(Nl _ _ _).symm,hk⟩
  rw[N3 k8];by_cases hg:s.pkg=[]
  ·rw[N6 hg];exact⟨[],_,_,rfl,by decide⟩
  ·rw[N3 hg];exact⟨[(1,s.pkg),(6,[47])],_,_,rfl,by decide⟩
theorem vI{s:Shape}(ht:aS s=true){p:Int}(h0:0<=p)(ha:At l p (toksS s)):bw (St0 l p f)=(s,St0 l (p+((toksS s).length:Int)) f):=by
 unfold aS at ht;rw[N4,N8]at ht;obtain⟨c1,_,c3⟩:=jJ ht.1;have hz:=xC _ s (Nf _) c3;obtain⟨r,k,t,e,hk⟩:=vH _ s (Nf _) c3;have hl:(toksS s).length<=l.length:=by have h1:=ha;rw[e]at h1;have:=Lk h1.tl1 hk;rw[e,N5,Nc];omega
 have hb:ah big (St0 l p f)=(s,St0 l (p+((toksS s).length:Int)) f):=qk big s (by show _<=5000;omega) (by omega) c3 ht.2 p ha;unfold bw;simp only[hb];rw[N3 (by rw[bK.2 rfl];decide),N6 ht.1]
theorem mG{s:Shape}(ht:aS s=true){p:Int}(h0:0<=p){k:Int}{w:Str}(hk:k=6∨k=5)(ha:At l p ((k,w)::toksS s))(x:Trm):eQ w x (St0 l p f)=(bd x s,St0 l (p+1+((toksS s).length:Int)) f):=by unfold eQ;rw[cJ ha hk,vI ht (by omega) ha.2]
theorem DP{α:Type}(sep:List α)(hs:1<=sep.length):∀xs:List (List α),xs.length<=(joinG sep xs).length+1
 |[]=>by simp
 |[x]=>by simp
 |x::y::r=>by have:=DP sep hs (y::r);rw[joinG_two,N5,N5];simp only[N7]at this⊢;omega
theorem vJ{σ:Type}{one:σ->Par->σ×Par}{btw en:Str}(hbe:btw≠en){n:Nat}{K:Nat->List KT}{Q:Nat->σ->Prop}
 (h:∀j x p,j<n->Q j x->0<=p->At l p (K j)->(At l (p+((K j).length:Int)) [(6,btw)]∨At l (p+((K j).length:Int)) [(6,en)])->∃x',one x (St0 l p f)=(x',St0 l (p+((K j).length:Int)) f)/\Q (j+1) x') :
  ∀(m i:Nat)(x:σ)(p:Int)(k:Nat),i+m=n->0<m->m<=k->Q i x->0<=p->At l p (joinG [(6,btw)] ((List.range' i m).map K)++[(6,en)])->
   ∃x',aV btw en one k x (St0 l p f)=(x',St0 l (p+((joinG [(6,btw)] ((List.range' i m).map K)).length:Int)+1) f)/\Q n x'
 |0,_,_,_,_,_,h0,_,_,_,_=>absurd h0 (by decide)
 |_+1,_,_,_,0,_,_,hk,_,_,_=>absurd hk (by simp)
 |1,i,x,p,k+1,hi,_,_,hq,hp,ha=>by have e0:joinG [((6,btw):KT)] ((List.range' i 1).map K)=K i:=rfl;rw[e0]at ha⊢;obtain⟨x',e1,q1⟩:=h i x p (by omega) hq hp ha.hd1 (.inr ha.tl1);refine⟨x',?_,by rw[<-hi];exact q1⟩;simp only[aV];rw[N3 (by rw[bK.2 rfl];decide),e1,dR ha.tl1,N6 (by simp)];rfl
 |m+2,i,x,p,k+1,hi,_,hk,hq,hp,ha=>by
  have e0:joinG [((6,btw):KT)] ((List.range' i (m+2)).map K)=K i++[(6,btw)]++joinG [(6,btw)] ((List.range' (i+1) (m+1)).map K):=by rw[PT,Nj];rw[PT,Nj,joinG_two]
  rw[e0]at ha⊢;rw[Nl,Nl]at ha;have h2:=ha.tl1;obtain⟨x',e1,q1⟩:=h i x p (by omega) hq hp ha.hd1 (.inl ⟨h2.1,trivial⟩);have h3:At l (p+((K i).length:Int)) ((6,btw)::(joinG [(6,btw)] ((List.range' (i+1) (m+1)).map K)++[(6,en)])):=h2;obtain⟨x2,e2,q2⟩:=vJ hbe h (m+1) (i+1) x' _ k (by omega) (by omega) (by omega) q1 (by omega) h3.2;refine⟨x2,?_,q2⟩;simp only[aV];rw[N3 (by rw[bK.2 rfl];decide),e1,dR h3,N3 (by simpa using hbe),cJ h3 (.inl rfl),e2];refine OB rfl (fv ?_);simp only[N5,N7,Na];omega
theorem n9{σ:Type}{one:σ->Par->σ×Par}{btw en:Str}(hbe:btw≠en){n:Nat}{K:Nat->List KT}{Q:Nat->σ->Prop}
 (h:∀j x p,j<n->Q j x->0<=p->At l p (K j)->(At l (p+((K j).length:Int)) [(6,btw)]∨At l (p+((K j).length:Int)) [(6,en)])->∃x',one x (St0 l p f)=(x',St0 l (p+((K j).length:Int)) f)/\Q (j+1) x')
 (hf:∀p,0<n->At l p (K 0)->isF en (St0 l p f)=false){x:σ}{p:Int}(hq:Q 0 x)(hp:0<=p)(ha:At l p (joinG [(6,btw)] (ix n K)++[(6,en)])) :
  ∃x',ab btw en one x (St0 l p f)=(x',St0 l (p+((joinG [(6,btw)] (ix n K)).length:Int)+1) f)/\Q n x':=by
 unfold ab;have hlen:n<=l.length+2:=by have h1:=Lk ha.tl1 (by decide);have h2:=DP [((6,btw):KT)] (by simp) (ix n K);rw[tS]at h2;omega
 unfold ix at ha⊢;rw[List.range_eq_range']at ha⊢
 cases n with
 |zero=>have e0:joinG [((6,btw):KT)] ((List.range' 0 0).map K)=[]:=rfl;rw[e0]at ha⊢;rw[dR ha,N6 (by simp)];exact⟨x,by simp[aD],hq⟩
 |succ n=>
  have h0:At l p (K 0):=by
   rw[PT,Nj]at ha
   cases c:(List.range' (0+1) n).map K with|nil=>rw[c,iZ]at ha;exact ha.hd1|cons y r=>rw[c,joinG_two,Nl,Nl]at ha;exact ha.hd1
  rw[hf p (by omega) h0,N3 (by decide)];exact vJ hbe h (n+1) 0 x p (l.length+2) (by omega) (by omega) hlen hq hp ha
theorem KO{α:Type}(xs:List α)(d:α):xs=ix xs.length (fun i=>xs.getD i d):=by
 apply List.ext_getElem
 ·rw[tS]
 ·intro i h1 h2;rw[CL];simp[Nb,h1]
def tT(l:List Tokn)(q:Int):Prop:=jK l q [40]=false/\jK l q [46]=false/\jK l q [47]=false
theorem CM{q:Int}{u:Str}(h:jK l q u=false):isF u (St0 l q f)=false:=by unfold isF;rw[show(St0 l q f).toks=l from rfl,show(St0 l q f).pos=q from rfl,h];rfl
theorem KP{q:Int}(h:tT l q):isF [40] (St0 l q f)=false/\isF [46] (St0 l q f)=false:=⟨CM h.1,CM h.2.1⟩
theorem eP{q:Int}{k:Int}{t:Str}{r:List KT}(h:At l q ((k,t)::r))(ht:t≠[40]/\t≠[46]/\t≠[47]):tT l q:=by have h1:=h.1;unfold kt at h1;have h2:(dP l q).text=t:=OH Prod.snd h1;unfold tT jK;rw[h2,Xf ht.1,Xf ht.2.1,Xf ht.2.2];simp
def Bk(l:List Tokn)(f:Int)(R:Par->Trm×Par)(t:Trm):Prop:=∀p,0<=p->At l p (toksT t)->tT l (p+((toksT t).length:Int))->∃u,bareT u=bareT t/\R (St0 l p f)=(u,St0 l (p+((toksT t).length:Int)) f)
end
end Go.Pd
end
section
namespace Go.Pd
open Go.AL
theorem dw{k k' z z' q q':Int}{g g' n n':Str}{ns ns' vs vs':List Str}{ss ss':List Shape}{ps ps':List Trm}(h1:k=k')(h2:g=g')(h3:n=n')(h4:z=z')(h5:ns=ns')(h6:vs=vs')(h7:ss=ss')(h8:ps.map bareT=ps'.map bareT) :
  bareT ⟨k,g,n,z,ns,vs,ss,ps,q⟩=bareT ⟨k',g',n',z',ns',vs',ss',ps',q'⟩:=by
 subst h1 h2 h3 h4 h5 h6 h7;rw[bareT,bareT,o8,o8,h8]
theorem eH{α:Type}(l:List α)(j:Nat)(d:α)(h:j<l.length):l.take (j+1)=l.take j++[l.getD j d]:=by rw[List.take_succ,N9 h,Nb,N9 h];rfl
theorem og{us ps:List Trm}{u:Trm}{j:Nat}(h:us.map bareT=(ps.take j).map bareT)(hj:j<ps.length)(hu:bareT u=bareT (ps.getD j cd)):(us++[u]).map bareT=(ps.take (j+1)).map bareT:=by rw[eH ps j cd hj,Ox,Ox,h,Nj,Nj,hu]
theorem tU{ns:List Str}(h:ns.Nodup){j:Nat}(hj:j<ns.length):¬ns.getD j []∈ns.take j:=by have e:=eH ns j [] hj;have:(ns.take (j+1)).Nodup:=h.sublist (List.take_sublist _ _);rw[e,Qi]at this;exact fun m=>this.2.2 _ m _ (NK.2 rfl) rfl
def pSt:List Str:=[Al,CH,wIf,vG,[91]]
def nSt:List Str:=[DM,xG,[40],[123],[64],G3,G4]
theorem mH(m:Int){w:Str}(h:decide (w∈if cH m=true then pSt else nSt)=true):w∈(if cH m=true then pSt else nSt):=Xo h
theorem oh:∀t:Trm,allT aJ t=true->∃(c:Int)(w:Str)(r:List KT),toksT t=(c,w)::r/\c≠0/\((c=5∨c=6)->w∈(if cH t.kind=true then pSt else nSt))
 |⟨k,g,n,z,ns,vs,ss,ps,q⟩,h=>by
  rw[dQ,N4]at h;obtain⟨h1,h2⟩:=h
  have op:0<ps.length->∃(c:Int)(w:Str)(r:List KT),opK (fa ps) ((toksTL ps).headD [])=(c,w)::r/\c≠0/\((c=5∨c=6)->w∈nSt):=fun hn=>by
   cases hps:ps with
   |nil=>rw[hps]at hn;exact absurd hn (by simp)
   |cons p r=>
    simp only[hps,allTL,N4]at h2;have hdec:SizeOf.sizeOf p<SizeOf.sizeOf (⟨k,g,n,z,ns,vs,ss,ps,q⟩:Trm):=by rw[hps];simp;omega
    obtain⟨c,w,r',e,h3,h4⟩:=oh p h2.1;have e2:(toksTL (p::r)).headD []=toksT p:=by rw[toksTL];rfl
    rw[e2];show ∃(c:Int)(w:Str)(r:List KT),opK (cH p.kind) (toksT p)=(c,w)::r/\c≠0/\((c=5∨c=6)->w∈nSt);unfold opK;by_cases b:cH p.kind=true
    ·rw[N6 b];exact⟨6,[40],toksT p++[(6,[41])],rfl,by decide,fun _=>by decide⟩
    ·rw[N3 b];exact⟨c,w,r',e,h3,fun y=>by have:=h4 y;rwa [N3 b]at this⟩
  unfold aJ at h1;rw[N4]at h1;have hb:=h1.2;unfold cY bg at hb;simp only at hb;rw[toksT];unfold gQ;by_cases e1:k=1
  ·rw[N6 e1];exact⟨_,_,_,rfl,by decide,fun y=>by simp at y⟩
  rw[N3 e1];by_cases e2:k=2
  ·rw[N6 e2];exact⟨_,_,_,rfl,by decide,fun y=>by simp at y⟩
  rw[N3 e2];by_cases e3:k=3
  ·rw[N6 e3,e3];exact⟨_,_,_,rfl,by decide,fun y=>mH 3 (by decide)⟩
  rw[N3 e3];by_cases e4:k=4
  ·rw[N6 e4,e4];exact⟨_,_,_,rfl,by decide,fun y=>mH 4 (by decide)⟩
  rw[N3 e4];by_cases e5:k=5
  ·rw[N6 e5];by_cases hg:g=[]
   ·rw[N6 hg];exact⟨_,_,_,rfl,by decide,fun y=>by simp at y⟩
   ·rw[N3 hg];exact⟨_,_,_,rfl,by decide,fun y=>by simp at y⟩
  rw[N3 e5];by_cases e7:k=7
  ·rw[N6 e7];rw[N3 e1,N3 e2,N3 (by simp[e3,e4]),N3 e5,N3 (by rw[e7];decide),N6 e7]at hb;simp only[N4,N8]at hb;obtain⟨c,w,r,e,a,b⟩:=op hb.1.2;rw[e,e7];exact⟨c,w,_,rfl,a,b⟩
  rw[N3 e7];by_cases e9:k=9
  ·rw[N6 e9];rw[N3 e1,N3 e2,N3 (by simp[e3,e4]),N3 e5,N3 (by rw[e9];decide),N3 e7,N3 (by rw[e9];decide),N6 (.inl e9)]at hb;simp only[N4,N8]at hb;obtain⟨c,w,r,e,a,b⟩:=op (by have:=hb.2.2;omega);rw[e,e9];exact⟨c,w,_,rfl,a,b⟩
  rw[N3 e9];by_cases e10:k=10
  ·rw[N6 e10,e10];exact⟨_,_,_,rfl,by decide,fun y=>mH 10 (by decide)⟩
  rw[N3 e10];by_cases e14:k=14
  ·rw[N6 e14,e14];exact⟨_,_,_,rfl,by decide,fun y=>mH 14 (by decide)⟩
  rw[N3 e14];by_cases e16:k=16
  ·rw[N6 e16,e16];exact⟨_,_,_,rfl,by decide,fun y=>mH 16 (by decide)⟩
  rw[N3 e16];by_cases e17:k=17
  ·rw[N6 e17,e17];exact⟨_,_,_,rfl,by decide,fun y=>mH 17 (by decide)⟩
  rw[N3 e17];by_cases e6:k=6
  ·rw[N6 e6,e6];exact⟨_,_,_,rfl,by decide,fun y=>mH 6 (by decide)⟩
  rw[N3 e6];by_cases e8:k=8
  ·rw[N6 e8,e8];exact⟨_,_,_,rfl,by decide,fun y=>mH 8 (by decide)⟩
  rw[N3 e8];by_cases e11:k=11
  ·rw[N6 e11,e11];exact⟨_,_,_,rfl,by decide,fun y=>mH 11 (by decide)⟩
  rw[N3 e11];by_cases e12:k=12
  ·rw[N6 e12,e12];exact⟨_,_,_,rfl,by decide,fun y=>mH 12 (by decide)⟩
  rw[N3 e12];by_cases e13:k=13
  ·rw[N6 e13,e13];exact⟨_,_,_,rfl,by decide,fun y=>mH 13 (by decide)⟩
  rw[N3 e13];have:cH k=false:=by unfold cH;simp[e1,e6,e11,e12,e13,e14]
  refine⟨6,[40],_,rfl,by decide,fun y=>?_⟩;rw[N3 (by rw[this];decide)]
  decide
 termination_by t=>SizeOf.sizeOf t
section
variable {l:List Tokn} {f:Int}
theorem gx{p c:Int}{w u:Str}{r:List KT}(h:At l p ((c,w)::r))(hc:c=5∨c=6):isF u (St0 l p f)=decide (w=u):=by rw[nH h];rcases hc with rfl|rfl<;>simp
theorem tV{p c:Int}{w u:Str}{r:List KT}(h:At l p ((c,w)::r))(hc:¬(c=5∨c=6)):isF u (St0 l p f)=false:=by rw[nH h,Xf (fun e=>hc (.inr e)),Xf (fun e=>hc (.inl e))];rfl
theorem fV(qs:List Trm)(j:Nat)(h:j<qs.length):(toksTL qs).getD j []=toksT (qs.getD j cd):=by rw[eB,jx toksT qs j cd [] h]
theorem bT{α:Type}(l:List α)(j:Nat)(d:α)(h:j<l.length):l.getD j d∈l:=by rw[Nb,N9 h];exact OZ h
theorem tW{R:Par->Trm×Par}{btw en:Str}(hbe:btw≠en)(hb:btw≠[40]/\btw≠[46]/\btw≠[47])(he:en=[41]∨en=[93]){qs:List Trm}(hq:∀q∈qs,Bk l f R q/\allT aJ q=true)(x:Trm){p:Int}(hp:0<=p)
 (ha:At l p (joinG [(6,btw)] (toksTL qs)++[(6,en)])) :
  ∃us,us.map bareT=qs.map bareT/\ab btw en (aA R) x (St0 l p f)=(⟨x.kind,x.pkg,x.name,x.n,x.names,x.vars,x.shapes,x.parts++us,x.pos⟩,St0 l (p+((joinG [(6,btw)] (toksTL qs)).length:Int)+1) f):=by
 have hix:toksTL qs=ix qs.length (fun i=>(toksTL qs).getD i []):=by have:=KO (toksTL qs) [];rw[show(toksTL qs).length=qs.length by rw[eB];simp]at this;exact this
 have hen:en≠[40]/\en≠[46]/\en≠[47]:=by rcases he with rfl|rfl<;>decide
 rw[hix]at ha⊢
 have:=n9 (l:=l) (f:=f) hbe (n:=qs.length) (K:=fun i=>(toksTL qs).getD i []) (one:=aA R)
  (Q:=fun j y=>∃us,us.map bareT=(qs.take j).map bareT/\y=(⟨x.kind,x.pkg,x.name,x.n,x.names,x.vars,x.shapes,x.parts++us,x.pos⟩:Trm))
  (fun j y q hj hy h0 h1 h2=>by
   obtain⟨us,hu,rfl⟩:=hy;simp only[fV qs j hj]at h1 h2⊢;obtain⟨u,e1,e2⟩:=(hq _ (bT qs j cd hj)).1 q h0 h1 (h2.elim (fun h=>eP h hb) (fun h=>eP h hen));refine⟨⟨x.kind,x.pkg,x.name,x.n,x.names,x.vars,x.shapes,x.parts++(us++[u]),x.pos⟩,?_,us++[u],og hu hj e1,rfl⟩;unfold aA;rw[e2];unfold ca;simp only[Nl])
  (fun q hn h0=>by
   simp only[fV qs 0 hn]at h0;obtain⟨c,w,r,e,_,h4⟩:=oh _ (hq _ (bT qs 0 cd hn)).2;rw[e]at h0;by_cases hc:c=5∨c=6
   ·rw[gx h0 hc,Xf];intro ew;have:=h4 hc;rw[ew]at this;rcases he with rfl|rfl
    ·split at this<;>exact absurd this (by decide)
    ·split at this<;>exact absurd this (by decide)
   ·exact tV h0 hc)
  (x:=x) ⟨[],by simp,by cases x;simp⟩ hp ha
 obtain⟨x',e1,us,e2,rfl⟩:=this;rw[O4]at e2;exact⟨us,e2,e1⟩
end
end Go.Pd
end
section
namespace Go.Pd
open Go.AL
section
variable {l:List Tokn} {f:Int} {R:Par->Trm×Par} {n:Nat}
theorem nb{p:Int}:¬aY (St0 l p f)=true:=by rw[bK.2 rfl];decide
theorem jy{p:Int}:aD (St0 l p f)=St0 l (p+1) f:=rfl
theorem oi(hR:∀q,(toksT q).length<n->allT aJ q=true->Bk l f R q){q:Trm}(hn:(toksT q).length<n)(hq:allT aJ q=true){p:Int}(hp:0<=p)(ha:At l p ((6,[40])::(toksT q++[(6,[41])]))) :
  ∃u,bareT u=bareT q/\cz R (St0 l p f)=([u],St0 l (p+1+((toksT q).length:Int)+1) f):=by
 obtain⟨u,e1,e2⟩:=hR q hn hq (p+1) (by omega) ha.2.hd1 (eP ha.2.tl1 (by decide));refine⟨u,e1,?_⟩;unfold cz;simp only[cJ ha (.inl rfl),e2,cJ ha.2.tl1 (.inl rfl)]
theorem kL{ps:List Trm}(h:ps.length=1):∃q,ps=[q]:=Oh.1 h
def tX(l:List Tokn)(f:Int)(R:Par->Trm×Par)(b:Trm)(ks:List KT)(p:Int):Prop:=∀P:Int,∃(k:Nat)(u:Trm),bareT u=bareT b/\k<=ks.length/\∀N,k<=N->dU R P N (cE R (St0 l p f)).1 (cE R (St0 l p f)).2=dU R P (N-k) u (St0 l (p+(ks.length:Int)) f)
theorem dW{b u:Trm}{ks:List KT}{p:Int}(h:bareT u=bareT b)(e:cE R (St0 l p f)=(u,St0 l (p+(ks.length:Int)) f)):tX l f R b ks p:=fun P=>⟨0,u,h,Nt _,fun N _=>by rw[e];rfl⟩
theorem jR{p c:Int}{w:Str}{r:List KT}(h:At l p ((c,w)::r))(hc:c=5∨c=6):cE R (St0 l p f)=
  if w=DM then(⟨3,[],[],0,[],[],[],[],(an (St0 l p f)).pos⟩,St0 l (p+1) f)
  else if w=xG then(⟨4,[],[],0,[],[],[],[],(an (St0 l p f)).pos⟩,St0 l (p+1) f)
  else if w=[40]then
   if isF wAs (R (St0 l (p+1) f)).2=true then(⟨15,[],[],0,[],[],[(bw (aD (R (St0 l (p+1) f)).2)).1],[(R (St0 l (p+1) f)).1],(an (St0 l p f)).pos⟩,aj [41] (bw (aD (R (St0 l (p+1) f)).2)).2)
   else((R (St0 l (p+1) f)).1,aj [41] (R (St0 l (p+1) f)).2)
  else if w=[123]then ab [44] [125] (ai R) ⟨8,[],[],0,[],[],[],[],(an (St0 l p f)).pos⟩ (St0 l (p+1) f)
  else if w=[64]then(⟨10,[],(aM 1 (St0 l (p+1) f)).1.text,0,[],[],[],(cz R (aM 1 (St0 l (p+1) f)).2).1,(an (St0 l p f)).pos⟩,(cz R (aM 1 (St0 l (p+1) f)).2).2)
  else if w=G3 then(⟨16,[],(aM 2 (St0 l (p+1) f)).1.text,0,[],[],[],(cz R (aM 2 (St0 l (p+1) f)).2).1,(an (St0 l p f)).pos⟩,(cz R (aM 2 (St0 l (p+1) f)).2).2)
  else if w=G4 then(⟨17,[],(aM 2 (St0 l (p+1) f)).1.text,0,[],[],[],(cz R (aM 2 (St0 l (p+1) f)).2).1,(an (St0 l p f)).pos⟩,(cz R (aM 2 (St0 l (p+1) f)).2).2)
  else(⟨0,[],[],0,[],[],[],[],(an (St0 l p f)).pos⟩,cC 90 (an (St0 l p f)).pos (St0 l p f)):=by
 have h1:=Lh (f:=f) h;unfold cE;simp only[gx h hc,N8,h1];rw[N3 nb,N3 (by omega),N3 (by omega),N3 (by omega)];rfl
theorem KQ(hR:∀q,(toksT q).length<n->allT aJ q=true->Bk l f R q){o:Trm}(ho:allT aJ o=true){p:Int}(hp:0<=p)(hn:(opK (cH o.kind) (toksT o)).length<n)
 (ha:At l p (opK (cH o.kind) (toksT o)))(hpost:cH o.kind=false->tX l f R o (toksT o) p):tX l f R o (opK (cH o.kind) (toksT o)) p:=by
 by_cases b:cH o.kind=true
 ·unfold opK at hn ha⊢;rw[N6 b]at hn ha⊢;simp only[N5,N7,Na]at hn;rw[Nl]at ha;have ha':At l p ((6,[40])::(toksT o++[(6,[41])])):=ha;obtain⟨u,e1,e2⟩:=hR o (by omega) ho (p+1) (by omega) ha'.2.hd1 (eP ha'.2.tl1 (by decide));refine dW e1 ?_;rw[jR ha' (.inr rfl),N3 (by decide),N3 (by decide),N6 rfl,e2];simp only[dR ha'.2.tl1,cJ ha'.2.tl1 (.inl rfl)];rw[N3 (by decide)];refine OB rfl (fv ?_);simp only[N5,N7,Na];omega
 ·have e:opK (cH o.kind) (toksT o)=toksT o:=by unfold opK;rw[N3 b]
  rw[e];exact hpost (by simpa using b)
theorem pz{α:Type}(sep:List α){x:List α}:∀{xs:List (List α)},x∈xs->x.length<=(joinG sep xs).length
 |[y],h=>by rw[NK.1 h,iZ];exact Nf _
 |y::z::r,h=>by
  rw[joinG_two,N5,N5];rcases Nw.1 h with rfl|k
  ·omega
  ·have:=pz sep (xs:=z::r) k;omega
theorem G7(hR:∀q,(toksT q).length<n->allT aJ q=true->Bk l f R q){o:Trm}{gs:List Trm}{p q:Int}(ks:List KT)(hk:ks=opK (cH o.kind) (toksT o))(hp:0<=p)(h:tX l f R o ks p)(ha:gs.all (allT aJ)=true)
 (hn:(ks++[(6,[40])]++joinG [(6,[44])] (toksTL gs)++[(6,[41])]).length<=n)
 (hat:At l p (ks++[(6,[40])]++joinG [(6,[44])] (toksTL gs)++[(6,[41])])):tX l f R ⟨7,[],[],0,[],[],[],o::gs,q⟩ (ks++[(6,[40])]++joinG [(6,[44])] (toksTL gs)++[(6,[41])]) p:=fun P=>by
 obtain⟨k,u,e1,e2,e3⟩:=h P;have hat':At l p (ks++((6,[40])::(joinG [(6,[44])] (toksTL gs)++[(6,[41])]))):=by simpa using hat
 have h1:=hat'.tl1;simp only[N5,N7,Na]at hn
 obtain⟨us,e4,e5⟩:=tW (l:=l) (f:=f) (R:=R) (btw:=[44]) (en:=[41]) (by decide) (by decide) (.inl rfl) (qs:=gs) (fun y hy=>by
  have hf:=Ng.1 ha y hy;have hm:toksT y∈toksTL gs:=by rw[eB];exact Q3 hy
  have:=pz [((6,[44]):KT)] hm;exact⟨hR y (by omega) hf,hf⟩) ⟨7,[],[],0,[],[],[],[u],P⟩ (p:=p+(ks.length:Int)+1) (by omega) h1.2
 refine⟨k+1,⟨7,[],[],0,[],[],[],[u]++us,P⟩,dw rfl rfl rfl rfl rfl rfl rfl (by rw[Ox,e4,Nj,Nj,e1];rfl),?_,fun N hN=>?_⟩
 ·simp only[N5,N7,Na];omega
 ·obtain⟨M,hM⟩:∃M,N-k=M+1:=⟨N-k-1,by omega⟩;rw[e3 N (by omega),hM,dU,N3 nb,dR h1,N6 (by decide),jy];simp only[e5];rw[show N-(k+1)=M by omega];congr 1;refine fv ?_;simp only[N5,N7,Na];omega
theorem CN{o:Trm}{m:Str}{p q:Int}(ks:List KT)(h:tX l f R o ks p)(hat:At l p (ks++[(6,[46])]++[(1,m)])):tX l f R ⟨9,[],m,0,[],[],[],[o],q⟩ (ks++[(6,[46])]++[(1,m)]) p:=fun P=>by
 obtain⟨k,u,e1,e2,e3⟩:=h P;have hat':At l p (ks++((6,[46])::[(1,m)])):=by simpa using hat
 have h1:=hat'.tl1;refine⟨k+1,⟨9,[],m,0,[],[],[],[u],P⟩,dw rfl rfl rfl rfl rfl rfl rfl (by rw[Nj,Nj,e1]),?_,fun N hN=>?_⟩
 ·simp only[N5,N7,Na];omega
 ·obtain⟨M,hM⟩:∃M,N-k=M+1:=⟨N-k-1,by omega⟩;obtain⟨t1,t2⟩:=iI (f:=f) h1.2;rw[e3 N (by omega),hM,dU,N3 nb,dR h1,N3 (by decide),dR h1,N6 (by decide),jy];simp only[t1,t2];rw[show N-(k+1)=M by omega];congr 1;refine fv ?_;simp only[N5,N7,Na];omega
end
end Go.Pd
end
section
namespace Go.Pd
open Go.AL
section
variable {l:List Tokn} {f:Int} {R:Par->Trm×Par} {n:Nat}
theorem tY(ss:List Shape)(j:Nat)(h:j<ss.length):(ss.map toksS).getD j []=toksS (ss.getD j eF):=jx toksS ss j eF [] h
theorem pA{ss:List Shape}(h:ss.all aS=true)(j:Nat)(hj:j<ss.length):aS (ss.getD j eF)=true:=Ng.1 h _ (bT ss j eF hj)
theorem Am{ns:List Str}{ps:List Trm}(hl:ns.length=ps.length)(hd:ns.Nodup)(hR:∀q∈ps,Bk l f R q)(P:Int){p:Int}(hp:0<=p)
 (ha:At l p (joinG [(6,[44])] (ix ns.length (xF ns (toksTL ps)))++[(6,[125])])) :
  ∃us,us.map bareT=ps.map bareT/\ab [44] [125] (ai R) ⟨8,[],[],0,[],[],[],[],P⟩ (St0 l p f)=(⟨8,[],[],0,ns,[],[],us,P⟩,St0 l (p+((joinG [(6,[44])] (ix ns.length (xF ns (toksTL ps)))).length:Int)+1) f):=by
 have:=n9 (l:=l) (f:=f) (btw:=[44]) (en:=[125]) (by decide) (n:=ns.length) (K:=xF ns (toksTL ps)) (one:=ai R)
  (Q:=fun j y=>∃us,us.map bareT=(ps.take j).map bareT/\y=(⟨8,[],[],0,ns.take j,[],[],us,P⟩:Trm))
  (fun j y q hj hy h0 h1 h2=>by
   obtain⟨us,hu,rfl⟩:=hy;unfold xF at h1 h2⊢;simp only[fV ps j (by omega)]at h1 h2⊢;have h1':At l q ((1,ns.getD j [])::(6,[61])::toksT (ps.getD j cd)):=h1;have hst:tT l (q+1+1+((toksT (ps.getD j cd)).length:Int)):=by simp only[N5,N7,Na]at h2;rw[show q+((0+1+(0+1)+(toksT (ps.getD j cd)).length:Nat):Int)=q+1+1+((toksT (ps.getD j cd)).length:Int) by omega]at h2;exact h2.elim (fun h=>eP h (by decide)) (fun h=>eP h (by decide))
   obtain⟨u,e1,e2⟩:=hR _ (bT ps j cd (by omega)) (q+1+1) (by omega) h1'.2.2 hst;refine⟨⟨8,[],[],0,ns.take (j+1),[],[],us++[u],P⟩,?_,us++[u],og hu (by omega) e1,rfl⟩;have f1:=pw (f:=f) (ns:=ns.take j) h1' (tU hd hj);have f2:=cJ (f:=f) h1'.2 (.inl rfl);unfold ai;simp only[f1,f2];unfold aA;rw[e2,eH ns j [] hj];refine OB rfl (fv ?_);simp only[N5,N7,Na];omega)
  (fun q hn h0=>by
   have h0':At l q ((1,ns.getD 0 [])::(6,[61])::(toksTL ps).getD 0 []):=h0;exact tV h0' (by decide))
  (x:=⟨8,[],[],0,[],[],[],[],P⟩) ⟨[],by simp,by simp⟩ hp ha
 obtain⟨x',e1,us,e2,rfl⟩:=this;rw[hl,O4]at e2;rw[O4]at e1;exact⟨us,e2,e1⟩
theorem G8{ns:List Str}{ss:List Shape}(hl:ns.length=ss.length)(hd:ns.Nodup)(hs:ss.all aS=true)(P:Int){p:Int}(hp:0<=p)
 (ha:At l p (joinG [(6,[44])] (ix ns.length (xE ns (ss.map toksS)))++[(6,[41])])) :
  ab [44] [41] aC ⟨6,[],[],0,[],[],[],[],P⟩ (St0 l p f)=(⟨6,[],[],0,ns,[],ss,[],P⟩,St0 l (p+((joinG [(6,[44])] (ix ns.length (xE ns (ss.map toksS)))).length:Int)+1) f):=by
 have:=n9 (l:=l) (f:=f) (btw:=[44]) (en:=[41]) (by decide) (n:=ns.length) (K:=xE ns (ss.map toksS)) (one:=aC)
  (Q:=fun j y=>y=(⟨6,[],[],0,ns.take j,[],ss.take j,[],P⟩:Trm))
  (fun j y q hj hy h0 h1 h2=>by
   subst hy;unfold xE at h1 h2⊢;simp only[tY ss j (by omega)]at h1 h2⊢;have h1':At l q ((1,ns.getD j [])::(6,[58])::toksS (ss.getD j eF)):=h1;refine⟨⟨6,[],[],0,ns.take (j+1),[],ss.take (j+1),[],P⟩,?_,rfl⟩;have f1:=pw (f:=f) (ns:=ns.take j) h1' (tU hd hj);unfold aC;simp only[f1];rw[mG (pA hs j (by omega)) (by omega) (.inl rfl) h1'.2,eH ns j [] hj,eH ss j eF (by omega)];refine OB rfl (fv ?_);simp only[N5,N7,Na];omega)
  (fun q hn h0=>by
   have h0':At l q ((1,ns.getD 0 [])::(6,[58])::(ss.map toksS).getD 0 []):=h0;exact tV h0' (by decide))
  (x:=⟨6,[],[],0,[],[],[],[],P⟩) (by simp) hp ha
 obtain⟨x',e1,rfl⟩:=this;rw[O4,hl,O4]at e1;rw[hl];exact e1
theorem G9{ns vs:List Str}{ss:List Shape}{ps:List Trm}{u0:Trm}(hv:vs.length=ns.length)(hl:ss.length=ns.length+1)(hpl:ps.length=ns.length+1)(hd:ns.Nodup)(hs:ss.all aS=true)(hR:∀q∈ps,Bk l f R q)
 (h0u:bareT u0=bareT (ps.getD 0 cd))(P:Int){p:Int}(hp:0<=p)(ha:At l p (joinG [(6,[124])] (ix ns.length (uR ns vs (ss.map toksS) (toksTL ps)))++[(6,[125])])) :
  ∃us,us.map bareT=ps.map bareT/\ab [124] [125] (ak R) ⟨13,[],[],0,[],[],[],[u0],P⟩ (St0 l p f)=(⟨13,[],[],0,ns,vs,ss.take ns.length,us,P⟩,St0 l (p+((joinG [(6,[124])] (ix ns.length (uR ns vs (ss.map toksS) (toksTL ps)))).length:Int)+1) f):=by
 have:=n9 (l:=l) (f:=f) (btw:=[124]) (en:=[125]) (by decide) (n:=ns.length) (K:=uR ns vs (ss.map toksS) (toksTL ps)) (one:=ak R)
  (Q:=fun j y=>∃us,us.map bareT=(ps.take (j+1)).map bareT/\y=(⟨13,[],[],0,ns.take j,vs.take j,ss.take j,us,P⟩:Trm))
  (fun j y q hj hy h0 h1 h2=>by
   obtain⟨us,hu,rfl⟩:=hy;unfold uR at h1 h2⊢;simp only[fV ps (j+1) (by omega),tY ss j (by omega)]at h1 h2⊢;have h1':At l q ((1,ns.getD j [])::(6,[40])::(1,vs.getD j [])::(6,[58])::(toksS (ss.getD j eF)++((6,[41])::(6,[45,62])::toksT (ps.getD (j+1) cd)))):=by simpa using h1
   have hA:=h1'.2.2.2;have hA1:At l (q+1+1+1) ((6,[58])::toksS (ss.getD j eF)):=⟨hA.1,hA.2.hd1⟩;have hB:=hA.2.tl1
   have hst:tT l (q+1+1+1+1+((toksS (ss.getD j eF)).length:Int)+1+1+((toksT (ps.getD (j+1) cd)).length:Int)):=by
    simp only[N5,N7,Na]at h2;have e:∀a b:Nat,q+((0+1+(0+1)+(0+1)+(0+1)+a+(0+1+1)+b:Nat):Int)=q+1+1+1+1+(a:Int)+1+1+(b:Int):=fun a b=>by omega
    rw[e]at h2;exact h2.elim (fun h=>eP h (by decide)) (fun h=>eP h (by decide))
   obtain⟨u,e1,e2⟩:=hR _ (bT ps (j+1) cd (by omega)) _ (by omega) hB.2.2 hst;refine⟨⟨13,[],[],0,ns.take (j+1),vs.take (j+1),ss.take (j+1),us++[u],P⟩,?_,us++[u],og hu (by omega) e1,rfl⟩;have f1:=pw (f:=f) (ns:=ns.take j) h1' (tU hd hj);have f2:=cJ (f:=f) h1'.2 (.inl rfl);obtain⟨t1,t2⟩:=iI (f:=f) h1'.2.2;have ty:=mG (f:=f) (pA hs j (by omega)) (by omega) (.inl rfl) hA1;have f3:=cJ (f:=f) hB (.inl rfl);have f4:=cJ (f:=f) hB.2 (.inl rfl);unfold ak;simp only[f1,f2,t1,t2,ty,f3,f4];unfold aA;rw[e2,eH ns j [] hj,eH vs j [] (by omega),eH ss j eF (by omega)];refine OB rfl (fv ?_);simp only[N5,N7,Na];omega)
  (fun q hn h0=>by
   unfold uR at h0;have h0':At l q ([(1,ns.getD 0 [])]++([(6,[40])]++([(1,vs.getD 0 [])]++([(6,[58])]++((ss.map toksS).getD 0 []++([(6,[41]),(6,[45,62])]++(toksTL ps).getD (0+1) [])))))):=by simpa only[Nl]using h0
   exact tV (show At l q ((1,ns.getD 0 [])::_)from h0') (by decide))
  (x:=⟨13,[],[],0,[],[],[],[u0],P⟩) ⟨[u0],by rw[eH ps 0 cd (by omega)];simp[h0u],by simp⟩ hp ha
 obtain⟨x',e1,us,e2,rfl⟩:=this;rw[show ns.length+1=ps.length by omega,O4]at e2;rw[O4,OJ (show vs.length<=ns.length by omega)]at e1;exact⟨us,e2,e1⟩
end
end Go.Pd
end
