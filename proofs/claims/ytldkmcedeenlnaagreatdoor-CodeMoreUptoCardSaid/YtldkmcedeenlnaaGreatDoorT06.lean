/- What the functions' conditions say, proved. Plain facts. No condition. -/
import Derived.Test.YtldkmcedeenlnaaGreatDoorT05
import Derived.KernelRfl
import Derived.Shelf.Slices.Clone
import Derived.Sort.Walk0
import Derived.Test.YtldkmcedeenlnaaGreatDoorProg
set_option linter.all false
set_option maxRecDepth 100000
section
open Go Go.AL Go.Pd
namespace Go.AL.Seat
theorem Co (code:List Chnk) (k:Int) (bs:List Stt) (n:Nat) (ho:FR code k bs n) :
  let A:=(0:Int);let B:=(↑(List.length code):Int);let C:=(↑n:Int);let D:=Int.toNat k;let E:=dfl (Ty.st SN.chunk);let F:=List.getD code D E;let G:=(↑(List.length F.ops):Int);let H:=(1:Int);let I:=G+H;let J:=(1:Nat);let K:=k=k;let L:=false=false;let M:=F.ops=F.ops;let N:=(↑(Int.toNat I):Int);let O:=N=N;let P:=bY code k+J;let Q:=code=code;let R:=n=n;let S:=dfl (Ty.st SN.stt);let T:=List.getD bs D S=List.getD bs D S;let U:=Int.toNat I=Int.toNat I;let V:=True;let W:=Q/\R/\bs=bs/\T/\U/\V;let X:=List.getD bs D S;let Y:=cO code k bs;let Z:=false=Y.1;let a:=List.getD bs D default;let b:=bY code k;let c:=gI code k;let d:=G=G;let e:=Q/\R/\T/\U/\V;let f:=dfl (Ty.st SN.op);let g:=true=true;let h:=dfl (Ty.int IntKind.i64);(A<=k/\k<B)/\(A<=k/\k<C)/\Int.toNat k<List.length bs/\inR IntKind.i64 I/\(A<=G+H/\G+H<=G+H/\I*(↑(16:Nat):Int)<=(140737488355328:Int))/\(∃(x:Nat),x<=bY code k+J/\A=(↑x:Int)/\K/\L/\M/\O/\List.replicate (Int.toNat I) {things:=A,names:=A:Stt}=fG P x/\W)/\∀(x:Nat),let i:=(↑x:Int);let j:=fG P x;let l:=i=i;x<=bY code k+J→if decide (i<N)=true then (A<=i/\i<N)/\Int.toNat i<List.length j/\inR IntKind.i64 (i+H)/\∃(y:Nat),y<=bY code k+J/\bY code k+J - y<bY code k+J - x/\i+H=(↑y:Int)/\K/\L/\M/\O/\List.set j (Int.toNat i) {things:=(-1:Int),names:=(List.getD j (Int.toNat i) S).names:Stt}=fG P y/\W else (A<=A/\A<N/\Int.toNat I=List.length j)/\if (!cI j A X)=true then V/\Z/\Q/\R/\bs=Y.2/\V else (∃(x_1:Nat × List Stt × List Stt),let m:=(↑x_1.1:Int);(x_1.1<=bY code k/\List.length x_1.2.1=bY code k+J/\List.length x_1.2.2=List.length code/\jI code k a b (List.drop x_1.1 c.ops) m x_1.2.1 x_1.2.2=cO code k bs)/\A=m/\l/\K/\M/\O/\L/\L/\M/\d/\cz j A X=x_1.2.1/\bs=x_1.2.2/\e)/\∀(x_1:Nat × List Stt × List Stt),let m:=(↑x_1.1:Int);let o:=Int.toNat m;let p:=List.getD x_1.2.1 o S;let q:=Q/\R/\x_1.2.2=Y.2/\V;let r:=V/\Z/\q;let s:=List.getD F.ops o f;let t:=iV s;let u:=List.getD c.ops o default;let v:=m=m;let w:=t.1=t.1;let z:=t.2=t.2;let A0:=p.things+IntKind.wrap IntKind.i64 (t.2 - t.1);let A1:=sF b m u x_1.2.1;let A2:=IntKind.wrap IntKind.i64 A0=A1.things;let A3:=p.names=A1.names;let A4:=x_1.2.1=lF b m u x_1.2.1;let A5:=List.getD F.ops o f=List.getD F.ops o f;let A6:=Q/\R/\T/\U/\A5/\V;let A7:=x_1.2.2=bF code k a b m u x_1.2.1 x_1.2.2/\A6;let A8:=v/\v/\l/\K/\M/\O/\L/\L/\M/\d/\g/\w/\z/\L/\A2/\A3/\A4/\A7;let A9:=A<=s.n;let B0:=A9/\s.n<C;let B1:=Int.toNat s.n<List.length x_1.2.2;let B2:=Int.toNat s.n;let B3:=List.getD x_1.2.2 B2 S;let B4:=p.names+(List.getD code B2 E).args;let B5:=true=gF code k a b m u x_1.2.1 x_1.2.2;let B6:=B0/\B1/\B5/\v/\v/\l/\K/\M/\O/\L/\L/\M/\d/\g/\w/\z/\L/\A2/\A3/\A4/\List.set x_1.2.2 B2 {things:=A,names:=IntKind.wrap IntKind.i64 B4:Stt}=bF code k a b m u x_1.2.1 x_1.2.2/\A6;let B7:=p.names+H;let B8:=A9/\s.n<N/\Int.toNat I=List.length x_1.2.1;let B9:=inR IntKind.i64 (m+H);let C0:=false=gF code k a b m u x_1.2.1 x_1.2.2/\A8;let C1:=(↑(List.length s.tos):Int);let C2:=s.kind=s.kind;let C3:=x_1.2.2=x_1.2.2/\Q/\R/\T/\U/\A5/\IntKind.wrap IntKind.i64 A0=IntKind.wrap IntKind.i64 A0/\IntKind.wrap IntKind.i64 B7=IntKind.wrap IntKind.i64 B7/\V;let C4:=V/\Z/\Q/\R/\bF code k a b m u x_1.2.1 x_1.2.2=Y.2/\V;let C5:=lF b m u x_1.2.1;let C6:=List.getD x_1.2.1 (Int.toNat G) S;x_1.1<=bY code k/\List.length x_1.2.1=bY code k+J/\List.length x_1.2.2=List.length code/\jI code k a b (List.drop x_1.1 c.ops) m x_1.2.1 x_1.2.2=cO code k bs→if decide (m<G)=true then (A<=m/\m<G)/\(A<=m/\m<N)/\Int.toNat m<List.length x_1.2.1/\if decide (p.things<A)=true then r else List.length s.names*(16:Nat)<=(140737488355328:Nat)/\if (!kN s)=true then r else if decide (p.things<t.1)=true then r else (if decide (s.kind=(4:Int))=true then decide (s.n<p.names)=gF code k a b m u x_1.2.1 x_1.2.2/\A8 else if decide (s.kind=(6:Int))=true then if decide (s.n<=k)=true then r else if decide (B<=s.n)=true then r else (A9/\s.n<B)/\B0/\B1/\if decide (A<=B3.things)=true then B0/\B1/\if (!(decide (B3.things=A) && (decide (B3.names=IntKind.wrap IntKind.i64 B4) && true)))=true then r else B6 else B6 else if decide (s.kind=(12:Int))=true then B5/\v/\v/\l/\K/\M/\O/\L/\L/\M/\d/\g/\w/\z/\L/\A2/\IntKind.wrap IntKind.i64 B7=A1.names/\A4/\A7 else if decide (s.kind=(13:Int))=true then if decide (IntKind.wrap IntKind.i64 (p.names - X.names)<s.n)=true then r else B5/\v/\v/\l/\K/\M/\O/\L/\L/\M/\d/\g/\w/\z/\L/\A2/\IntKind.wrap IntKind.i64 (p.names - s.n)=A1.names/\A4/\A7 else if decide (s.kind=(15:Int))=true then if decide (s.n<=m)=true then r else if decide (G<s.n)=true then r else B8/\if (!cI x_1.2.1 s.n {things:=IntKind.wrap IntKind.i64 A0,names:=p.names:Stt})=true then r else B9/\∃(y:Nat × List Stt × List Stt),let C7:=(↑y.1:Int);(y.1<=bY code k/\List.length y.2.1=bY code k+J/\List.length y.2.2=List.length code/\jI code k a b (List.drop y.1 c.ops) C7 y.2.1 y.2.2=cO code k bs)/\bY code k - y.1<bY code k - x_1.1/\m+H=C7/\l/\K/\M/\O/\L/\L/\M/\d/\cz x_1.2.1 s.n {things:=IntKind.wrap IntKind.i64 A0,names:=p.names:Stt}=y.2.1/\x_1.2.2=y.2.2/\e else if decide (s.kind=(14:Int))=true then if decide (m<s.n)=true then if decide (s.n<=G)=true then B8/\cI x_1.2.1 s.n {things:=IntKind.wrap IntKind.i64 A0,names:=p.names:Stt}=gF code k a b m u x_1.2.1 x_1.2.2/\v/\v/\l/\K/\M/\O/\L/\L/\M/\d/\g/\w/\z/\L/\A2/\A3/\cz x_1.2.1 s.n {things:=IntKind.wrap IntKind.i64 A0,names:=p.names:Stt}=lF b m u x_1.2.1/\A7 else C0 else C0 else if decide (s.kind=(16:Int))=true then if decide (C1=A)=true then B5/\A8 else (∃(x_2:Nat × List Stt),(x_2.1<=List.length u.tos/\List.length x_2.2=bY code k+J/\jz m b {things:=IntKind.wrap IntKind.i64 A0,names:=IntKind.wrap IntKind.i64 B7:Stt} (List.drop x_2.1 u.tos) x_2.2=jz m b {things:=IntKind.wrap IntKind.i64 A0,names:=IntKind.wrap IntKind.i64 B7:Stt} u.tos x_1.2.1)/\A=(↑x_2.1:Int)/\v/\l/\K/\M/\O/\L/\L/\M/\d/\g/\v/\w/\z/\L/\g/\C2/\L/\L/\L/\L/\L/\L/\g/\L/\s.tos=s.tos/\C1=C1/\x_1.2.1=x_2.2/\C3)/\
  ∀(x_2:Nat × List Stt),let C7:=(↑x_2.1:Int);let C8:=Int.toNat C7;let C9:=List.getD s.tos C8 h;x_2.1<=List.length u.tos/\List.length x_2.2=bY code k+J/\jz m b {things:=IntKind.wrap IntKind.i64 A0,names:=IntKind.wrap IntKind.i64 B7:Stt} (List.drop x_2.1 u.tos) x_2.2=jz m b {things:=IntKind.wrap IntKind.i64 A0,names:=IntKind.wrap IntKind.i64 B7:Stt} u.tos x_1.2.1→if decide (C7<C1)=true then (A<=C7/\C7<C1)/\if decide (List.getD s.tos C8 h<=m)=true then r else if decide (G<List.getD s.tos C8 h)=true then r else (A<=List.getD s.tos C8 h/\List.getD s.tos C8 h<N/\Int.toNat I=List.length x_2.2)/\if (!cI x_2.2 C9 {things:=IntKind.wrap IntKind.i64 A0,names:=IntKind.wrap IntKind.i64 B7:Stt})=true then r else inR IntKind.i64 (C7+H)/\∃(y:Nat × List Stt),(y.1<=List.length u.tos/\List.length y.2=bY code k+J/\jz m b {things:=IntKind.wrap IntKind.i64 A0,names:=IntKind.wrap IntKind.i64 B7:Stt} (List.drop y.1 u.tos) y.2=jz m b {things:=IntKind.wrap IntKind.i64 A0,names:=IntKind.wrap IntKind.i64 B7:Stt} u.tos x_1.2.1)/\List.length u.tos - y.1<List.length u.tos - x_2.1/\C7+H=(↑y.1:Int)/\v/\l/\K/\M/\O/\L/\L/\M/\d/\g/\v/\w/\z/\L/\g/\C2/\L/\L/\L/\L/\L/\L/\g/\L/\s.tos=s.tos/\C1=C1/\cz x_2.2 C9 {things:=IntKind.wrap IntKind.i64 A0,names:=IntKind.wrap IntKind.i64 B7:Stt}=y.2/\C3 else B9/\∃(y:Nat × List Stt × List Stt),let D0:=(↑y.1:Int);(y.1<=bY code k/\List.length y.2.1=bY code k+J/\List.length y.2.2=List.length code/\jI code k a b (List.drop y.1 c.ops) D0 y.2.1 y.2.2=cO code k bs)/\bY code k - y.1<bY code k - x_1.1/\m+H=D0/\l/\K/\M/\O/\L/\L/\M/\d/\x_2.2=y.2.1/\x_1.2.2=y.2.2/\e else B5/\A8)/\if (!gF code k a b m u x_1.2.1 x_1.2.2)=true then C4 else B9/\(A<=m+H/\m+H<N/\Int.toNat I=List.length C5)/\if (!cI C5 (m+H) A1)=true then C4 else B9/\∃(y:Nat × List Stt × List Stt),let C7:=(↑y.1:Int);(y.1<=bY code k/\List.length y.2.1=bY code k+J/\List.length y.2.2=List.length code/\jI code k a b (List.drop y.1 c.ops) C7 y.2.1 y.2.2=cO code k bs)/\bY code k - y.1<bY code k - x_1.1/\m+H=C7/\l/\K/\M/\O/\L/\L/\M/\d/\cz C5 (m+H) A1=y.2.1/\bF code k a b m u x_1.2.1 x_1.2.2=y.2.2/\e else (A<=G/\G<N)/\Int.toNat G<List.length x_1.2.1/\V/\(decide (C6.things=H) && (decide (C6.names=X.names) && true))=Y.1/\q:=by
 conv=>zeta
 obtain ⟨h1,h2,h3,h4,h5,h6⟩:=ho
 subst h4
 have dC:code.getD k.toNat (dfl (Ty.st SN.chunk))=gI code k:=rfl
 have dS:dfl (Ty.st SN.stt)=(default:Stt):=rfl
 have dO:dfl (Ty.st SN.op)=(default:Opn):=rfl
 have dI:dfl (Ty.int IntKind.i64)=(0:Int):=rfl
 have dN:(gI code k).ops.length=bY code k:=rfl
 have hb:∀x y:Stt,(decide (x.things=y.things) && (decide (x.names=y.names) && true))=eqT x y:=fun x y=>by unfold eqT;simp
 simp only [dC,dS,dO,dI,dN,Int.toNat_natCast]
 have tN:(((bY code k:Nat):Int)+1).toNat=bY code k+1:=by omega
 simp only [tN]
 have cN:((bY code k+1:Nat):Int)=(bY code k:Int)+1:=by omega
 generalize hN:bY code k=N at *
 generalize hbb:bs.getD k.toNat (default:Stt)=bb at *
 refine ⟨⟨h1,h2⟩,⟨h1,h2⟩,by omega,aq (by omega) (by omega),⟨by omega,by omega,by omega⟩,⟨0,Nat.zero_le _,rfl,by repeat' (first | exact trivial | rfl | apply And.intro)⟩,?_⟩
 intro x hx
 refine aa (fun q=>?_) (fun q=>?_)
 ·replace q:=Xo q
  have q:x < N+1:=by omega
  refine ⟨⟨by omega,by omega⟩,by rw [fc hx];exact q,aq (by omega) (by omega),x+1,by omega,by omega,by omega,?_⟩
  rw [sk q]
  have e:(fG (N+1) x).set x {things:=-1,names:=({things:=0,names:=0}:Stt).names}=fG (N+1) (x+1):=vT q default
  repeat' (first | exact trivial | exact e | rfl | apply And.intro)
 replace q:¬(x:Int) < ((N+1:Nat):Int):=fun z=>q (Xd z)
 have q:x=N+1:=by omega
 subst q
 have e0:∀h:cI (fG (N+1) (N+1)) 0 bb=false,cO code k bs=(false,bs):=fun h=>by unfold cO;rw [hbb,hN,if_neg (by rw [h];exact fun z=>by cases z)]
 have e1:∀h:cI (fG (N+1) (N+1)) 0 bb=true,jI code k bb N (gI code k).ops 0 (cz (fG (N+1) (N+1)) 0 bb) bs=cO code k bs:=fun h=>by unfold cO;rw [hbb,hN,if_pos h]
 refine ⟨⟨by omega,by omega,by rw [fc (Nat.le_refl _)]⟩,aa (fun q=>?_) (fun q=>?_)⟩
 ·have q:cI (fG (N+1) (N+1)) 0 bb=false:=by simpa using q
  rw [e0 q]
  repeat' (first | exact trivial | rfl | apply And.intro)
 have q:cI (fG (N+1) (N+1)) 0 bb=true:=by simpa using q
 refine ⟨⟨(0,cz (fG (N+1) (N+1)) 0 bb,bs),⟨Nat.zero_le _,by rw [dU,fc (Nat.le_refl _)],h3,by rw [List.drop_zero];exact e1 q⟩,by repeat' (first | exact trivial | rfl | apply And.intro)⟩,?_⟩
 clear e0 e1 q
 rintro ⟨i,l,b⟩ ⟨i1,i2,i3,i4⟩
 simp only at i1 i2 i3 i4 ⊢
 refine aa (fun q=>?_) (fun q=>?_)
 ·replace q:=Xo q
  have q:i < N:=by omega
  have qi:i < (gI code k).ops.length:=by omega
  rw [bp (gI code k).ops i (default:Opn) qi] at i4
  obtain ⟨hO,hO2⟩:=h6 _ (eo (gI code k).ops i (default:Opn) qi)
  generalize (gI code k).ops.getD i (default:Opn)=O at *
  generalize hcf:cO code k bs=cf at *
  have bad:gF code k bb N i O l b=false→cf=(false,b):=fun h=>by rw [←i4];exact Al _ h
  have ci:((i+1:Nat):Int)=(i:Int)+1:=by omega
  refine ⟨⟨by omega,by omega⟩,⟨by omega,by omega⟩,by omega,aa (fun m=>?_) (fun m=>?_)⟩
  ·rw [bad (by unfold gF;rw [Int.toNat_natCast,if_pos (.inl (Xo m))])];repeat' (first | exact trivial | rfl | apply And.intro)
  have m:¬(l.getD i default).things < 0:=fun z=>m (Xd z)
  refine ⟨hO,aa (fun m2=>?_) (fun m2=>?_)⟩
  ·rw [bad (by unfold gF;rw [if_pos (.inr (.inl (by simpa using m2)))])];repeat' (first | exact trivial | rfl | apply And.intro)
  refine aa (fun m3=>?_) (fun m3=>?_)
  ·rw [bad (by unfold gF;rw [Int.toNat_natCast,if_pos (.inr (.inr (Xo m3)))])];repeat' (first | exact trivial | rfl | apply And.intro)
  have m3:¬(l.getD i default).things < (iV O).1:=fun z=>m3 (Xd z)
  have g0:gF code k bb N i O l b=gK code k bb N i O l b:=by unfold gF;rw [Int.toNat_natCast,if_neg (fun z=>z.elim m (fun z=>z.elim (fun z=>by simp [z] at m2) m3))]
  have q1:({things:=IntKind.wrap IntKind.i64 ((l.getD i default).things+IntKind.wrap IntKind.i64 ((iV O).2 - (iV O).1)),names:=(l.getD i default).names}:Stt)=s1F O (l.getD i default):=rfl
  simp only [q1]
  refine ⟨?_,aa (fun z=>?_) (fun z=>?_)⟩
  ·refine aa (fun K=>?_) (fun K=>?_)
   ·have K:=Xo K
    rw [g0]
    simp only [gK,sF,lF,bF,K,Int.toNat_natCast]
    repeat' (first | exact trivial | rfl | apply And.intro)
   have K1:¬O.kind=4:=fun z=>K (Xd z)
   refine aa (fun K=>?_) (fun K=>?_)
   ·have K:=Xo K
    have q3:(decide ((b.getD O.n.toNat default).things=0) && (decide ((b.getD O.n.toNat default).names=IntKind.wrap IntKind.i64 ((l.getD i default).names+(code.getD O.n.toNat (dfl (Ty.st SN.chunk))).args)) && true))=eqT (b.getD O.n.toNat default) (vR code O (l.getD i default)):=hb _ (vR code O (l.getD i default))
    have g1:gF code k bb N i O l b=(!(decide (O.n<=k) || decide ((code.length:Int)<=O.n)) && !(decide (0<=(b.getD O.n.toNat default).things) && !eqT (b.getD O.n.toNat default) (vR code O (l.getD i default)))):=by
     rw [g0];unfold gK;rw [if_neg K1,if_pos K];rfl
    have g2:sF N i O l=s1F O (l.getD i default):=by simp only [sF,K,Int.toNat_natCast];rfl
    have g3:lF N i O l=l:=by simp only [lF,K];rfl
    have g4:gF code k bb N i O l b=true→bF code k bb N i O l b=b.set O.n.toNat (vR code O (l.getD i default)):=fun z=>by unfold bF;rw [if_pos ⟨K,z⟩];rfl
    simp only [q3]
    refine aa (fun y=>?_) (fun y=>?_)
    ·rw [bad (by rw [g1,y];rfl)];repeat' (first | exact trivial | rfl | apply And.intro)
    have y:decide (O.n<=k)=false:=by simpa using y
    refine aa (fun w=>?_) (fun w=>?_)
    ·rw [bad (by rw [g1,w,y];rfl)];repeat' (first | exact trivial | rfl | apply And.intro)
    have w:decide ((code.length:Int)<=O.n)=false:=by simpa using w
    have y':=of_decide_eq_false y
    have w':=of_decide_eq_false w
    refine ⟨⟨by omega,by omega⟩,⟨by omega,by omega⟩,by omega,aa (fun v=>?_) (fun v=>?_)⟩
    ·refine ⟨⟨by omega,by omega⟩,by omega,aa (fun u=>?_) (fun u=>?_)⟩
     ·have u:eqT (b.getD O.n.toNat default) (vR code O (l.getD i default))=false:=by simpa using u
      rw [bad (by rw [g1,w,y,v,u];rfl)];repeat' (first | exact trivial | rfl | apply And.intro)
     ·have u:eqT (b.getD O.n.toNat default) (vR code O (l.getD i default))=true:=by simpa using u
      have g5:gF code k bb N i O l b=true:=by rw [g1,w,y,u];simp
      refine ⟨⟨by omega,by omega⟩,by omega,?_⟩
      rw [g4 g5,g5,g2,g3]
      repeat' (first | exact trivial | rfl | apply And.intro)
    ·have v:decide (0<=(b.getD O.n.toNat default).things)=false:=by simpa using v
     have g5:gF code k bb N i O l b=true:=by rw [g1,w,y,v];simp
     refine ⟨⟨by omega,by omega⟩,by omega,?_⟩
     rw [g4 g5,g5,g2,g3]
     repeat' (first | exact trivial | rfl | apply And.intro)
   have K2:¬O.kind=6:=fun z=>K (Xd z)
   have g4:bF code k bb N i O l b=b:=by unfold bF;rw [if_neg (fun z=>K2 z.1)]
   refine aa (fun K=>?_) (fun K=>?_)
   ·have K:=Xo K
    rw [g4,g0]
    simp only [gK,sF,lF,K,Int.toNat_natCast]
    repeat' (first | exact trivial | rfl | apply And.intro)
   have K3:¬O.kind=12:=fun z=>K (Xd z)
   refine aa (fun K=>?_) (fun K=>?_)
   ·have K:=Xo K
    have g1:gF code k bb N i O l b=!decide (IntKind.i64.wrap ((l.getD i default).names - bb.names) < O.n):=by rw [g0];simp only [gK,K,Int.toNat_natCast];rfl
    refine aa (fun y=>?_) (fun y=>?_)
    ·rw [bad (by rw [g1,y];rfl)];repeat' (first | exact trivial | rfl | apply And.intro)
    ·have y:decide (IntKind.i64.wrap ((l.getD i default).names - bb.names) < O.n)=false:=by simpa using y
     rw [g4,g1,y]
     simp only [sF,lF,K,Int.toNat_natCast]
     repeat' (first | exact trivial | rfl | apply And.intro)
   have K4:¬O.kind=13:=fun z=>K (Xd z)
   refine aa (fun K=>?_) (fun K=>?_)
   ·have K:=Xo K
    have g1:gF code k bb N i O l b=(decide ((i:Int) < O.n) && decide (O.n<=(N:Int)) && cI l O.n (s1F O (l.getD i default))):=by rw [g0];simp only [gK,K,Int.toNat_natCast];rfl
    refine aa (fun y=>?_) (fun y=>?_)
    ·have y:=Xo y
     rw [bad (by rw [g1,Xf (show ¬(i:Int) < O.n by omega)];rfl)];repeat' (first | exact trivial | rfl | apply And.intro)
    have y:¬O.n<=(i:Int):=fun z=>y (Xd z)
    refine aa (fun w=>?_) (fun w=>?_)
    ·have w:=Xo w
     rw [bad (by rw [g1,Xf (show ¬O.n<=(N:Int) by omega),Bool.and_false];rfl)];repeat' (first | exact trivial | rfl | apply And.intro)
    have w:¬(N:Int) < O.n:=fun z=>w (Xd z)
    refine ⟨⟨by omega,by omega,by omega⟩,aa (fun v=>?_) (fun v=>?_)⟩
    ·have v:cI l O.n (s1F O (l.getD i default))=false:=by simpa using v
     rw [bad (by rw [g1,v,Bool.and_false])];repeat' (first | exact trivial | rfl | apply And.intro)
    ·have v:cI l O.n (s1F O (l.getD i default))=true:=by simpa using v
     have g5:gF code k bb N i O l b=true:=by rw [g1,v,Xd (show (i:Int) < O.n by omega),Xd (show O.n<=(N:Int) by omega)];rfl
     have g3:lF N i O l=cz l O.n (s1F O (l.getD i default)):=by unfold lF;rw [if_pos ⟨.inl K,by omega,by omega⟩,Int.toNat_natCast]
     have g2:sF N i O l=(lF N i O l).getD ((i:Int)+1).toNat default:=by unfold sF;rw [if_neg K3,if_neg K4,if_pos (.inl K)]
     rw [vS _ g5 g2,g3,g4] at i4
     refine ⟨aq (by omega) (by omega),(i+1,cz l O.n (s1F O (l.getD i default)),b),⟨q,by rw [dU];exact i2,i3,by rw [ci];exact i4⟩,by simp only;omega,by repeat' (first | exact trivial | rfl | apply And.intro)⟩
   have K5:¬O.kind=15:=fun z=>K (Xd z)
   refine aa (fun K=>?_) (fun K=>?_)
   ·have K:=Xo K
    have g1:gF code k bb N i O l b=(decide ((i:Int) < O.n) && decide (O.n<=(N:Int)) && cI l O.n (s1F O (l.getD i default))):=by rw [g0];simp only [gK,K,Int.toNat_natCast];rfl
    have g2:sF N i O l=s1F O (l.getD i default):=by simp only [sF,K,Int.toNat_natCast];rfl
    have off:¬((i:Int) < O.n/\O.n<=(N:Int))→gF code k bb N i O l b=false/\lF N i O l=l:=fun z=>by
     refine ⟨?_,?_⟩
     ·rw [g1]
      by_cases y:(i:Int) < O.n
      ·rw [Xf (show ¬O.n<=(N:Int) from fun w=>z ⟨y,w⟩),Bool.and_false];rfl
      ·rw [Xf y];rfl
     ·unfold lF;rw [if_neg (fun y=>z y.2),if_neg (fun y=>by rw [K] at y;exact absurd y.1 (by decide))]
    refine aa (fun y=>?_) (fun y=>?_)
    ·have y:=Xo y
     refine aa (fun w=>?_) (fun w=>?_)
     ·have w:=Xo w
      have g3:lF N i O l=cz l O.n (s1F O (l.getD i default)):=by unfold lF;rw [if_pos ⟨.inr K,y,w⟩,Int.toNat_natCast]
      refine ⟨⟨by omega,by omega,by omega⟩,?_⟩
      rw [g4,g3,g2,g1,Xd y,Xd w]
      repeat' (first | exact trivial | rfl | apply And.intro)
     ·have w:¬O.n<=(N:Int):=fun z=>w (Xd z)
      obtain ⟨o1,o2⟩:=off (fun z=>w z.2)
      rw [g4,o1,o2,g2]
      repeat' (first | exact trivial | rfl | apply And.intro)
    ·have y:¬(i:Int) < O.n:=fun z=>y (Xd z)
     obtain ⟨o1,o2⟩:=off (fun z=>y z.1)
     rw [g4,o1,o2,g2]
     repeat' (first | exact trivial | rfl | apply And.intro)
   have K6:¬O.kind=14:=fun z=>K (Xd z)
   have K56:¬(O.kind=15∨O.kind=14):=fun z=>z.elim K5 K6
   have dq:¬(O.kind=16/\O.tos.length≠0)→gF code k bb N i O l b=true/\sF N i O l=s1F O (l.getD i default)/\lF N i O l=l:=fun z=>by
    refine ⟨?_,?_,?_⟩
    ·rw [g0];unfold gK;rw [if_neg K1,if_neg K2,if_neg K4,if_neg K56,if_neg z]
    ·unfold sF;rw [if_neg K3,if_neg K4,if_neg (fun y=>y.elim K5 z),Int.toNat_natCast]
    ·unfold lF;rw [if_neg (fun y=>K56 y.1),if_neg z]
   refine aa (fun K=>?_) (fun K=>?_)
   ·have K:=Xo K
    refine aa (fun y=>?_) (fun y=>?_)
    ·have y:=Xo y
     obtain ⟨o1,o2,o3⟩:=dq (fun z=>z.2 (by omega))
     rw [g4,o1,o2,o3]
     repeat' (first | exact trivial | rfl | apply And.intro)
    have y:O.tos.length≠0:=fun z=>y (Xd (by omega))
    have q4:({things:=IntKind.wrap IntKind.i64 ((l.getD i default).things+IntKind.wrap IntKind.i64 ((iV O).2 - (iV O).1)),names:=IntKind.wrap IntKind.i64 ((l.getD i default).names+1)}:Stt)=⟨(s1F O (l.getD i default)).things,IntKind.i64.wrap ((l.getD i default).names+1)⟩:=rfl
    simp only [q4]
    generalize hs2:(⟨(s1F O (l.getD i default)).things,IntKind.i64.wrap ((l.getD i default).names+1)⟩:Stt)=s2 at *
    have g1:gF code k bb N i O l b=(jz i N s2 O.tos l).1:=by rw [g0];unfold gK;rw [if_neg K1,if_neg K2,if_neg K4,if_neg K56,if_pos ⟨K,y⟩,Int.toNat_natCast,hs2]
    have g3:lF N i O l=(jz i N s2 O.tos l).2:=by unfold lF;rw [if_neg (fun y=>K56 y.1),if_pos ⟨K,y⟩,Int.toNat_natCast,hs2]
    have g2:sF N i O l=(lF N i O l).getD ((i:Int)+1).toNat default:=by unfold sF;rw [if_neg K3,if_neg K4,if_pos (.inr ⟨K,y⟩)]
    refine ⟨⟨(0,l),⟨Nat.zero_le _,i2,by rw [List.drop_zero]⟩,by repeat' (first | exact trivial | rfl | apply And.intro)⟩,?_⟩
    rintro ⟨j,a⟩ ⟨j1,j2,j3⟩
    simp only at j1 j2 j3 ⊢
    refine aa (fun v=>?_) (fun v=>?_)
    ·have v:=Xo v
     have v:j < O.tos.length:=by omega
     rw [bp O.tos j (0:Int) v] at j3
     generalize O.tos.getD j (0:Int)=tgt at *
     have no:¬(¬tgt<=(i:Int)/\¬(N:Int) < tgt/\cI a tgt s2=true)→cf=(false,b):=fun z=>bad (by
      rw [g1,←j3]
      unfold jz
      rw [if_pos]
      by_cases c1:tgt<=(i:Int)
      ·exact .inl c1
      by_cases c2:(N:Int) < tgt
      ·exact .inr (.inl c2)
      refine .inr (.inr (Bool.eq_false_iff.2 fun c3=>z ⟨c1,c2,c3⟩)))
     refine ⟨⟨by omega,by omega⟩,aa (fun u=>?_) (fun u=>?_)⟩
     ·rw [no (fun z=>z.1 (Xo u))];repeat' (first | exact trivial | rfl | apply And.intro)
     have u:¬tgt<=(i:Int):=fun z=>u (Xd z)
     refine aa (fun t=>?_) (fun t=>?_)
     ·rw [no (fun z=>z.2.1 (Xo t))];repeat' (first | exact trivial | rfl | apply And.intro)
     have t:¬(N:Int) < tgt:=fun z=>t (Xd z)
     refine ⟨⟨by omega,by omega,by omega⟩,aa (fun r=>?_) (fun r=>?_)⟩
     ·rw [no (fun z=>by rw [z.2.2] at r;cases r)];repeat' (first | exact trivial | rfl | apply And.intro)
     have r:cI a tgt s2=true:=by simpa using r
     have j4:jz i N s2 (O.tos.drop (j+1)) (cz a tgt s2)=jz i N s2 O.tos l:=by
      rw [←j3]
      conv=>rhs;unfold jz
      rw [if_neg (fun z=>z.elim u (fun z=>z.elim t (fun z=>by rw [r] at z;cases z)))]
     refine ⟨aq (by omega) (by omega),(j+1,cz a tgt s2),⟨v,by rw [dU];exact j2,j4⟩,by simp only;omega,by repeat' (first | exact trivial | rfl | apply And.intro)⟩
    ·have v:¬(j:Int) < (O.tos.length:Int):=fun z=>v (Xd z)
     have v:j=O.tos.length:=by omega
     subst v
     rw [List.drop_length] at j3
     have g5:gF code k bb N i O l b=true:=by rw [g1,←j3];rfl
     have g6:lF N i O l=a:=by rw [g3,←j3];rfl
     rw [vS _ g5 g2,g6,g4] at i4
     refine ⟨aq (by omega) (by omega),(i+1,a,b),⟨q,j2,i3,by rw [ci];exact i4⟩,by simp only;omega,by repeat' (first | exact trivial | rfl | apply And.intro)⟩
   have K7:¬O.kind=16:=fun z=>K (Xd z)
   obtain ⟨o1,o2,o3⟩:=dq (fun z=>K7 z.1)
   rw [g4,o1,o2,o3]
   repeat' (first | exact trivial | rfl | apply And.intro)
  ·have z:gF code k bb N i O l b=false:=by simpa using z
   rw [bad z]
   have e:bF code k bb N i O l b=b:=by unfold bF;rw [if_neg (fun y=>by rw [z] at y;cases y.2)]
   rw [e]
   repeat' (first | exact trivial | rfl | apply And.intro)
  ·have z:gF code k bb N i O l b=true:=by simpa using z
   rw [yu _ z] at i4
   refine ⟨aq (by omega) (by omega),⟨by omega,by omega,by rw [si];omega⟩,aa (fun y=>?_) (fun y=>?_)⟩
   ·have y:cI (lF N i O l) (i+1) (sF N i O l)=false:=by simpa using y
    rw [if_neg (by rw [y];exact fun w=>by cases w)] at i4
    rw [←i4]
    repeat' (first | exact trivial | rfl | apply And.intro)
   ·have y:cI (lF N i O l) (i+1) (sF N i O l)=true:=by simpa using y
    rw [if_pos y] at i4
    refine ⟨aq (by omega) (by omega),(i+1,cz (lF N i O l) (i+1) (sF N i O l),bF code k bb N i O l b),⟨q,by rw [dU,si];exact i2,by rw [nj];exact i3,by rw [ci];exact i4⟩,by simp only;omega,by repeat' (first | exact trivial | rfl | apply And.intro)⟩
 ·replace q:¬(i:Int) < (N:Int):=fun z=>q (Xd z)
  have q:i=N:=by omega
  subst q
  have e:(gI code k).ops.drop i=[]:=List.drop_eq_nil_of_le (by omega)
  rw [e] at i4
  unfold jI at i4
  rw [←i4]
  refine ⟨⟨by omega,by omega⟩,by omega,trivial,hb _ ⟨1,bb.names⟩,by repeat' (first | exact trivial | rfl | apply And.intro)⟩
theorem yS (l:List Chnk) (n:Int) (hl:Wf (.lst (.st .chunk)) l) (ho:qF l) :
  let A:=(0:Int);let B:=True;let C:=B/\(310:Int)=nq l n/\B;let D:=List.length l;let E:=(↑D:Int);let F:=(4096:Int);let G:=dfl (Ty.st SN.chunk);let H:=(4096:Nat);let I:=l=l;let J:=n=n;let K:=false=false;let L:=E=E;let M:=I/\J/\K/\I/\L/\B;let N:=(1:Int);let O:=Int.toNat E;let P:=(↑O:Int);let Q:=I/\Int.toNat E=Int.toNat E/\B;let R:=dfl (Ty.st SN.stt);let S:=(0:Nat);let T:=bg0 D n;if decide (n<A)=true then C else if decide ((1000000:Int)<n)=true then C else if decide (E=A)=true then C else if decide (F<E)=true then C else (A<=A/\A<E)/\if (!decide ((List.getD l (Int.toNat A) G).args=A))=true then C else (∃(x:Nat × Int),(x.1<=List.length l/\A<=x.2/\x.2<=F/\dM (List.drop x.1 l) x.2=dM l A/\∀(j:Nat),j<x.1→List.length (List.getD l j default).ops<=H)/\A=(↑x.1:Int)/\A=x.2/\M)/\∀(x:Nat × Int),let U:=(↑x.1:Int);let V:=List.getD l (Int.toNat U) G;let W:=(↑(List.length V.ops):Int);let X:=x.2=x.2;(x.1<=List.length l/\A<=x.2/\x.2<=F/\dM (List.drop x.1 l) x.2=dM l A/\∀(j:Nat),j<x.1→List.length (List.getD l j default).ops<=H)→if decide (U<E)=true then (A<=U/\U<E)/\if decide (V.args<A)=true then C else if decide (F<V.args)=true then C else inR IntKind.i64 (F - x.2)/\if decide (F - x.2<W)=true then C else inR IntKind.i64 (x.2+W)/\inR IntKind.i64 (U+N)/\∃(y:Nat × Int),(y.1<=List.length l/\A<=y.2/\y.2<=F/\dM (List.drop y.1 l) y.2=dM l A/\∀(j:Nat),j<y.1→List.length (List.getD l j default).ops<=H)/\List.length l - y.1<List.length l - x.1/\U+N=(↑y.1:Int)/\x.2+W=y.2/\M else (A<=E/\E<=E/\E*(↑(16:Nat):Int)<=(140737488355328:Int))/\(∃(x_1:Nat),x_1<=List.length l/\A=(↑x_1:Int)/\U=U/\X/\I/\J/\K/\I/\L/\K/\P=P/\List.replicate O {things:=A,names:=A:Stt}=fG D x_1/\Q)/\∀(x_1:Nat),let Y:=(↑x_1:Int);let Z:=fG D x_1;x_1<=List.length l→if decide (Y<P)=true then (A<=Y/\Y<P)/\Int.toNat Y<List.length Z/\inR IntKind.i64 (Y+N)/\∃(y:Nat),y<=List.length l/\List.length l - y<List.length l - x_1/\Y+N=(↑y:Int)/\U=U/\X/\I/\J/\K/\I/\L/\K/\P=P/\List.set Z (Int.toNat Y) {things:=(-1:Int),names:=(List.getD Z (Int.toNat Y) R).names:Stt}=fG D y/\Q else (A<=A/\A<P)/\Int.toNat A<List.length Z/\(∃(x_2:Nat × List Stt),(x_2.1<=List.length l/\List.length x_2.2=List.length l/\nk l (List.length l - x_2.1) x_2.1 x_2.2=nk l D S T)/\A=(↑x_2.1:Int)/\Y=Y/\U=U/\X/\I/\J/\K/\I/\L/\K/\P=P/\K/\L/\List.set Z (Int.toNat A) {things:=A,names:=n:Stt}=x_2.2/\Q)/\∀(x_2:Nat × List Stt),let a:=(↑x_2.1:Int);let b:=cO l a x_2.2;x_2.1<=List.length l/\List.length x_2.2=List.length l/\nk l (List.length l - x_2.1) x_2.1 x_2.2=nk l D S T→if decide (a<E)=true then (A<=a/\a<P)/\Int.toNat a<List.length x_2.2/\if decide ((List.getD x_2.2 (Int.toNat a) R).things<A)=true then C else FR l a x_2.2 O/\if (!b.1)=true then C else inR IntKind.i64 (a+N)/\∃(y:Nat × List Stt),(y.1<=List.length l/\List.length y.2=List.length l/\nk l (List.length l - y.1) y.1 y.2=nk l D S T)/\List.length l - y.1<List.length l - x_2.1/\a+N=(↑y.1:Int)/\Y=Y/\U=U/\X/\I/\J/\K/\I/\L/\K/\P=P/\K/\L/\b.2=y.2/\Q else B/\A=nq l n/\B:=by
 conv=>zeta
 have dC:dfl (Ty.st SN.chunk)=(default:Chnk):=rfl
 have dS:dfl (Ty.st SN.stt)=(default:Stt):=rfl
 simp only [dC,dS,Int.toNat_natCast,Int.toNat_zero]
 have bad:n < 0∨1000000 < n∨l.length=0∨4096 < l.length∨(l.getD 0 default).args≠0→nq l n=310:=fun h=>by unfold nq;rw [if_pos h]
 refine aa (fun h=>?_) (fun h=>?_)
 ·rw [bad (.inl (Xo h))];repeat' (first | exact trivial | rfl | apply And.intro)
 have h1:¬n < 0:=fun z=>h (Xd z)
 refine aa (fun h=>?_) (fun h=>?_)
 ·rw [bad (.inr (.inl (Xo h)))];repeat' (first | exact trivial | rfl | apply And.intro)
 have h2:¬1000000 < n:=fun z=>h (Xd z)
 refine aa (fun h=>?_) (fun h=>?_)
 ·have:=Xo h
  rw [bad (.inr (.inr (.inl (by omega))))];repeat' (first | exact trivial | rfl | apply And.intro)
 have h3:¬l.length=0:=fun z=>h (Xd (by omega))
 refine aa (fun h=>?_) (fun h=>?_)
 ·have:=Xo h
  rw [bad (.inr (.inr (.inr (.inl (by omega)))))];repeat' (first | exact trivial | rfl | apply And.intro)
 have h4:¬4096 < l.length:=fun z=>h (Xd (by omega))
 refine ⟨⟨by omega,by omega⟩,aa (fun h=>?_) (fun h=>?_)⟩
 ·have h:(l.getD 0 default).args≠0:=by simpa using h
  rw [bad (.inr (.inr (.inr (.inr h))))];repeat' (first | exact trivial | rfl | apply And.intro)
 have h5:(l.getD 0 default).args=0:=by simpa using h
 have e0:nq l n=if dM l 0=false then 310 else if nk l l.length 0 (bg0 l.length n)=true then 0 else 310:=by
  unfold nq
  rw [if_neg (fun z=>z.elim h1 (fun z=>z.elim h2 (fun z=>z.elim h3 (fun z=>z.elim h4 (fun z=>z h5)))))]
 clear bad
 generalize nq l n=vf at *
 refine ⟨⟨(0,0),⟨Nat.zero_le _,Int.le_refl _,by omega,rfl,fun j hj=>absurd hj (Nat.not_lt_zero _)⟩,by repeat' (first | exact trivial | rfl | apply And.intro)⟩,?_⟩
 rintro ⟨i,z⟩ ⟨i1,i2,i3,i4,i5⟩
 simp only at i1 i2 i3 i4 i5 ⊢
 refine aa (fun q=>?_) (fun q=>?_)
 ·have q:=Xo q
  have q:i < l.length:=by omega
  rw [bp l i (default:Chnk) q] at i4
  have i6:¬((l.getD i default).args < 0∨4096 < (l.getD i default).args∨4096 - z < ((l.getD i default).ops.length:Int))→dM (l.drop (i+1)) (z+(l.getD i default).ops.length)=dM l 0:=fun w=>by
   rw [←i4]
   conv=>rhs;unfold dM
   rw [if_neg w]
  have i7:(l.getD i default).args < 0∨4096 < (l.getD i default).args∨4096 - z < ((l.getD i default).ops.length:Int)→vf=310:=fun w=>by
   have e:dM l 0=false:=by rw [←i4];unfold dM;rw [if_pos w]
   rw [e0,if_pos e]
  refine ⟨⟨by omega,by omega⟩,aa (fun w=>?_) (fun w=>?_)⟩
  ·rw [i7 (.inl (Xo w))];repeat' (first | exact trivial | rfl | apply And.intro)
  have w1:¬(l.getD i default).args < 0:=fun z=>w (Xd z)
  refine aa (fun w=>?_) (fun w=>?_)
  ·rw [i7 (.inr (.inl (Xo w)))];repeat' (first | exact trivial | rfl | apply And.intro)
  have w2:¬4096 < (l.getD i default).args:=fun z=>w (Xd z)
  refine ⟨aq (by omega) (by omega),aa (fun w=>?_) (fun w=>?_)⟩
  ·rw [i7 (.inr (.inr (Xo w)))];repeat' (first | exact trivial | rfl | apply And.intro)
  have w3:¬4096 - z < ((l.getD i default).ops.length:Int):=fun z=>w (Xd z)
  refine ⟨aq (by omega) (by omega),aq (by omega) (by omega),(i+1,z+(l.getD i default).ops.length),⟨q,by simp only;omega,by simp only;omega,i6 (by omega),fun j hj=>?_⟩,by simp only;omega,by repeat' (first | exact trivial | rfl | apply And.intro)⟩
  simp only at hj
  by_cases hji:j=i
  ·subst hji;omega
  ·exact i5 j (by omega)
 have q:¬(i:Int) < (l.length:Int):=fun z=>q (Xd z)
 have q:i=l.length:=by omega
 subst q
 rw [List.drop_length] at i4
 have e1:dM l 0=true:=by rw [←i4];rfl
 rw [e1,if_neg (by decide)] at e0
 generalize hR:nk l l.length 0 (bg0 l.length n)=R at *
 refine ⟨⟨by omega,by omega,by omega⟩,⟨0,Nat.zero_le _,rfl,by repeat' (first | exact trivial | rfl | apply And.intro)⟩,?_⟩
 intro x hx
 refine aa (fun q=>?_) (fun q=>?_)
 ·have q:=Xo q
  have q:x < l.length:=by omega
  refine ⟨⟨by omega,by omega⟩,by rw [fc hx];exact q,aq (by omega) (by omega),x+1,by omega,by omega,by omega,?_⟩
  rw [sk q]
  have e:(fG l.length x).set x {things:=-1,names:=({things:=0,names:=0}:Stt).names}=fG l.length (x+1):=vT q default
  repeat' (first | exact trivial | exact e | rfl | apply And.intro)
 have q:¬(x:Int) < (l.length:Int):=fun z=>q (Xd z)
 have q:x=l.length:=by omega
 subst q
 refine ⟨⟨by omega,by omega⟩,by rw [fc (Nat.le_refl _)];omega,⟨(0,bg0 l.length n),⟨Nat.zero_le _,yw _ _,hR⟩,by repeat' (first | exact trivial | rfl | apply And.intro)⟩,?_⟩
 rintro ⟨k,bs⟩ ⟨k1,k2,k3⟩
 simp only at k1 k2 k3 ⊢
 refine aa (fun q=>?_) (fun q=>?_)
 ·have q:=Xo q
  have q:k < l.length:=by omega
  have ek:l.length - k=(l.length - (k+1))+1:=by omega
  rw [ek] at k3
  unfold nk at k3
  refine ⟨⟨by omega,by omega⟩,by omega,aa (fun w=>?_) (fun w=>?_)⟩
  ·rw [if_pos (Xo w)] at k3
   rw [←k3] at e0
   rw [e0]
   repeat' (first | exact trivial | rfl | apply And.intro)
  have w:¬(bs.getD k default).things < 0:=fun z=>w (Xd z)
  rw [if_neg w] at k3
  have hm:gI l (k:Int)∈l:=by unfold gI;rw [Int.toNat_natCast];exact eo l k default q
  refine ⟨⟨by omega,by omega,k2,rfl,by unfold bY gI;rw [Int.toNat_natCast];exact i5 k q,fun o hO=>FV ho hm hO⟩,aa (fun v=>?_) (fun v=>?_)⟩
  ·rw [if_neg (fun z=>by rw [z] at v;cases v)] at k3
   rw [←k3] at e0
   rw [e0]
   repeat' (first | exact trivial | rfl | apply And.intro)
  ·have v:(cO l (k:Int) bs).1=true:=by simpa using v
   rw [if_pos v] at k3
   refine ⟨aq (by omega) (by omega),(k+1,(cO l (k:Int) bs).2),⟨q,by rw [rL];exact k2,k3⟩,by simp only;omega,by repeat' (first | exact trivial | rfl | apply And.intro)⟩
 ·have q:¬(k:Int) < (l.length:Int):=fun z=>q (Xd z)
  have q:k=l.length:=by omega
  subst q
  rw [Nat.sub_self] at k3
  rw [←k3] at e0
  rw [e0]
  repeat' (first | exact trivial | rfl | apply And.intro)
theorem Gk (s:Str) (p:Int) (b:Bool)  :
  let A:=tkN s p b;let B:=True/\(0:Int)=A.1/\s=s/\p=A.2.1/\true=A.2.2/\True;let C:=aL s p;if b=true then B else if (!decide (C.2.2=(0:Int)))=true then B else if decide ((9223372036854775807:Int)<C.1)=true then B else inR IntKind.i64 C.1/\True/\C.1=A.1/\s=s/\C.2.1=A.2.1/\b=A.2.2/\True:=by
 conv=>zeta
 obtain ⟨h1,h2,h3⟩:=kM s p
 unfold InU at h1
 unfold tkN
 refine aa (fun h=>?_) (fun h=>?_)
 ·rw [if_pos (.inl h)];exact ⟨trivial,rfl,rfl,rfl,rfl,trivial⟩
 refine aa (fun k=>?_) (fun k=>?_)
 ·have k:(aL s p).2.2≠0:=by simpa using k
  rw [if_pos (.inr (.inl k))];exact ⟨trivial,rfl,rfl,rfl,rfl,trivial⟩
 have k:(aL s p).2.2=0:=by simpa using k
 refine aa (fun m=>?_) (fun m=>?_)
 ·rw [if_pos (.inr (.inr (Xo m)))];exact ⟨trivial,rfl,rfl,rfl,rfl,trivial⟩
 have m:¬9223372036854775807 < (aL s p).1:=fun q=>m (Xd q)
 rw [if_neg (fun z=>z.elim h (fun z=>z.elim (fun z=>z k) m))]
 exact ⟨aq (by omega) (by omega),trivial,rfl,rfl,rfl,rfl,trivial⟩
theorem HO (s:Str) (p:Int) (b:Bool) (ho:AtS s p/\s.length<=68719476736) :
  let A:=tkN s p b;let B:=tkN s A.2.1 A.2.2;let C:=True;let D:=opF s p b;let E:=(0:Int);let F:=s=s;let G:=C/\A.1=D.1.kind/\B.1=D.1.n/\[]=D.1.name/\D.1.names=[]/\D.1.tos=[]/\E=D.1.pos/\F/\B.2.1=D.2.1/\true=D.2.2/\C;let H:=bX s B.2.1;let I:=cR s H.2.1;let J:=(9223372036854775807:Int);let K:=(1:Int);let L:=tkN s I.2.1 B.2.2;let M:=I.2.1=I.2.1;let N:=I.2.2=I.2.2;let O:=false=false;let P:=op1 s p b;let Q:=op2 s p b;let R:=op3 s p b;let S:=op4 s p b;let T:=E=E;let U:=T/\T/\ma UInt8=ma UInt8/\T/\C;let V:=P.1=D.1.kind;let W:=Q.1=D.1.n;let X:=R.1=D.1.name;let Y:=S.1=D.1.names;if B.2.2=true then G else if (!decide (H.2.2=E))=true then G else List.length s<=(1099511627776:Nat)/\if (!decide (I.2.2=E))=true then G else (∃(x:Nat × Int × List Int × Int × Bool),(AtS s x.2.2.2.1/\x.2.1<=J/\dL s x.2.2.2.1 x.2.2.2.2<=(↑x.1:Int)/\(↑(List.length x.2.2.1):Int)<=x.2.2.2.1+aY x.2.2.2.2 K/\toL s x.1 x.2.1 x.2.2.1 x.2.2.2.1 x.2.2.2.2=op6 s p b)/\L.1=x.2.1/\H.1=H.1/\M/\N/\O/\I.1=I.1/\O/\A.1=P.1/\B.1=Q.1/\H.1=R.1/\I.1=S.1/\x.2.2.1=[]/\T/\F/\L.2.1=x.2.2.2.1/\L.2.2=x.2.2.2.2/\List.length x.2.2.1=(0:Nat)/\U)/\∀(x:Nat × Int × List Int × Int × Bool),let Z:=tkN s x.2.2.2.1 x.2.2.2.2;let a:=C/\V/\W/\X/\Y/\x.2.2.1=D.1.tos/\Z.1=D.1.pos/\F/\Z.2.1=D.2.1/\Z.2.2=D.2.2/\C;AtS s x.2.2.2.1/\x.2.1<=J/\dL s x.2.2.2.1 x.2.2.2.2<=(↑x.1:Int)/\(↑(List.length x.2.2.1):Int)<=x.2.2.2.1+aY x.2.2.2.2 K/\toL s x.1 x.2.1 x.2.2.1 x.2.2.2.1 x.2.2.2.2=op6 s p b→if decide (E<x.2.1)=true then if (!x.2.2.2.2)=true then (List.length x.2.2.1=List.length x.2.2.1/\(List.length x.2.2.1+List.length [Z.1])*(8:Nat)<=(140737488355328:Nat))/\inR IntKind.i64 (x.2.1 - K)/\∃(y:Nat × Int × List Int × Int × Bool),(AtS s y.2.2.2.1/\y.2.1<=J/\dL s y.2.2.2.1 y.2.2.2.2<=(↑y.1:Int)/\(↑(List.length y.2.2.1):Int)<=y.2.2.2.1+aY y.2.2.2.2 K/\toL s y.1 y.2.1 y.2.2.1 y.2.2.2.1 y.2.2.2.2=op6 s p b)/\y.1<x.1/\x.2.1 - K=y.2.1/\H.1=H.1/\M/\N/\O/\I.1=I.1/\O/\P.1=P.1/\Q.1=Q.1/\R.1=R.1/\S.1=S.1/\x.2.2.1++[Z.1]=y.2.2.1/\T/\F/\Z.2.1=y.2.2.2.1/\Z.2.2=y.2.2.2.2/\List.length (x.2.2.1++[Z.1])=List.length y.2.2.1/\U else a else a:=by
 conv=>zeta
 obtain ⟨ha,hl⟩:=ho
 have q2:tkN s (tkN s p b).2.1 (tkN s p b).2.2=op2 s p b:=rfl
 have q3:bX s (op2 s p b).2.1=op3 s p b:=rfl
 have q4:cR s (op3 s p b).2.1=op4 s p b:=rfl
 have q5:tkN s (op4 s p b).2.1 (op2 s p b).2.2=op5 s p b:=rfl
 have q1:tkN s p b=op1 s p b:=rfl
 simp only [q2,q3,q4,q5]
 simp only [q1]
 refine aa (fun h=>?_) (fun h=>?_)
 ·have e:opF s p b=(⟨(op1 s p b).1,(op2 s p b).1,[],[],[],0⟩,(op2 s p b).2.1,true):=by unfold opF;rw [if_pos (.inl h)]
  rw [e];repeat' (first | exact trivial | rfl | apply And.intro)
 refine aa (fun k=>?_) (fun k=>?_)
 ·have k:(op3 s p b).2.2≠0:=by simpa using k
  have e:opF s p b=(⟨(op1 s p b).1,(op2 s p b).1,[],[],[],0⟩,(op2 s p b).2.1,true):=by unfold opF;rw [if_pos (.inr k)]
  rw [e];repeat' (first | exact trivial | rfl | apply And.intro)
 have k:(op3 s p b).2.2=0:=by simpa using k
 have n1:¬((op2 s p b).2.2=true∨(op3 s p b).2.2≠0):=fun z=>z.elim h (fun z=>z k)
 refine ⟨by omega,aa (fun m=>?_) (fun m=>?_)⟩
 ·have m:(op4 s p b).2.2≠0:=by simpa using m
  have e:opF s p b=(⟨(op1 s p b).1,(op2 s p b).1,[],[],[],0⟩,(op2 s p b).2.1,true):=by unfold opF;rw [if_neg n1,if_pos m]
  rw [e];repeat' (first | exact trivial | rfl | apply And.intro)
 have m:(op4 s p b).2.2=0:=by simpa using m
 have e:opF s p b=(⟨(op1 s p b).1,(op2 s p b).1,(op3 s p b).1,(op4 s p b).1,(op6 s p b).1,(op7 s p b).1⟩,(op7 s p b).2.1,(op7 s p b).2.2):=by unfold opF;rw [if_neg n1,if_neg (fun z=>z m)]
 obtain ⟨g1,g2⟩:=Ia ha k m
 have fin:∀(l:List Int) (q:Int) (c:Bool),(l,q,c)=op6 s p b→True/\(op1 s p b).1=(opF s p b).1.kind/\(op2 s p b).1=(opF s p b).1.n/\(op3 s p b).1=(opF s p b).1.name/\(op4 s p b).1=(opF s p b).1.names/\
   l=(opF s p b).1.tos/\(tkN s q c).1=(opF s p b).1.pos/\True/\(tkN s q c).2.1=(opF s p b).2.1/\(tkN s q c).2.2=(opF s p b).2.2/\True:=by
  intro l q c hq
  have e7:tkN s q c=op7 s p b:=by unfold op7;rw [←hq]
  rw [e,e7]
  simp only [←hq]
  repeat' (first | exact trivial | rfl | apply And.intro)
 refine ⟨⟨(s.length+2,(op5 s p b).1,[],(op5 s p b).2.1,(op5 s p b).2.2),⟨g1,g2,iU g1,by have:=g1.1;simp only [List.length_nil];unfold aY;split <;> omega,rfl⟩,by repeat' (first | exact trivial | rfl | apply And.intro)⟩,?_⟩
 rintro ⟨f,n,l,q,c⟩ ⟨i1,i2,i3,i4,i5⟩
 simp only at i1 i2 i3 i4 i5 ⊢
 cases f with
 | zero=>have:=gP (b:=c) i1;omega
 | succ f=>
 unfold toL at i5
 refine aa (fun r=>?_) (fun r=>?_)
 ·replace r:=Xo r
  refine aa (fun t=>?_) (fun t=>?_)
  ·have t:c=false:=by simpa using t
   subst t
   rw [if_pos ⟨r,rfl⟩] at i5
   obtain ⟨j1,j2,j3,j4,j5⟩:=iT (b:=false) i1
   have hs:=fS i1 j3 (fun q=>(j5 q).2)
   have i6:=i1.2
   simp only [aY,Bool.false_eq_true,if_false] at i4
   refine ⟨⟨by trivial,by simp only [List.length_singleton];omega⟩,aq (by omega) (by omega),(f,n - 1,l++[(tkN s q false).1],(tkN s q false).2.1,(tkN s q false).2.2),⟨j3,by simp only;omega,by simp only;omega,?_,i5⟩,by simp,by repeat' (first | exact trivial | rfl | apply And.intro)⟩
   simp only [List.length_append,List.length_singleton]
   unfold aY
   split
   ·omega
   ·rename_i z
    have:=(j5 (Bool.eq_false_iff.2 z)).2
    omega
  ·have t:c=true:=by simpa using t
   rw [if_neg (fun z=>by rw [t] at z;cases z.2)] at i5
   exact fin l q c i5
 ·replace r:¬0 < n:=fun z=>r (Xd z)
  rw [if_neg (fun z=>r z.1)] at i5
  exact fin l q c i5
theorem EC (n:Int)  :
  True/\gx (IntKind.wrap IntKind.u64 n)=cU n/\True:=by
 exact ⟨trivial,rfl,trivial⟩
theorem yT (l:List Chnk) (hl:Wf (.lst (.st .chunk)) l) (ho:qF l) :
  let A:=(0:Int);let B:=True;let C:=ko l;let D:=(↑(List.length l):Int);let E:=l=l;let F:=ma UInt8=ma UInt8;let G:=A=A;let H:=false=false;let I:=D=D;let J:=E/\F/\G/\H/\E/\I/\B;let K:=dfl (Ty.st SN.chunk);let L:=(9223372036854775807:Nat);let M:=true=true;let N:=dfl (Ty.st SN.op);let O:=(140737488355328:Nat);let P:=dfl (Ty.int IntKind.i64);let Q:=(1:Int);qF l/\if (!decide (nq l (1000:Int)=A))=true then B/\[]=C.1/\(310:Int)=C.2/\B else (∃(x:Nat),x<=List.length l/\A=(↑x:Int)/\cU D=prC l x/\J)/\∀(x:Nat),let R:=(↑x:Int);let S:=Int.toNat R;let T:=List.getD l S K;let U:=(↑(List.length T.ops):Int);let V:=cU T.args++cU U;let W:=List.getD l S default;let X:=T.ops=T.ops;let Y:=List.getD l S K=List.getD l S K;let Z:=R=R/\E/\F/\G/\H/\E/\I/\M/\X/\U=U/\Y/\B;x<=List.length l→if decide (R<D)=true then (A<=R/\R<D)/\List.length (cU T.args)+List.length (cU U)<=L/\List.length (prC l x)+List.length V<=L/\(∃(x_1:Nat),x_1<=List.length W.ops/\A=(↑x_1:Int)/\prC l x++V=prC l S++prO W x_1/\Z)/\∀(x_1:Nat),let a:=(↑x_1:Int);let b:=Int.toNat a;let c:=List.getD T.ops b N;let d:=hX c.names;let e:=(↑(List.length c.tos):Int);let f:=cU c.kind++cU c.n++cH c.name++hX c.names++cU e;let g:=List.getD W.ops b default;let h:=a=a/\R=R/\E/\F/\G/\H/\E/\I/\M/\X/\U=U/\M/\c.tos=c.tos/\e=e/\Y/\List.getD T.ops b N=List.getD T.ops b N/\B;x_1<=List.length W.ops→if decide (a<U)=true then (A<=a/\a<U)/\List.length (cU c.kind)+List.length (cU c.n)<=L/\List.length c.name<=O/\List.length (cU c.kind++cU c.n)+List.length (cH c.name)<=L/\List.length d<=O/\List.length (cU c.kind++cU c.n++cH c.name)+List.length d<=L/\List.length (cU c.kind++cU c.n++cH c.name++hX c.names)+List.length (cU e)<=L/\List.length (prC l S++prO W x_1)+List.length f<=L/\(∃(x_2:Nat),x_2<=List.length g.tos/\A=(↑x_2:Int)/\prC l S++prO W x_1++f=prC l S++prO W b++prT g x_2/\h)/\∀(x_2:Nat),let i:=(↑x_2:Int);let j:=prC l S++prO W b++prT g x_2;let k:=List.getD c.tos (Int.toNat i) P;x_2<=List.length g.tos→if decide (i<e)=true then (A<=i/\i<e)/\List.length j+List.length (cU k)<=L/\inR IntKind.i64 (i+Q)/\∃(y:Nat),y<=List.length g.tos/\List.length g.tos - y<List.length g.tos - x_2/\i+Q=(↑y:Int)/\prC l S++prO W b++prT g x_2++cU k=prC l S++prO W b++prT g y/\h else List.length j+List.length (cU c.pos)<=L/\inR IntKind.i64 (a+Q)/\∃(y:Nat),y<=List.length W.ops/\List.length W.ops - y<List.length W.ops - x_1/\a+Q=(↑y:Int)/\prC l S++prO W b++prT g x_2++cU c.pos=prC l S++prO W y/\Z else inR IntKind.i64 (R+Q)/\∃(y:Nat),y<=List.length l/\List.length l - y<List.length l - x/\R+Q=(↑y:Int)/\prC l S++prO W x_1=prC l y/\J else B/\prC l x=C.1/\A=C.2/\B:=by
 conv=>zeta
 have ln:=hl.len
 have hT:(om l).length<=8796093022208:=ho
 have dC:dfl (Ty.st SN.chunk)=(default:Chnk):=rfl
 have dO:dfl (Ty.st SN.op)=(default:Opn):=rfl
 have dI:dfl (Ty.int IntKind.i64)=(0:Int):=rfl
 simp only [Int.toNat_natCast,dC,dO,dI]
 refine ⟨ho,aa (fun h=>?_) (fun h=>?_)⟩
 ·have h:nq l 1000≠0:=by simpa using h
  unfold ko;rw [if_pos h];exact ⟨trivial,rfl,rfl,trivial⟩
 have h:nq l 1000=0:=by simpa using h
 refine ⟨⟨0,Nat.zero_le _,rfl,by unfold prC;simp,by repeat' (first | exact trivial | rfl | apply And.intro)⟩,?_⟩
 intro x hx
 have px:=DZ l x
 refine aa (fun k=>?_) (fun k=>?_)
 ·replace k:=Xo k
  have k:x < l.length:=by omega
  have eC:=vP k
  have sC:=vN k
  generalize l.getD x default=C at *
  have oC:=yt C
  have a1:=df C.args
  have a2:=df (C.ops.length:Int)
  refine ⟨⟨by omega,by omega⟩,by omega,by simp only [List.length_append];omega,⟨0,Nat.zero_le _,rfl,by unfold prO FK;simp,by repeat' (first | exact trivial | rfl | apply And.intro)⟩,?_⟩
  intro y hy
  have py:=E0 C y
  refine aa (fun m=>?_) (fun m=>?_)
  ·replace m:=Xo m
   have m:y < C.ops.length:=by omega
   have eO:=vQ m
   have sO:=vO m
   have lO:C.ops.length<=C.ops.length:=Nat.le_refl _
   generalize C.ops.getD y default=O at *
   obtain ⟨b1,b2,b3⟩:=qC O
   have oT:=qE O
   have c1:=df O.kind
   have c2:=df O.n
   have c3:=df (O.tos.length:Int)
   have c4:=df O.pos
   refine ⟨⟨by omega,by omega⟩,by omega,by omega,by simp only [List.length_append];omega,by omega,by simp only [List.length_append];omega,by simp only [List.length_append];omega,by simp only [List.length_append];omega,⟨0,Nat.zero_le _,rfl,by unfold prT DW;simp,by repeat' (first | exact trivial | rfl | apply And.intro)⟩,?_⟩
   intro z hz
   have pz:=Hp O z
   refine aa (fun n=>?_) (fun n=>?_)
   ·replace n:=Xo n
    have n:z < O.tos.length:=by omega
    have sT:=DY n
    have c5:=df (O.tos.getD z 0)
    refine ⟨⟨by omega,by omega⟩,by simp only [List.length_append];omega,aq (by omega) (by omega),z+1,by omega,by omega,by omega,by rw [sT];simp only [List.append_assoc],by repeat' (first | exact trivial | rfl | apply And.intro)⟩
   ·replace n:¬(z:Int) < (O.tos.length:Int):=fun q=>n (Xd q)
    have n:z=O.tos.length:=by omega
    subst n
    refine ⟨by simp only [List.length_append];omega,aq (by omega) (by omega),y+1,by omega,by omega,by omega,by rw [sO,←FQ];simp only [List.append_assoc],by repeat' (first | exact trivial | rfl | apply And.intro)⟩
  ·replace m:¬(y:Int) < (C.ops.length:Int):=fun q=>m (Xd q)
   have m:y=C.ops.length:=by omega
   subst m
   refine ⟨aq (by omega) (by omega),x+1,by omega,by omega,by omega,by rw [sC,FP],by repeat' (first | exact trivial | rfl | apply And.intro)⟩
 ·replace k:¬(x:Int) < (l.length:Int):=fun q=>k (Xd q)
  have k:x=l.length:=by omega
  subst k
  have e:ko l=(om l,0):=by unfold ko;rw [if_neg (fun z=>z h)]
  rw [e,FO]
  exact ⟨trivial,rfl,rfl,trivial⟩
theorem yU (s:Str) (ho:s.length<=68719476736) :
  let A:=(9223372036854775807:Int);let B:=(4:Int);let C:=(0:Int);let D:=tkN s C false;let E:=s=s;let F:=C=C;let G:=True;let H:=(3:Int);let I:=(List.length s+(2:Nat));let J:=(140737488355328:Nat);let K:=(1:Int);let L:=kV s;let M:=G/\L.1=[]/\(310:Int)=L.2/\G;let N:=(↑(List.length s):Int);let O:=C=L.2/\G;(∃(x:Nat × Int × List Chnk × Int × Bool),(AtS s x.2.2.2.1/\x.2.1<=A/\dL s x.2.2.2.1 x.2.2.2.2<=(↑x.1:Int)/\(↑(wCs x.2.2.1):Int)<=x.2.2.2.1+aY x.2.2.2.2 B/\chL s x.1 x.2.1 x.2.2.1 x.2.2.2.1 x.2.2.2.2=mq s)/\D.1=x.2.1/\x.2.2.1=[]/\E/\F/\E/\D.2.1=x.2.2.2.1/\D.2.2=x.2.2.2.2/\List.length x.2.2.1=(0:Nat)/\G)/\∀(x:Nat × Int × List Chnk × Int × Bool),let P:=tkN s x.2.2.2.1 x.2.2.2.2;let Q:=tkN s P.2.1 P.2.2;let R:=x.2.1=x.2.1;let S:=x.2.2.1=x.2.2.1;let T:=List.length x.2.2.1=List.length x.2.2.1;let U:=inR IntKind.i64 (x.2.1 - K);let V:=ko x.2.2.1;let W:=if x.2.2.2.2=true then M else if (!decide (x.2.2.2.1=N))=true then M else qF x.2.2.1/\if (!decide (V.2=C))=true then M else if (!decide (V.1=s))=true then M else G/\x.2.2.1=L.1/\O;AtS s x.2.2.2.1/\x.2.1<=A/\dL s x.2.2.2.1 x.2.2.2.2<=(↑x.1:Int)/\(↑(wCs x.2.2.1):Int)<=x.2.2.2.1+aY x.2.2.2.2 B/\chL s x.1 x.2.1 x.2.2.1 x.2.2.2.1 x.2.2.2.2=mq s→if decide (C<x.2.1)=true then if (!x.2.2.2.2)=true then (∃(x_1:Nat × Int × List Opn × Int × Bool),(AtS s x_1.2.2.2.1/\x_1.2.1<=A/\dL s x_1.2.2.2.1 x_1.2.2.2.2<=(↑x_1.1:Int)/\(↑(wOs x_1.2.2.1):Int)<=x_1.2.2.2.1+aY x_1.2.2.2.2 H/\ig s x_1.1 x_1.2.1 x_1.2.2.1 x_1.2.2.2.1 x_1.2.2.2.2=ig s I Q.1 [] Q.2.1 Q.2.2)/\Q.1=x_1.2.1/\R/\S/\E/\F/\true=true/\P.1=P.1/\x_1.2.2.1=[]/\E/\Q.2.1=x_1.2.2.2.1/\Q.2.2=x_1.2.2.2.2/\List.length x_1.2.2.1=(0:Nat)/\T/\G)/\∀(x_1:Nat × Int × List Opn × Int × Bool),let X:=AtS s x_1.2.2.2.1;let Y:=opF s x_1.2.2.2.1 x_1.2.2.2.2;let Z:=[{args:=P.1,ops:=x_1.2.2.1:Chnk}];let a:=(T/\(List.length x.2.2.1+List.length Z)*(32:Nat)<=J)/\U/\∃(y:Nat × Int × List Chnk × Int × Bool),(AtS s y.2.2.2.1/\y.2.1<=A/\dL s y.2.2.2.1 y.2.2.2.2<=(↑y.1:Int)/\(↑(wCs y.2.2.1):Int)<=y.2.2.2.1+aY y.2.2.2.2 B/\chL s y.1 y.2.1 y.2.2.1 y.2.2.2.1 y.2.2.2.2=mq s)/\y.1<x.1/\x.2.1 - K=y.2.1/\x.2.2.1++Z=y.2.2.1/\E/\F/\E/\x_1.2.2.2.1=y.2.2.2.1/\x_1.2.2.2.2=y.2.2.2.2/\List.length (x.2.2.1++Z)=List.length y.2.2.1/\G;X/\x_1.2.1<=A/\dL s x_1.2.2.2.1 x_1.2.2.2.2<=(↑x_1.1:Int)/\(↑(wOs x_1.2.2.1):Int)<=x_1.2.2.2.1+aY x_1.2.2.2.2 H/\ig s x_1.1 x_1.2.1 x_1.2.2.1 x_1.2.2.2.1 x_1.2.2.2.2=ig s I Q.1 [] Q.2.1 Q.2.2→if decide (C<x_1.2.1)=true then if (!x_1.2.2.2.2)=true then (X/\List.length s<=(68719476736:Nat))/\(List.length x_1.2.2.1=List.length x_1.2.2.1/\(List.length x_1.2.2.1+List.length [Y.1])*(88:Nat)<=J)/\inR IntKind.i64 (x_1.2.1 - K)/\∃(y:Nat × Int × List Opn × Int × Bool),(AtS s y.2.2.2.1/\y.2.1<=A/\dL s y.2.2.2.1 y.2.2.2.2<=(↑y.1:Int)/\(↑(wOs y.2.2.1):Int)<=y.2.2.2.1+aY y.2.2.2.2 H/\ig s y.1 y.2.1 y.2.2.1 y.2.2.2.1 y.2.2.2.2=ig s I Q.1 [] Q.2.1 Q.2.2)/\y.1<x_1.1/\x_1.2.1 - K=y.2.1/\R/\S/\E/\F/\true=true/\P.1=P.1/\x_1.2.2.1++[Y.1]=y.2.2.1/\E/\Y.2.1=y.2.2.2.1/\Y.2.2=y.2.2.2.2/\List.length (x_1.2.2.1++[Y.1])=List.length y.2.2.1/\T/\G else a else a else W else W:=by
 conv=>zeta
 have h0:AtS s 0:=⟨Int.le_refl _,by omega⟩
 obtain ⟨a1,a2,a3,a4,a5⟩:=iT (b:=false) h0
 have hw:=Ho s
 have fin:∀(l:List Chnk) (q:Int) (c:Bool),(l,q,c)=mq s→if c=true then True/\(kV s).1=[]/\(310:Int)=(kV s).2/\True else if (!decide (q=(s.length:Int)))=true then True/\(kV s).1=[]/\(310:Int)=(kV s).2/\True else
   qF l/\if (!decide ((ko l).2=(0:Int)))=true then True/\(kV s).1=[]/\(310:Int)=(kV s).2/\True else if (!decide ((ko l).1=s))=true then True/\(kV s).1=[]/\(310:Int)=(kV s).2/\True else True/\l=(kV s).1/\(0:Int)=(kV s).2/\True:=by
  intro l q c hq
  unfold kV
  rw [←hq] at hw ⊢
  refine aa (fun k=>?_) (fun k=>?_)
  ·rw [if_pos (.inl k)];exact ⟨trivial,rfl,rfl,trivial⟩
  refine aa (fun m=>?_) (fun m=>?_)
  ·have m:q≠(s.length:Int):=by simpa using m
   rw [if_pos (.inr m)];exact ⟨trivial,rfl,rfl,trivial⟩
  have m:q=(s.length:Int):=by simpa using m
  have n1:¬(c=true∨q≠(s.length:Int)):=fun z=>z.elim k (fun z=>z m)
  rw [if_neg n1]
  have hw:=hw (Bool.eq_false_iff.2 k)
  have he:=FN l
  refine ⟨by unfold qF;simp only at hw;omega,aa (fun n=>?_) (fun n=>?_)⟩
  ·have n:(ko l).2≠0:=by simpa using n
   rw [if_pos (.inl n)];exact ⟨trivial,rfl,rfl,trivial⟩
  have n:(ko l).2=0:=by simpa using n
  refine aa (fun r=>?_) (fun r=>?_)
  ·have r:(ko l).1≠s:=by simpa using r
   rw [if_pos (.inr r)];exact ⟨trivial,rfl,rfl,trivial⟩
  have r:(ko l).1=s:=by simpa using r
  rw [if_neg (fun z=>z.elim (fun z=>z n) (fun z=>z r))]
  exact ⟨trivial,rfl,rfl,trivial⟩
 refine ⟨⟨(s.length+2,(tkN s 0 false).1,[],(tkN s 0 false).2.1,(tkN s 0 false).2.2),⟨a3,a2,iU a3,by have:=a3.1;simp only [wCs,List.map_nil,List.sum_nil];unfold aY;split <;> omega,rfl⟩,by repeat' (first | exact trivial | rfl | apply And.intro)⟩,?_⟩
 rintro ⟨f,n,l,q,c⟩ ⟨i1,i2,i3,i4,i5⟩
 simp only at i1 i2 i3 i4 i5 ⊢
 cases f with
 | zero=>have:=gP (b:=c) i1;omega
 | succ f=>
 unfold chL at i5
 refine aa (fun r=>?_) (fun r=>?_)
 ·replace r:=Xo r
  refine aa (fun t=>?_) (fun t=>?_)
  ·have t:c=false:=by simpa using t
   subst t
   rw [if_pos ⟨r,rfl⟩] at i5
   have q1:tkN s q false=ch1 s q false:=rfl
   simp only [q1]
   have q2:tkN s (ch1 s q false).2.1 (ch1 s q false).2.2=ch2 s q false:=rfl
   simp only [q2]
   have q3:ig s (s.length+2) (ch2 s q false).1 [] (ch2 s q false).2.1 (ch2 s q false).2.2=ch3 s q false:=rfl
   simp only [q3]
   obtain ⟨b1,b2,b3⟩:=GR (b:=false) i1
   obtain ⟨d1,d2,d3,d4⟩:=GS (b:=false) i1
   have e2:(ch2 s q false).1<=9223372036854775807:=(iT (iT (b:=false) i1).2.2.1).2.1
   have i6:=i1.2
   have hs:=fS i1 d1 (fun z=>(d3 z).2)
   simp only [aY,Bool.false_eq_true,if_false] at i4
   have wl:=yr l
   have next:∀(ops:List Opn) (p':Int) (c':Bool),(ops,p',c')=ch3 s q false→((True)/\(l.length+([{args:=(ch1 s q false).1,ops:=ops}]:List Chnk).length) *32<=140737488355328)/\inR IntKind.i64 (n - 1)/\
     ∃(y:Nat × Int × List Chnk × Int × Bool),(AtS s y.2.2.2.1/\y.2.1<=9223372036854775807/\dL s y.2.2.2.1 y.2.2.2.2<=(y.1:Int)/\(wCs y.2.2.1:Int)<=y.2.2.2.1+aY y.2.2.2.2 4/\chL s y.1 y.2.1 y.2.2.1 y.2.2.2.1 y.2.2.2.2=mq s)/\y.1 < f+1/\
      n - 1=y.2.1/\l++[{args:=(ch1 s q false).1,ops:=ops}]=y.2.2.1/\True/\True/\True/\p'=y.2.2.2.1/\c'=y.2.2.2.2/\(l++[({args:=(ch1 s q false).1,ops:=ops}:Chnk)]).length=y.2.2.1.length/\True:=by
    intro ops p' c' he
    have e1:ops=(ch3 s q false).1:=by rw [←he]
    have e3:p'=(ch3 s q false).2.1:=by rw [←he]
    have e4:c'=(ch3 s q false).2.2:=by rw [←he]
    subst e1 e3 e4
    refine ⟨⟨trivial,by simp only [List.length_singleton];omega⟩,aq (by omega) (by omega),(f,n - 1,l++[⟨(ch1 s q false).1,(ch3 s q false).1⟩],(ch3 s q false).2.1,(ch3 s q false).2.2),⟨d1,by simp only;omega,by simp only;omega,?_,i5⟩,by simp,by repeat' (first | exact trivial | rfl | apply And.intro)⟩
    simp only [Ak]
    have ew:wCs [(⟨(ch1 s q false).1,(ch3 s q false).1⟩:Chnk)]=wC ⟨(ch1 s q false).1,(ch3 s q false).1⟩:=by simp [wCs]
    rw [ew]
    omega
   refine ⟨⟨(s.length+2,(ch2 s q false).1,[],(ch2 s q false).2.1,(ch2 s q false).2.2),⟨b1,e2,iU b1,by have:=b1.1;simp only [wOs,List.map_nil,List.sum_nil];unfold aY;split <;> omega,rfl⟩,by repeat' (first | exact trivial | rfl | apply And.intro)⟩,?_⟩
   rintro ⟨g,m,ops,p',c'⟩ ⟨j1,j2,j3,j4,j5⟩
   simp only at j1 j2 j3 j4 j5 ⊢
   cases g with
   | zero=>have:=gP (b:=c') j1;omega
   | succ g=>
   unfold ig at j5
   refine aa (fun u=>?_) (fun u=>?_)
   ·replace u:=Xo u
    refine aa (fun v=>?_) (fun v=>?_)
    ·have v:c'=false:=by simpa using v
     subst v
     rw [if_pos ⟨u,rfl⟩] at j5
     obtain ⟨k1,k2,k3,k4⟩:=GQ (b:=false) j1
     have hs2:=fS j1 k1 (fun z=>(k3 z).2)
     have j6:=j1.2
     have wo:=yq ops
     simp only [aY,Bool.false_eq_true,if_false] at j4
     refine ⟨⟨j1,ho⟩,⟨by trivial,by simp only [List.length_singleton];omega⟩,aq (by omega) (by omega),(g,m - 1,ops++[(opF s p' false).1],(opF s p' false).2.1,(opF s p' false).2.2),⟨k1,by simp only;omega,by simp only;omega,?_,j5⟩,by simp,by repeat' (first | exact trivial | rfl | apply And.intro)⟩
     simp only [Aj]
     have ew:wOs [(opF s p' false).1]=wO (opF s p' false).1:=by simp [wOs]
     rw [ew]
     omega
    ·have v:c'=true:=by simpa using v
     rw [if_neg (fun z=>by rw [v] at z;cases z.2)] at j5
     exact next ops p' c' j5
   ·replace u:¬0 < m:=fun z=>u (Xd z)
    rw [if_neg (fun z=>u z.1)] at j5
    exact next ops p' c' j5
  ·have t:c=true:=by simpa using t
   rw [if_neg (fun z=>by rw [t] at z;cases z.2)] at i5
   exact fin l q c i5
 ·replace r:¬0 < n:=fun z=>r (Xd z)
  rw [if_neg (fun z=>r z.1)] at i5
  exact fin l q c i5
end Go.AL.Seat
end
section
open Go Go.AL Go.Proofs Go.Shelf Go.Pd
namespace Go.AL.Seat
variable [Tabs]
def nn:Nat→Bool:=fun _=>false
def cf (k:Nat→Bool) (l:Nat→List (Option Nat)) (p r m:Nat→Bool) (s:Nat→List AV→List (Nat × SObj)→Option Ans):Cfg:=⟨tbl,s,k,l,p,r,m⟩
def a0:An:=⟨[],[],[]⟩
theorem g1 (k:Nat→Bool) (l:Nat→List (Option Nat)) (p r m:Nat→Bool) {s:Nat→List AV→List (Nat × SObj)→Option Ans} (hS:bB Tryz.prog s) (a:An) {f:Nat} {fn:Func} (hf:Tryz.prog.funcs[f]?=some fn)
  {args:List AV} {S:List (Nat × SObj)} {A:Ans} {Q:Prop} (q:Q) (h:fwp (cf k l p r m s) a fn args S A=Q:=by kernel_rfl):aD Tryz.prog f args S A:=Dx (C:=cf k l p r m s) mixed Er hS hf q h
theorem g0 {s:Nat→List AV→List (Nat × SObj)→Option Ans} (hS:bB Tryz.prog s) (a:An) {f:Nat} {fn:Func} (hf:Tryz.prog.funcs[f]?=some fn)
  {args:List AV} {S:List (Nat × SObj)} {A:Ans} {Q:Prop} (q:Q) (h:fwp (cf nn (fun _=>[]) nn nn nn s) a fn args S A=Q:=by kernel_rfl):aD Tryz.prog f args S A:=Dx (C:=cf nn (fun _=>[]) nn nn nn s) mixed Er hS hf q h
theorem sc {f:Nat} {g:Pat} {l:List (Nat × Pat)} (h:ag Tryz.prog f g) (hl:bB Tryz.prog (gr l)):bB Tryz.prog (gr ((f,g) ::l)):=qg h hl
theorem sn:bB Tryz.prog (gr []):=se
theorem ee {f:Nat} {fn:Func} (h:Tryz.prog.funcs[f]?=some fn) (e:(fn.body.isNone || (fn.name == "runtime.NumGoroutine"))=false:=by kernel_rfl):ax Tryz.prog f:=ax.mk' h e
variable [SeatLaid]
theorem nv:ag Tryz.prog 102 (p1 (.int .u8) fun c=>.ret (.bool (de c))):=
 bK (ee Tryz.func102) fun c _ _=>g0 sn a0 Tryz.func102 (Es c)
theorem nw:ag Tryz.prog 103 (p1 (.int .u8) fun c=>.ret (.bool (dt c))):=
 bK (ee Tryz.func103) fun c _ _=>g0 sn a0 Tryz.func103 (Et c)
theorem Cp:ag Tryz.prog 106 (p1 (.int .u8) fun c=>.ret (.bool (ki c))):=
 bK (ee Tryz.func106) fun c _ _=>g0 sn a0 Tryz.func106 (Eu c)
theorem wv:ag Tryz.prog 104 (p1 (.int .u8) fun c=>.ret (.bool (gu c))):=
 bK (ee Tryz.func104) fun c _ _=>g0 (sc nv (sc nw (sc Cp sn))) a0 Tryz.func104 (Gh c)
theorem yV:ag Tryz.prog 139 (pf .str 102 fun s=>.ret (.bool (cM de s))):=
 nQ (ee Tryz.func139) fun s hs _=>g0 (sc nv (sc nw (sc wv sn))) ⟨[(4,fun S0=>⟨Nat,fun k=>k<=s.length/\cM de s=(s.drop k).all fun c=>gu (bI c),fun k=>[(22,.int .i64 k)],fun _=>[],fun k=>s.length - k⟩)],[],[]⟩ Tryz.func139 (Ch s hs)
theorem yW:ag Tryz.prog 139 (pf .str 103 fun s=>.ret (.bool (cM dt s))):=
 nQ (ee Tryz.func139) fun s hs _=>g0 (sc nv (sc nw (sc wv sn))) ⟨[(4,fun S0=>⟨Nat,fun k=>k<=s.length/\cM dt s=(s.drop k).all fun c=>gu (bI c),fun k=>[(22,.int .i64 k)],fun _=>[],fun k=>s.length - k⟩)],[],[]⟩ Tryz.func139 (Ci s hs)
theorem ED:ag Tryz.prog 105 (p1 .str fun s=>.ret (.bool (vu s))):=
 bK (ee Tryz.func105) fun s _ _=>g0 sn a0 Tryz.func105 (Gi s)
theorem ie:ag Tryz.prog 96 (p1 .str fun s=>.ret (.bool (aH s))):=
 bK (ee Tryz.func96) fun s _ _=>g0 (sc yV (sc ED sn)) a0 Tryz.func96 (Gj s)
theorem kS:ag Tryz.prog 97 (p1 .str fun s=>.ret (.bool (eF s))):=
 bK (ee Tryz.func97) fun s _ _=>g0 (sc yW sn) a0 Tryz.func97 (Ev s)
theorem lI:ag Tryz.prog 141 (p1 (.lst .str) fun a=>⟨none,none,.fn 181 [.ptr 1 0],[(1,.box (.lst .str a none))]⟩):=
 bK (ee Tryz.func141) fun a _ _=>g0 sn a0 Tryz.func141 (Cj a)
theorem qS:ag Tryz.prog 60 (p1 (.int .u64) fun n=>.ret (.int .i64 (b9 n))):=
 bK (ee Tryz.func60) fun n _ _=>g0 (sc (Cg) sn) a0 Tryz.func60 (Ck n)
theorem ku:ag Tryz.prog 28 (p1 (.int .u64) fun n=>.ret (.str (gx n))):=
 bK (ee Tryz.func28) fun n _ _=>g1 nn (fun _=>[]) nn (fun d=>Nat.beq d 9 || Nat.beq d 18 || Nat.beq d 32 || Nat.beq d 5014) nn (sc qS sn) ⟨[(7,fun S0=>⟨Nat,fun j=>(j:Int)<=b9 n,fun j=>[(5,.int .i64 (b9 n - 1 - j)),(4,.glst (1+j) (lG n j).length 14)],fun j=>[(14,.grow (.int .u8) (1+j) (lG n j))],fun j=>(b9 n).toNat - j⟩)],[],[]⟩ Tryz.func28 (yQ n)
theorem sD:ag Tryz.prog 29 (p1 .str fun s=>⟨some (s.length<=140737488355328),none,.str (cH s),[]⟩):=
 bK (ee Tryz.func29) fun s _ ho=>g0 (sc ku sn) a0 Tryz.func29 (Ew s (ho _ rfl))
theorem Cq:ag Tryz.prog 30 (p1 (.lst .str) fun l=>⟨some ((hX l).length<=140737488355328),none,.str (hX l),[]⟩):=
 bK (ee Tryz.func30) fun l hl ho=>g0 (sc ku (sc sD (sc (Cf) (sc (yP) sn)))) ⟨[(4,fun S0=>⟨Nat,fun k=>k<=l.length,fun k=>[(13,.int .i64 k)],fun k=>[(3,.bld 127 5 (gx l.length++(l.take k).flatMap cH))],fun k=>l.length - k⟩)],[],[]⟩ Tryz.func30 (Ex l hl (ho _ rfl))
theorem Cr:ag Tryz.prog 95 (Hn):=
 FJ (ee Tryz.func95) fun s p b ho=>g0 sn a0 Tryz.func95 (Ey s p b ho)
theorem ny:ag Tryz.prog 65 (p2 .str (.int .i64) fun s p=>.ret (.tup [.int .u64 (aL s p).1,.int .i64 (aL s p).2.1,.int .i64 (aL s p).2.2])):=
 fa (ee Tryz.func65) fun s p hs _ _=>g0 (sc Cr (sc qS sn)) ⟨[(10,fun S0=>⟨Nat,fun k=>(k:Int)<=bO (ak s p).1,fun k=>[(32,.int .i64 k),(10,.int .u64 (bT s k (bL (ak s p).1,(ak s p).2.1,(ak s p).2.2)).1)],fun k=>[(3,.box (.int .i64 (bT s k (bL (ak s p).1,(ak s p).2.1,(ak s p).2.2)).2.1)),(7,.box (.bool (bT s k (bL (ak s p).1,(ak s p).2.1,(ak s p).2.2)).2.2))],fun k=>(bO (ak s p).1).toNat - k⟩)],[],[(100009,fun S0=>⟨[(10,.int .u64 (bL (ak s p).1)),(11,.int .i64 (bO (ak s p).1))],[]⟩)]⟩ Tryz.func65 (Ez s p hs)
theorem qU:ag Tryz.prog 66 (p2 .str (.int .i64) fun s p=>.ret (.tup [.str (bX s p).1,.int .i64 (bX s p).2.1,.int .i64 (bX s p).2.2])):=
 fa (ee Tryz.func66) fun s p hs _ _=>g0 (sc ny sn) a0 Tryz.func66 (Cl s p hs)
theorem yX:ag Tryz.prog 67 (p2 .str (.int .i64) fun s p=>⟨some (s.length<=1099511627776),none,.tup [.lst .str (cR s p).1 none,.int .i64 (cR s p).2.1,.int .i64 (cR s p).2.2],[]⟩):=
 fa (ee Tryz.func67) fun s p hs _ ho=>g0 (sc ny (sc qU sn)) ⟨[(5,fun S0=>⟨Nat × Int × List Str × Int,fun x=>AtS s x.2.2.2/\(s.length:Int)+1<=x.1+x.2.2.2/\InU x.2.1/\(wL x.2.2.1:Int)<=x.2.2.2/\eG s x.1 x.2.1 x.2.2.1 x.2.2.2=cR s p,fun x=>[(7,.int .u64 x.2.1),(9,.lst .str x.2.2.1 (some 701)),(1,.int .i64 x.2.2.2)],fun x=>[(701,.tail .str x.2.2.1.length)],fun x=>x.1⟩)],[],[]⟩ Tryz.func67 (Cm s p hs (ho _ rfl))
theorem yY:ag Tryz.prog 98 (p1 (.lst .str) fun l=>⟨some (l.length *16<=140737488355328),none,.bool (fR l),[]⟩):=
 bK (ee Tryz.func98) fun l _ ho=>g0 (sc lI (sc (lE) (sc ie (sc (kn) sn)))) ⟨[(2,fun S0=>⟨Nat,fun k=>k<=l.length/\l.all aH=(l.drop k).all aH,fun k=>[(8,.int .i64 k)],fun _=>[],fun k=>l.length - k⟩)],[],[]⟩ Tryz.func98 (Cn l (ho _ rfl))
theorem wx:ag Tryz.prog 73 (p1 (.st .op) fun o=>⟨some (o.names.length *16<=140737488355328),none,.bool (kN o),[]⟩):=
 bK (ee Tryz.func73) fun o _ ho=>g0 (sc ie (sc kS (sc yY sn))) ⟨[],[],[(100012,fun S0=>⟨[(9,.bool (is8 o.kind))],[]⟩),(100021,fun S0=>⟨[(38,.bool (isB o.kind))],[]⟩),(100024,fun S0=>⟨[(44,.bool (isU o.kind))],[]⟩),(100027,fun S0=>⟨[(50,.bool (isR o.kind))],[]⟩),(100032,fun S0=>⟨[(6,.int .i64 (toN o))],[]⟩)]⟩ Tryz.func73 (yR o (ho _ rfl))
theorem Cs:ag Tryz.prog 72 (p1 (.st .op) fun o=>.ret (.tup [.int .i64 (iV o).1,.int .i64 (iV o).2])):=
 bK (ee Tryz.func72) fun o _ _=>g1 nn (fun _=>[]) nn (fun d=>Nat.beq d 17) nn sn ⟨[],[],[(100008,fun S0=>⟨[(6,.bool (is6 o.kind))],[]⟩),(100019,fun S0=>⟨[(27,.bool (is4 o.kind))],[]⟩),(100026,fun S0=>⟨[(38,.bool (is2 o.kind))],[]⟩)]⟩ Tryz.func72 (EA o)
theorem Ct:ag Tryz.prog 71 (E1):=
 E2 (ee Tryz.func71) fun l n tgt s ho=>g0 sn a0 Tryz.func71 (EB l n tgt s ho)
theorem yZ:ag Tryz.prog 39 (Hq):=
 FT (ee Tryz.func39) fun code k bs n ho=>g1 nn (fun _=>[]) nn (fun d=>Nat.beq d 87 || Nat.beq d 88 || Nat.beq d 126 || Nat.beq d 162 || Nat.beq d 172 || Nat.beq d 178 || Nat.beq d 229) nn (sc Ct (sc Cs (sc wx sn))) ⟨[(5,fun S0=>⟨Nat,fun j=>j<=bY code k+1,fun j=>[(40,.int .i64 j)],fun j=>[(37,.box (.row (.st .stt) (fG (bY code k+1) j)))],fun j=>bY code k+1 - j⟩),(13,fun S0=>⟨Nat × List Stt × List Stt,fun x=>x.1<=bY code k/\x.2.1.length=bY code k+1/\x.2.2.length=code.length/\jI code k (bs.getD k.toNat default) (bY code k) ((gI code k).ops.drop x.1) x.1 x.2.1 x.2.2=cO code k bs,fun x=>[(55,.int .i64 x.1)],fun x=>[(37,.box (.row (.st .stt) x.2.1)),(901,.box (.row (.st .stt) x.2.2))],fun x=>bY code k - x.1⟩),(46,fun S0=>rV S0 55 fun i0=>FU S0 37 12 fun l0 s0=>⟨Nat × List Stt,fun x=>x.1<=((gI code k).ops.getD i0.toNat default).tos.length/\x.2.length=bY code k+1/\jz i0 (bY code k) s0 (((gI code k).ops.getD i0.toNat default).tos.drop x.1) x.2=jz i0 (bY code k) s0 ((gI code k).ops.getD i0.toNat default).tos l0,fun x=>[(234,.int .i64 x.1)],fun x=>[(37,.box (.row (.st .stt) x.2))],fun x=>((gI code k).ops.getD i0.toNat default).tos.length - x.1⟩)],[],[(100051,fun S0=>Hr S0 fun i l b=>([(15,.bool (gF code k (bs.getD k.toNat default) (bY code k) i ((gI code k).ops.getD i.toNat default) l b)),(10,.int .i64 i)],[(12,.box (.st .stt (sF (bY code k) i ((gI code k).ops.getD i.toNat default) l))),(37,.box (.row (.st .stt) (lF (bY code k) i ((gI code k).ops.getD i.toNat default) l))),(901,.box (.row (.st .stt) (bF code k (bs.getD k.toNat default) (bY code k) i ((gI code k).ops.getD i.toNat default) l b)))]))]⟩ Tryz.func39 (Co code k bs n ho)
theorem o9:ag Tryz.prog 19 (p2 (.lst (.st .chunk)) (.int .i64) fun l n=>⟨some (qF l),none,.int .i64 (nq l n),[]⟩):=
 fa (ee Tryz.func19) fun l n hl _ ho=>g0 (sc yZ sn) ⟨[(6,fun S0=>⟨Nat × Int,fun x=>x.1<=l.length/\0<=x.2/\x.2<=4096/\dM (l.drop x.1) x.2=dM l 0/\∀j:Nat,j < x.1→(l.getD j default).ops.length<=4096,fun x=>[(36,.int .i64 x.1),(5,.int .i64 x.2)],fun _=>[],fun x=>l.length - x.1⟩),(14,fun S0=>⟨Nat,fun k=>k<=l.length,fun k=>[(73,.int .i64 k)],fun k=>[(65,.box (.row (.st .stt) (fG l.length k)))],fun k=>l.length - k⟩),(20,fun S0=>⟨Nat × List Stt,fun x=>x.1<=l.length/\x.2.length=l.length/\nk l (l.length - x.1) x.1 x.2=nk l l.length 0 (bg0 l.length n),fun x=>[(93,.int .i64 x.1)],fun x=>[(65,.box (.row (.st .stt) x.2))],fun x=>l.length - x.1⟩)],[],[]⟩ Tryz.func19 (yS l n hl (ho _ rfl))
theorem wy:ag Tryz.prog 35 (FW tkA):=
 Ao (ee Tryz.func35) fun s p b _=>g0 (sc ny sn) a0 Tryz.func35 (Gk s p b)
theorem Gl:ag Tryz.prog 36 (FW opA):=
 Ao (ee Tryz.func36) fun s p b ho=>g0 (sc wy (sc qU (sc yX sn))) ⟨[(12,fun S0=>⟨Nat × Int × List Int × Int × Bool,fun x=>AtS s x.2.2.2.1/\x.2.1<=9223372036854775807/\dL s x.2.2.2.1 x.2.2.2.2<=x.1/\(x.2.2.1.length:Int)<=x.2.2.2.1+aY x.2.2.2.2 1/\toL s x.1 x.2.1 x.2.2.1 x.2.2.2.1 x.2.2.2.2=op6 s p b,fun x=>[(8,.int .i64 x.2.1)],fun x=>[(3,.box (.agg [.int .i64 (op1 s p b).1,.int .i64 (op2 s p b).1,.str (op3 s p b).1,.lst .str (op4 s p b).1 none,.lst (.int .i64) x.2.2.1 (some 701),.int .i64 0])),(900,.box (.agg [.str s,.int .i64 x.2.2.2.1,.bool x.2.2.2.2])),(701,.tail (.int .i64) x.2.2.1.length)],fun x=>x.1⟩)],[],[]⟩ Tryz.func36 (HO s p b (ho _ rfl))
theorem Cu:ag Tryz.prog 27 (p1 (.int .i64) fun n=>.ret (.str (cU n))):=
 bK (ee Tryz.func27) fun n _ _=>g1 nn (fun _=>[]) nn (fun d=>Nat.beq d 4) nn (sc ku sn) a0 Tryz.func27 (EC n)
theorem oa:ag Tryz.prog 15 (p1 (.lst (.st .chunk)) fun l=>⟨some (qF l),none,.tup [.str (ko l).1,.int .i64 (ko l).2],[]⟩):=
 bK (ee Tryz.func15) fun l hl ho=>g0 (sc (o9) (sc Cu (sc sD (sc Cq sn)))) ⟨[(6,fun S0=>⟨Nat,fun k=>k<=l.length,fun k=>[(21,.int .i64 k),(5,.str (prC l k))],fun k=>[],fun k=>l.length - k⟩),(10,fun S0=>rV S0 21 fun k0=>⟨Nat,fun j=>j<=(l.getD k0.toNat default).ops.length,fun j=>[(40,.int .i64 j),(5,.str (prC l k0.toNat++prO (l.getD k0.toNat default) j))],fun _=>[],fun j=>(l.getD k0.toNat default).ops.length - j⟩),(14,fun S0=>rV S0 21 fun k0=>rV S0 40 fun j0=>⟨Nat,fun i=>i<=((l.getD k0.toNat default).ops.getD j0.toNat default).tos.length,fun i=>[(72,.int .i64 i),(5,.str (prC l k0.toNat++prO (l.getD k0.toNat default) j0.toNat++prT ((l.getD k0.toNat default).ops.getD j0.toNat default) i))],fun _=>[],fun i=>((l.getD k0.toNat default).ops.getD j0.toNat default).tos.length - i⟩)],[],[]⟩ Tryz.func15 (yT l hl (ho _ rfl))
theorem wz:ag Tryz.prog 17 (p1 .str fun s=>⟨some (s.length<=68719476736),none,.tup [.lst (.st .chunk) (kV s).1 none,.int .i64 (kV s).2],[]⟩):=
 bK (ee Tryz.func17) fun s _ ho=>g0 (sc wy (sc Gl (sc oa sn))) ⟨[(4,fun S0=>⟨Nat × Int × List Chnk × Int × Bool,fun x=>AtS s x.2.2.2.1/\x.2.1<=9223372036854775807/\dL s x.2.2.2.1 x.2.2.2.2<=x.1/\(wCs x.2.2.1:Int)<=x.2.2.2.1+aY x.2.2.2.2 4/\chL s x.1 x.2.1 x.2.2.1 x.2.2.2.1 x.2.2.2.2=mq s,fun x=>[(6,.int .i64 x.2.1),(5,.lst (.st .chunk) x.2.2.1 (some 702))],fun x=>[(13,.box (.agg [.str s,.int .i64 x.2.2.2.1,.bool x.2.2.2.2])),(702,.tail (.st .chunk) x.2.2.1.length)],fun x=>x.1⟩),(8,fun S0=>FX S0 13 fun p0 b0=>rV S0 8 fun k0=>FY S0 7 fun a0=>⟨Nat × Int × List Opn × Int × Bool,fun x=>AtS s x.2.2.2.1/\x.2.1<=9223372036854775807/\dL s x.2.2.2.1 x.2.2.2.2<=x.1/\(wOs x.2.2.1:Int)<=x.2.2.2.1+aY x.2.2.2.2 3/\ig s x.1 x.2.1 x.2.2.1 x.2.2.2.1 x.2.2.2.2=ig s (s.length+2) k0 [] p0 b0,fun x=>[(8,.int .i64 x.2.1)],fun x=>[(7,.box (.agg [.int .i64 a0,.lst (.st .op) x.2.2.1 (some 701)])),(13,.box (.agg [.str s,.int .i64 x.2.2.2.1,.bool x.2.2.2.2])),(701,.tail (.st .op) x.2.2.1.length)],fun x=>x.1⟩)],[],[]⟩ Tryz.func17 (yU s (ho _ rfl))
end Go.AL.Seat
end
section
namespace Go.Proofs
open Go.Shelf
def Tryz.lays2_16_ren:Go.Shelf.Ren:=⟨fun | 16=>88 | n=>n,fun | 24=>22 | 9=>9 | 4=>4 | n=>n,fun | n=>n⟩
theorem Tryz.lays2_16:Go.Proofs.Lays2.n16 Tryz.prog Tryz.lays2_16_ren:={
 mixed:=by kernel_rfl
 f16:=Xt Tryz.func88
 t4:=Tryz.underlying4
 a4:=Tryz.isAgg4
 z4:=Tryz.sizeOf4
 v4:=Tryz.zeroValue4
 t9:=Tryz.underlying9
 a9:=Tryz.isAgg9
 z9:=Tryz.sizeOf9
 v9:=Tryz.zeroValue9
 t24:=Tryz.underlying22
 a24:=Tryz.isAgg22
 z24:=Tryz.sizeOf22
 v24:=Tryz.zeroValue22
 i9:=by kernel_rfl}
end Go.Proofs
end
section
namespace Go.AL.Seat
open Go Go.AL Go.Proofs Go.Shelf Go.Pd
variable [Tabs]
theorem sG:ag Tryz.prog 88 vW:=vX Tryz.lays2_16 rfl (ax.mk' Tryz.func88 (by kernel_rfl))
end Go.AL.Seat
end
noncomputable section
namespace Go.AL.Seat
open Go Go.AL Go.Proofs Go.Shelf Go.Pd
variable [Tabs]
def HP (t:Str):Bool:=!t.isEmpty && decide (t.length<=15) && t.all fun c=>decide (48<=c.toNat) && decide (c.toNat<=57)
theorem Gm {t:Str} (h:HP t=true):sf t:=by
 unfold HP at h
 simp only [Bool.and_eq_true,Bool.not_eq_true',decide_eq_true_eq,List.all_eq_true] at h
 exact ⟨fun e=>(by rw [e] at h;exact absurd h.1.1 (by decide)),h.1.2,h.2⟩
def qV:List (Nat × Pat):=
 [(143,p1 .str fun s=>.ret (.tup [.int .i32 ((jx s).1:Int),.int .i64 ((jx s).2:Int)])),
  (156,p2 .str (.int .u8) fun a c=>.ret (.int .i64 (DF a c))),
  (108,q2 .str .str (fun _ b=>decide (b=qp)) fun a _=>.str (qq a)),
  (151,q2 .str .str (fun a b=>decide (b=[45]) && decide (a.length < 4294967281)) fun a _=>.tup [.str (iG a),.str (lD a),.bool (nd a)]),
  (152,q2 .str .str (fun a b=>decide (b=[46]) && decide (a.length < 4294967281)) fun a _=>.lst .str (splitB 46 a) none),
  (158,q2 .str .str (fun _ b=>decide (b.length=1)) fun a b=>.bool (decide (b.getD 0 0∈a))),
  (154,q1 .str HP fun t=>.tup [.int .i64 (ld t),.nilif]),
  (96,p1 .str fun s=>.ret (.bool (aH s))),(97,p1 .str fun s=>.ret (.bool (eF s)))]
theorem qW [SeatLaid]:bB Tryz.prog (gr qV):=
 sc qy (sc rJ (sc (sB DM fun _ _ h=>Xo h)
  (sc (sB FH fun _ _ h=>by rw [Bool.and_eq_true] at h;exact ⟨Xo h.1,Xo h.2⟩)
  (sc (sB BI fun _ _ h=>by rw [Bool.and_eq_true] at h;exact ⟨Xo h.1,Xo h.2⟩)
  (sc (sB ua fun _ _ h=>Xo h) (sc (Ep DL fun _ h=>Gm h)
  (sc ie (sc kS sn))))))))
end Go.AL.Seat
end
noncomputable section
namespace Go.AL.Seat
open Go Go.AL Go.Proofs
variable [Tabs]
def aw:List (Nat × TR):=[(3,r2),(9,r9),(26,⟨.strct false [(0,3),(1,9),(2,9),(3,3),(4,22),(5,22),(6,23),(7,24),(8,3)],9,152,[.int .i64 0,.str [],.str [],.int .i64 0,.nils,.nils,.nils,.nils,.int .i64 0],some (.st .term)⟩),(49,⟨.strct false [(0,3),(1,9),(2,9),(3,22),(4,23)],5,88,[.int .i64 0,.str [],.str [],.nils,.nils],some (.st .shape)⟩),(168,⟨.strct false [(0,166)],4,48,[.nils,.int .i64 0,.int .i64 0,.int .i64 0],some (.st .par)⟩),(22,⟨.slice 9,1,24,[.nils],some (.lst .str)⟩),(163,⟨.ptr 168,1,8,[.nilp],none⟩),(5,r5),(200,Cd),(162,⟨.strct true [(0,3),(1,9),(2,3)],3,32,[.int .i64 0,.str [],.int .i64 0],some (.st .token)⟩),(60,⟨.strct false [(0,3),(1,3),(2,9),(3,22),(4,58),(5,3)],6,88,[.int .i64 0,.int .i64 0,.str [],.nils,.nils,.int .i64 0],some (.st .op)⟩),(24,⟨.slice 26,1,24,[.nils],some (.lst (.st .term))⟩),(23,⟨.slice 49,1,24,[.nils],some (.lst (.st .shape))⟩),(55,⟨.strct true [(0,32),(1,3)],2,16,[.int .i64 0,.int .i64 0],some (.st .fault)⟩),(71,r70),(61,⟨.slice 60,1,24,[.nils],some (.lst (.st .op))⟩),(156,Gg),(4,⟨.bool,1,1,[.bool false],some .bool⟩),(154,Gf),(69,⟨.slice 73,1,24,[.nils],some (.lst (.st .nm))⟩),(32,r2),(166,⟨.strct false [(0,102),(1,3),(2,55)],4,48,[.nils,.int .i64 0,.int .i64 0,.int .i64 0],some (.st .par)⟩),(58,⟨.slice 3,1,24,[.nils],some (.lst (.int .i64))⟩),(31,⟨.slice 63,1,24,[.nils],some (.lst (.st .chunk))⟩),(102,⟨.slice 162,1,24,[.nils],some (.lst (.st .token))⟩),(189,⟨.strct true [(0,3),(1,3),(2,3),(3,9)],4,40,[.int .i64 0,.int .i64 0,.int .i64 0,.str []],some (.st .version)⟩),(152,⟨.ptr 156,1,8,[.nilp],none⟩),(63,⟨.strct false [(0,3),(1,61)],2,32,[.int .i64 0,.nils],some (.st .chunk)⟩),(68,r67),(1,r1),(73,⟨.strct true [(0,9),(1,9)],2,32,[.str [],.str []],some (.st .nm)⟩),(122,⟨.slice 5,1,24,[.nils],some (.lst (.int .u8))⟩),(195,r1),(51,⟨.strct false [(0,9),(1,9),(2,49)],7,120,[.str [],.str [],.int .i64 0,.str [],.str [],.nils,.nils],some (.st .bind)⟩),(66,⟨.ptr 31,1,8,[.nilp],none⟩),(227,⟨.arr 3 3,3,24,[.int .i64 0,.int .i64 0,.int .i64 0],none⟩),(21,r21),(268,Ce),(27,⟨.slice 51,1,24,[.nils],some (.lst (.st .bind))⟩),(110,r1),(203,r1),(46,r1),(20,r20),(267,Ce),(199,Cd),(48,⟨.strct false [(0,3),(1,9),(2,9),(3,22),(4,23)],5,88,[.int .i64 0,.str [],.str [],.nils,.nils],none⟩),(188,⟨.strct true [(0,3),(1,3),(2,3),(3,9)],4,40,[.int .i64 0,.int .i64 0,.int .i64 0,.str []],none⟩),(165,⟨.strct false [(0,102),(1,3),(2,55)],4,48,[.nils,.int .i64 0,.int .i64 0,.int .i64 0],none⟩),(167,⟨.strct false [(0,166)],4,48,[.nils,.int .i64 0,.int .i64 0,.int .i64 0],none⟩),(161,⟨.strct true [(0,3),(1,9),(2,3)],3,32,[.int .i64 0,.str [],.int .i64 0],none⟩),(155,Gg),(153,Gf),(59,⟨.strct false [(0,3),(1,3),(2,9),(3,22),(4,58),(5,3)],6,88,[.int .i64 0,.int .i64 0,.str [],.nils,.nils,.int .i64 0],none⟩),(67,r67),(72,⟨.strct true [(0,9),(1,9)],2,32,[.str [],.str []],none⟩),(50,⟨.strct false [(0,9),(1,9),(2,49)],7,120,[.str [],.str [],.int .i64 0,.str [],.str [],.nils,.nils],none⟩),(70,r70),(62,⟨.strct false [(0,3),(1,61)],2,32,[.int .i64 0,.nils],none⟩),(54,⟨.strct true [(0,32),(1,3)],2,16,[.int .i64 0,.int .i64 0],none⟩),(25,⟨.strct false [(0,3),(1,9),(2,9),(3,3),(4,22),(5,22),(6,23),(7,24),(8,3)],9,152,[.int .i64 0,.str [],.str [],.int .i64 0,.nils,.nils,.nils,.nils,.int .i64 0],none⟩)]
theorem wA:aO Tryz.prog aw:=.cons tk (.cons tk (.cons tk (.cons tk (.cons tk (.cons tk (.cons tk (.cons tk (.cons tk (.cons tk (.cons tk (.cons tk (.cons tk (.cons tk (.cons tk (.cons tk (.cons tk (.cons tk (.cons tk (.cons tk (.cons tk (.cons tk (.cons tk (.cons tk (.cons tk (.cons tk (.cons tk (.cons tk (.cons tk (.cons tk (.cons tk (.cons tk (.cons tk (.cons tk (.cons tk (.cons tk (.cons tk (.cons tk (.cons tk (.cons tk (.cons tk (.cons tk (.cons tk (.cons tk (.cons tk (.cons tk (.cons tk (.cons tk (.cons tk (.cons tk (.cons tk (.cons tk (.cons tk (.cons tk (.cons tk (.cons tk (.cons tk (.cons tk (.cons tk (.cons tk (.nil))))))))))))))))))))))))))))))))))))))))))))))))))))))))))))
end Go.AL.Seat
end
noncomputable section
namespace Go.AL.Seat
open Go Go.AL Go.Proofs
set_option maxRecDepth 1000000
variable [Tabs]
def EE (f:Nat):List (Option Nat):=if Nat.beq f 74 || Nat.beq f 75 then [some 2] else []
def EF (f:Nat):Bool:=false
def qX:List (Nat × FB):=(21,az aw Tryz.f21 4362109181 [] (fun _=>false) (fun _=>false) (fun _=>false) false) ::(11,az aw Tryz.f11 15746551 [] (fun _=>false) (fun _=>false) (fun _=>false) false) ::(13,az aw Tryz.f13 2361185502030729349235 [] (fun _=>false) (fun _=>false) (fun d=>Nat.beq d 70) false) ::(40,az aw Tryz.f40 77975715369647181664879229 [] (fun _=>false) (fun _=>false) (fun _=>false) false) ::(41,az aw Tryz.f41 9016029707634675 [] (fun _=>false) (fun _=>false) (fun _=>false) false) ::(42,az aw Tryz.f42 531 [] (fun _=>false) (fun _=>false) (fun _=>false) false) ::(22,az aw Tryz.f22 74783 [] (fun _=>false) (fun _=>false) (fun _=>false) false) ::(23,az aw Tryz.f23 686032242260302265618932259388129843 [] (fun _=>false) (fun _=>false) (fun d=>Nat.beq d 27 || Nat.beq d 43 || Nat.beq d 59 || Nat.beq d 71 || Nat.beq d 83 || Nat.beq d 91 || Nat.beq d 93 || Nat.beq d 101 || Nat.beq d 108 || Nat.beq d 137 || Nat.beq d 148 || Nat.beq d 158) false) ::(26,az aw Tryz.f26 288266660035428415 [] (fun _=>false) (fun _=>false) (fun _=>false) false) ::(74,az aw Tryz.f74 65555 [] (fun _=>false) (fun _=>false) (fun _=>false) false) ::(75,az aw Tryz.f75 4294967347 [] (fun _=>false) (fun _=>false) (fun _=>false) false) ::(76,az aw Tryz.f76 5 [] (fun _=>false) (fun _=>false) (fun _=>false) false) ::(77,az aw Tryz.f77 8388935 [] (fun _=>false) (fun _=>false) (fun _=>false) false) ::(78,az aw Tryz.f78 87112288527988523651034566703108870643455 [] (fun _=>false) (fun _=>false) (fun d=>Nat.beq d 21) false) ::(79,az aw Tryz.f79 33816627 [] (fun _=>false) (fun _=>false) (fun _=>false) false) ::(80,az aw Tryz.f80 5 [] (fun _=>false) (fun _=>false) (fun _=>false) false) ::(81,az aw Tryz.f81 268439557 [] (fun _=>false) (fun _=>false) (fun _=>false) false) ::(82,az aw Tryz.f82 81129648086015544455969055506495 [] (fun _=>false) (fun _=>false) (fun _=>false) false) ::(83,az aw Tryz.f83 263 [] (fun _=>false) (fun _=>false) (fun _=>false) false) ::(43,az aw Tryz.f43 2223863 [] (fun _=>false) (fun _=>false) (fun _=>false) false) ::(44,az aw Tryz.f44 7 [] (fun _=>false) (fun _=>false) (fun _=>false) false) ::(45,az aw Tryz.f45 19 [] (fun _=>false) (fun _=>false) (fun _=>false) false) ::(46,az aw Tryz.f46 4294975539 [] (fun _=>false) (fun _=>false) (fun _=>false) false) ::(47,az aw Tryz.f47 8444249301320051 [] (fun _=>false) (fun _=>false) (fun d=>Nat.beq d 39) false) ::(48,az aw Tryz.f48 51 [] (fun _=>false) (fun _=>false) (fun d=>Nat.beq d 22 || Nat.beq d 39 || Nat.beq d 49 || Nat.beq d 68) false) ::(49,az aw Tryz.f49 37138201178561408728010064627 [] (fun _=>false) (fun _=>false) (fun d=>Nat.beq d 24 || Nat.beq d 31 || Nat.beq d 62 || Nat.beq d 78 || Nat.beq d 106) false) ::(50,az aw Tryz.f50 7 [] (fun _=>false) (fun _=>false) (fun _=>false) false) ::(51,az aw Tryz.f51 467 [] (fun _=>false) (fun _=>false) (fun _=>false) false) ::(52,az aw Tryz.f52 302379064902644767129997 [] (fun _=>false) (fun _=>false) (fun d=>Nat.beq d 27) false) ::(59,az aw Tryz.f59 33571891 [] (fun _=>false) (fun _=>false) (fun _=>false) false) ::(99,az aw Tryz.f99 549890048253 [] (fun _=>false) (fun _=>false) (fun _=>false) false) ::(100,az aw Tryz.f100 71 [] (fun _=>false) (fun _=>false) (fun _=>false) false) ::(101,az aw Tryz.f101 79 [] (fun _=>false) (fun _=>false) (fun _=>false) false) ::(102,az aw Tryz.f102 5 [] (fun _=>false) (fun _=>false) (fun _=>false) false) ::(103,az aw Tryz.f103 5 [] (fun _=>false) (fun _=>false) (fun _=>false) false) ::(104,az aw Tryz.f104 5 [] (fun _=>false) (fun _=>false) (fun _=>false) false) ::(105,az aw Tryz.f105 29 [] (fun _=>false) (fun _=>false) (fun _=>false) false) ::(106,az aw Tryz.f106 5 [] (fun _=>false) (fun _=>false) (fun _=>false) false) ::(107,az aw Tryz.f107 5 [] (fun _=>false) (fun _=>false) (fun _=>false) false) ::(109,az aw Tryz.f109 151115799509488183025661 [] (fun _=>false) (fun _=>false) (fun _=>false) false) ::(110,az aw Tryz.f110 618970019647202533975261693 [] (fun _=>false) (fun _=>false) (fun _=>false) false) ::(111,az aw Tryz.f111 29 [] (fun _=>false) (fun _=>false) (fun _=>false) false) ::(112,az aw Tryz.f112 3 [] (fun d=>Nat.beq d 8) (fun _=>false) (fun _=>false) false) ::(113,az aw Tryz.f113 7 [] (fun d=>Nat.beq d 15) (fun _=>false) (fun _=>false) false) ::(116,az aw Tryz.f116 275 [] (fun _=>false) (fun _=>false) (fun _=>false) false) ::(114,az aw Tryz.f114 131 [] (fun _=>false) (fun _=>false) (fun _=>false) false) ::(118,az aw Tryz.f118 7 [] (fun _=>false) (fun _=>false) (fun _=>false) false) ::(117,az aw Tryz.f117 271375 [] (fun _=>false) (fun _=>false) (fun _=>false) false) ::(120,az aw Tryz.f120 32819 [] (fun _=>false) (fun _=>false) (fun _=>false) false) ::(121,az aw Tryz.f121 15 [] (fun _=>false) (fun _=>false) (fun _=>false) false) ::(122,az aw Tryz.f122 17180524607 [] (fun _=>false) (fun _=>false) (fun _=>false) false) ::(84,az aw Tryz.f84 3537148372723500476506894142080440715070649430595550180525943565456506895 [] (fun _=>false) (fun _=>false) (fun _=>false) false) ::(85,az aw Tryz.f85 27 [] (fun _=>false) (fun _=>false) (fun _=>false) false) ::(86,az aw Tryz.f86 21 [] (fun _=>false) (fun _=>false) (fun _=>false) false) ::(87,az aw Tryz.f87 5 [] (fun _=>false) (fun _=>false) (fun _=>false) false) ::(153,az aw Tryz.f153 5 [] (fun _=>false) (fun _=>false) (fun _=>false) false) ::(155,az aw Tryz.f155 9316337836119 [] (fun _=>false) (fun _=>false) (fun _=>false) false) ::(157,az aw Tryz.f157 5 [] (fun _=>false) (fun _=>false) (fun _=>false) false) ::(115,az aw Tryz.f115 2228285 [] (fun _=>false) (fun _=>false) (fun _=>false) false) ::(161,az aw Tryz.f161 51 [] (fun _=>false) (fun _=>false) (fun _=>false) false) ::(119,az aw Tryz.f119 65587 [] (fun _=>false) (fun _=>false) (fun _=>false) false) ::(163,az aw Tryz.f163 23945973599159813139139346461134680183357916012085311 [] (fun _=>false) (fun _=>false) (fun _=>false) false) ::(164,az aw Tryz.f164 3 [] (fun d=>Nat.beq d 8) (fun _=>false) (fun _=>false) false) ::(123,az aw Tryz.f123 7 [] (fun _=>false) (fun _=>false) (fun _=>false) false) ::(124,az aw Tryz.f124 27 [] (fun _=>false) (fun _=>false) (fun _=>false) false) ::(125,az aw Tryz.f125 7 [] (fun _=>false) (fun _=>false) (fun _=>false) false) ::(126,az aw Tryz.f126 2098133 [] (fun _=>false) (fun _=>false) (fun _=>false) false) ::(127,az aw Tryz.f127 13 [] (fun _=>false) (fun _=>false) (fun _=>false) false) ::(128,az aw Tryz.f128 27 [] (fun _=>false) (fun _=>false) (fun _=>false) false) ::(130,az aw Tryz.f130 15 [] (fun _=>false) (fun _=>false) (fun _=>false) false) ::(129,az aw Tryz.f129 19 [] (fun _=>false) (fun _=>false) (fun _=>false) false) ::(190,az aw Tryz.f190 18014398524686365 [] (fun _=>false) (fun _=>false) (fun _=>false) false) ::(159,az aw Tryz.f159 324677087359430077278579446644799 [] (fun d=>Nat.beq d 129) (fun _=>false) (fun _=>false) false) ::(160,az aw Tryz.f160 299063 [] (fun _=>false) (fun _=>false) (fun _=>false) false) ::(162,az aw Tryz.f162 19 [] (fun _=>false) (fun _=>false) (fun _=>false) false) ::(201,az aw Tryz.f201 3 [] (fun d=>Nat.beq d 23) (fun _=>false) (fun _=>false) false) ::(202,az aw Tryz.f202 13 [] (fun _=>false) (fun _=>false) (fun _=>false) false) ::(166,az aw Tryz.f166 15 [] (fun _=>false) (fun _=>false) (fun _=>false) false) ::(165,az aw Tryz.f165 19 [] (fun _=>false) (fun _=>false) (fun _=>false) false) ::(167,az aw Tryz.f167 7 [] (fun _=>false) (fun _=>false) (fun _=>false) false) ::(141,az aw Tryz.f141 7 [] (fun _=>false) (fun _=>false) (fun _=>false) false) ::(170,az aw Tryz.f170 11 [] (fun _=>false) (fun _=>false) (fun _=>false) false) ::(169,az aw Tryz.f169 19 [] (fun _=>false) (fun _=>false) (fun _=>false) false) ::(171,az aw Tryz.f171 66483 [] (fun _=>false) (fun _=>false) (fun _=>false) false) ::(193,az aw Tryz.f193 7 [] (fun d=>Nat.beq d 21) (fun _=>false) (fun _=>false) false) ::(195,az aw Tryz.f195 149971 [] (fun _=>false) (fun _=>false) (fun _=>false) false) ::(196,az aw Tryz.f196 3 [] (fun d=>Nat.beq d 8) (fun _=>false) (fun _=>false) false) ::(197,az aw Tryz.f197 31 [] (fun _=>false) (fun _=>false) (fun _=>false) false) ::(198,az aw Tryz.f198 2159703 [] (fun _=>false) (fun _=>false) (fun _=>false) false) ::(199,az aw Tryz.f199 10141204803006463002229839257615 [] (fun _=>false) (fun _=>false) (fun _=>false) false) ::(200,az aw Tryz.f200 66483 [] (fun _=>false) (fun _=>false) (fun _=>false) false) ::(203,az aw Tryz.f203 66483 [] (fun _=>false) (fun _=>false) (fun _=>false) false) ::(181,az aw Tryz.f181 16883 [] (fun _=>false) (fun _=>false) (fun _=>false) false) ::(205,az aw Tryz.f205 66483 [] (fun _=>false) (fun _=>false) (fun _=>false) false) ::(194,az aw Tryz.f194 5 [] (fun _=>false) (fun _=>false) (fun _=>false) false) ::(226,az aw Tryz.f226 33071 [] (fun _=>false) (fun _=>false) (fun _=>false) false) ::(228,az aw Tryz.f228 17 [] (fun _=>false) (fun _=>false) (fun _=>false) false) ::(227,az aw Tryz.f227 246479 [] (fun _=>false) (fun _=>false) (fun _=>false) false) ::(229,az aw Tryz.f229 4444215 [] (fun _=>false) (fun _=>false) (fun _=>false) false) ::(230,az aw Tryz.f230 5 [] (fun _=>false) (fun _=>false) (fun _=>false) false) ::[]
theorem oc:ah Tryz.prog qX:=ah.cons Tryz.func21 (by kernel_rfl) (ah.cons Tryz.func11 (by kernel_rfl) (ah.cons Tryz.func13 (by kernel_rfl) (ah.cons Tryz.func40 (by kernel_rfl) (ah.cons Tryz.func41 (by kernel_rfl) (ah.cons Tryz.func42 (by kernel_rfl) (ah.cons Tryz.func22 (by kernel_rfl) (ah.cons Tryz.func23 (by kernel_rfl) (ah.cons Tryz.func26 (by kernel_rfl) (ah.cons Tryz.func74 (by kernel_rfl) (ah.cons Tryz.func75 (by kernel_rfl) (ah.cons Tryz.func76 (by kernel_rfl) (ah.cons Tryz.func77 (by kernel_rfl) (ah.cons Tryz.func78 (by kernel_rfl) (ah.cons Tryz.func79 (by kernel_rfl) (ah.cons Tryz.func80 (by kernel_rfl) (ah.cons Tryz.func81 (by kernel_rfl) (ah.cons Tryz.func82 (by kernel_rfl) (ah.cons Tryz.func83 (by kernel_rfl) (ah.cons Tryz.func43 (by kernel_rfl) (ah.cons Tryz.func44 (by kernel_rfl) (ah.cons Tryz.func45 (by kernel_rfl) (ah.cons Tryz.func46 (by kernel_rfl) (ah.cons Tryz.func47 (by kernel_rfl) (ah.cons Tryz.func48 (by kernel_rfl) (ah.cons Tryz.func49 (by kernel_rfl) (ah.cons Tryz.func50 (by kernel_rfl) (ah.cons Tryz.func51 (by kernel_rfl) (ah.cons Tryz.func52 (by kernel_rfl) (ah.cons Tryz.func59 (by kernel_rfl) (ah.cons Tryz.func99 (by kernel_rfl) (ah.cons Tryz.func100 (by kernel_rfl) (ah.cons Tryz.func101 (by kernel_rfl) (ah.cons Tryz.func102 (by kernel_rfl) (ah.cons Tryz.func103 (by kernel_rfl) (ah.cons Tryz.func104 (by kernel_rfl) (ah.cons Tryz.func105 (by kernel_rfl) (ah.cons Tryz.func106 (by kernel_rfl) (ah.cons Tryz.func107 (by kernel_rfl) (ah.cons Tryz.func109 (by kernel_rfl) (ah.cons Tryz.func110 (by kernel_rfl) (ah.cons Tryz.func111 (by kernel_rfl) (ah.cons Tryz.func112 (by kernel_rfl) (ah.cons Tryz.func113 (by kernel_rfl) (ah.cons Tryz.func116 (by kernel_rfl) (ah.cons Tryz.func114 (by kernel_rfl) (ah.cons Tryz.func118 (by kernel_rfl) (ah.cons Tryz.func117 (by kernel_rfl) (ah.cons Tryz.func120 (by kernel_rfl) (ah.cons Tryz.func121 (by kernel_rfl) (ah.cons Tryz.func122 (by kernel_rfl) (ah.cons Tryz.func84 (by kernel_rfl) (ah.cons Tryz.func85 (by kernel_rfl) (ah.cons Tryz.func86 (by kernel_rfl) (ah.cons Tryz.func87 (by kernel_rfl) (ah.cons Tryz.func153 (by kernel_rfl) (ah.cons Tryz.func155 (by kernel_rfl) (ah.cons Tryz.func157 (by kernel_rfl) (ah.cons Tryz.func115 (by kernel_rfl) (ah.cons Tryz.func161 (by kernel_rfl) (ah.cons Tryz.func119 (by kernel_rfl) (ah.cons Tryz.func163 (by kernel_rfl) (ah.cons Tryz.func164 (by kernel_rfl) (ah.cons Tryz.func123 (by kernel_rfl) (ah.cons Tryz.func124 (by kernel_rfl) (ah.cons Tryz.func125 (by kernel_rfl) (ah.cons Tryz.func126 (by kernel_rfl) (ah.cons Tryz.func127 (by kernel_rfl) (ah.cons Tryz.func128 (by kernel_rfl) (ah.cons Tryz.func130 (by kernel_rfl) (ah.cons Tryz.func129 (by kernel_rfl) (ah.cons Tryz.func190 (by kernel_rfl) (ah.cons Tryz.func159 (by kernel_rfl) (ah.cons Tryz.func160 (by kernel_rfl) (ah.cons Tryz.func162 (by kernel_rfl) (ah.cons Tryz.func201 (by kernel_rfl) (ah.cons Tryz.func202 (by kernel_rfl) (ah.cons Tryz.func166 (by kernel_rfl) (ah.cons Tryz.func165 (by kernel_rfl) (ah.cons Tryz.func167 (by kernel_rfl) (ah.cons Tryz.func141 (by kernel_rfl) (ah.cons Tryz.func170 (by kernel_rfl) (ah.cons Tryz.func169 (by kernel_rfl) (ah.cons Tryz.func171 (by kernel_rfl) (ah.cons Tryz.func193 (by kernel_rfl) (ah.cons Tryz.func195 (by kernel_rfl) (ah.cons Tryz.func196 (by kernel_rfl) (ah.cons Tryz.func197 (by kernel_rfl) (ah.cons Tryz.func198 (by kernel_rfl) (ah.cons Tryz.func199 (by kernel_rfl) (ah.cons Tryz.func200 (by kernel_rfl) (ah.cons Tryz.func203 (by kernel_rfl) (ah.cons Tryz.func181 (by kernel_rfl) (ah.cons Tryz.func205 (by kernel_rfl) (ah.cons Tryz.func194 (by kernel_rfl) (ah.cons Tryz.func226 (by kernel_rfl) (ah.cons Tryz.func228 (by kernel_rfl) (ah.cons Tryz.func227 (by kernel_rfl) (ah.cons Tryz.func229 (by kernel_rfl) (ah.cons Tryz.func230 (by kernel_rfl) (ah.nil))))))))))))))))))))))))))))))))))))))))))))))))))))))))))))))))))))))))))))))))))))))))))))))))))))
end Go.AL.Seat
end
noncomputable section
namespace Go.AL.Seat
open Go Go.AL Go.Proofs Go.Pd
set_option maxRecDepth 1000000
def aw1:Str:=[108,101,116,32,120,32,61,32,49,32,105,110,32,120]
def HQ:AV:=.tup [.lst (.st .token) [⟨5,[108,101,116],0⟩,⟨1,[120],4⟩,⟨6,[61],6⟩,⟨3,[49],8⟩,⟨5,[105,110],10⟩,⟨1,[120],13⟩,⟨0,[],14⟩] none,.agg [.int .i64 0,.int .i64 0]]
variable [Tabs] [SeatLaid]
theorem Iu:aD Tryz.prog 40 [.str aw1] [] (.ret HQ):=kR (n:=100) mixed wA qW oc (by kernel_rfl:wq aw qX EF EE 5000 (gr qV) 100 40 [.str aw1] []=some ⟨none,none,HQ,[]⟩)
def z6:Trm:=⟨14,[],[120],0,[],[],[],[⟨1,[],[],1,[],[],[],[],8⟩,⟨5,[],[120],0,[],[],[],[],13⟩],0⟩
def awA (t:Trm):AV:=.tup [.agg [.int .i64 t.kind,.str t.pkg,.str t.name,.int .i64 t.n,.nils,.nils,.nils,.lst (.st .term) t.parts none,.int .i64 t.pos],.agg [.int .i64 0,.int .i64 0]]
def EG:List (Nat × Pat):=(40,AG [.str aw1] HQ) ::qV
theorem Cv:bB Tryz.prog (gr EG):=sc (AH (ee Tryz.func40) Iu) qW
theorem Iv:aD Tryz.prog 21 [.str aw1] [] (.ret (awA z6)):=kR (n:=100) mixed wA Cv oc (by kernel_rfl:wq aw qX EF EE 5000 (gr EG) 100 21 [.str aw1] []=some ⟨none,none,awA z6,[]⟩)
end Go.AL.Seat
end
noncomputable section
namespace Go.AL.Seat
open Go Go.AL Go.Proofs
variable [Tabs]
def bj:List (Nat × TR):=[(3,r2),(26,⟨.strct false [(0,3),(1,9),(2,9),(3,3),(4,22),(5,22),(6,23),(7,24),(8,3)],9,152,[.int .i64 0,.str [],.str [],.int .i64 0,.nils,.nils,.nils,.nils,.int .i64 0],some (.st .term)⟩),(9,r9),(200,Cd),(49,⟨.strct false [(0,3),(1,9),(2,9),(3,22),(4,23)],5,88,[.int .i64 0,.str [],.str [],.nils,.nils],some (.st .shape)⟩),(22,⟨.slice 9,1,24,[.nils],some (.lst .str)⟩),(71,r70),(60,⟨.strct false [(0,3),(1,3),(2,9),(3,22),(4,58),(5,3)],6,88,[.int .i64 0,.int .i64 0,.str [],.nils,.nils,.int .i64 0],some (.st .op)⟩),(61,⟨.slice 60,1,24,[.nils],some (.lst (.st .op))⟩),(69,⟨.slice 73,1,24,[.nils],some (.lst (.st .nm))⟩),(24,⟨.slice 26,1,24,[.nils],some (.lst (.st .term))⟩),(23,⟨.slice 49,1,24,[.nils],some (.lst (.st .shape))⟩),(4,⟨.bool,1,1,[.bool false],some .bool⟩),(31,⟨.slice 63,1,24,[.nils],some (.lst (.st .chunk))⟩),(68,r67),(58,⟨.slice 3,1,24,[.nils],some (.lst (.int .i64))⟩),(73,⟨.strct true [(0,9),(1,9)],2,32,[.str [],.str []],some (.st .nm)⟩),(5,r5),(51,⟨.strct false [(0,9),(1,9),(2,49)],7,120,[.str [],.str [],.int .i64 0,.str [],.str [],.nils,.nils],some (.st .bind)⟩),(66,⟨.ptr 31,1,8,[.nilp],none⟩),(63,⟨.strct false [(0,3),(1,61)],2,32,[.int .i64 0,.nils],some (.st .chunk)⟩),(32,r2),(122,⟨.slice 5,1,24,[.nils],some (.lst (.int .u8))⟩),(268,Ce),(27,⟨.slice 51,1,24,[.nils],some (.lst (.st .bind))⟩),(110,r1),(203,r1),(46,r1),(20,r20),(267,Ce),(48,⟨.strct false [(0,3),(1,9),(2,9),(3,22),(4,23)],5,88,[.int .i64 0,.str [],.str [],.nils,.nils],none⟩),(199,Cd),(59,⟨.strct false [(0,3),(1,3),(2,9),(3,22),(4,58),(5,3)],6,88,[.int .i64 0,.int .i64 0,.str [],.nils,.nils,.int .i64 0],none⟩),(67,r67),(72,⟨.strct true [(0,9),(1,9)],2,32,[.str [],.str []],none⟩),(50,⟨.strct false [(0,9),(1,9),(2,49)],7,120,[.str [],.str [],.int .i64 0,.str [],.str [],.nils,.nils],none⟩),(70,r70),(62,⟨.strct false [(0,3),(1,61)],2,32,[.int .i64 0,.nils],none⟩),(25,⟨.strct false [(0,3),(1,9),(2,9),(3,3),(4,22),(5,22),(6,23),(7,24),(8,3)],9,152,[.int .i64 0,.str [],.str [],.int .i64 0,.nils,.nils,.nils,.nils,.int .i64 0],none⟩)]
theorem EH:aO Tryz.prog bj:=.cons tk (.cons tk (.cons tk (.cons tk (.cons tk (.cons tk (.cons tk (.cons tk (.cons tk (.cons tk (.cons tk (.cons tk (.cons tk (.cons tk (.cons tk (.cons tk (.cons tk (.cons tk (.cons tk (.cons tk (.cons tk (.cons tk (.cons tk (.cons tk (.cons tk (.cons tk (.cons tk (.cons tk (.cons tk (.cons tk (.cons tk (.cons tk (.cons tk (.cons tk (.cons tk (.cons tk (.cons tk (.cons tk (.cons tk (.nil)))))))))))))))))))))))))))))))))))))))
end Go.AL.Seat
end
noncomputable section
namespace Go.AL.Seat
open Go Go.AL Go.Proofs
set_option maxRecDepth 1000000
variable [Tabs]
def HR (f:Nat):List (Option Nat):=if Nat.beq f 74 || Nat.beq f 75 then [some 2] else if Nat.beq f 45 || Nat.beq f 87 then [some 1] else []
def HS (f:Nat):Bool:=false
def wB:List (Nat × FB):=(11,az bj Tryz.f11 15746551 [(13,[17])] (fun _=>false) (fun d=>Nat.beq d 17) (fun _=>false) false) ::(22,az bj Tryz.f22 74783 [] (fun _=>false) (fun _=>false) (fun _=>false) false) ::(23,az bj Tryz.f23 686032242260302265618932259388129843 [] (fun _=>false) (fun _=>false) (fun _=>false) false) ::(43,az bj Tryz.f43 2223863 [] (fun _=>false) (fun _=>false) (fun _=>false) false) ::(44,az bj Tryz.f44 7 [] (fun _=>false) (fun _=>false) (fun _=>false) false) ::(45,az bj Tryz.f45 19 [] (fun _=>false) (fun _=>false) (fun _=>false) false) ::(46,az bj Tryz.f46 4294975539 [] (fun _=>false) (fun _=>false) (fun _=>false) false) ::(47,az bj Tryz.f47 8444249301320051 [] (fun _=>false) (fun _=>false) (fun d=>Nat.beq d 39) false) ::(48,az bj Tryz.f48 51 [] (fun _=>false) (fun _=>false) (fun d=>Nat.beq d 49 || Nat.beq d 68) false) ::(49,az bj Tryz.f49 37138201178561408728010064627 [] (fun _=>false) (fun _=>false) (fun d=>Nat.beq d 24 || Nat.beq d 106) false) ::(50,az bj Tryz.f50 7 [] (fun _=>false) (fun _=>false) (fun _=>false) false) ::(51,az bj Tryz.f51 467 [] (fun _=>false) (fun _=>false) (fun _=>false) false) ::(52,az bj Tryz.f52 302379064902644767129997 [] (fun _=>false) (fun _=>false) (fun d=>Nat.beq d 27) false) ::(84,az bj Tryz.f84 3537148372723500476506894142080440715070649430595550180525943565456506895 [] (fun _=>false) (fun _=>false) (fun _=>false) false) ::(85,az bj Tryz.f85 27 [] (fun _=>false) (fun _=>false) (fun _=>false) false) ::(86,az bj Tryz.f86 21 [] (fun _=>false) (fun _=>false) (fun _=>false) false) ::(87,az bj Tryz.f87 5 [] (fun _=>false) (fun _=>false) (fun _=>false) false) ::(123,az bj Tryz.f123 7 [] (fun _=>false) (fun _=>false) (fun _=>false) false) ::(124,az bj Tryz.f124 27 [] (fun _=>false) (fun _=>false) (fun _=>false) false) ::(125,az bj Tryz.f125 7 [] (fun _=>false) (fun _=>false) (fun _=>false) false) ::(126,az bj Tryz.f126 2098133 [] (fun _=>false) (fun _=>false) (fun _=>false) false) ::(127,az bj Tryz.f127 13 [] (fun _=>false) (fun _=>false) (fun _=>false) false) ::(128,az bj Tryz.f128 27 [] (fun _=>false) (fun _=>false) (fun _=>false) false) ::(130,az bj Tryz.f130 15 [] (fun _=>false) (fun _=>false) (fun _=>false) false) ::(129,az bj Tryz.f129 19 [] (fun _=>false) (fun _=>false) (fun _=>false) false) ::(166,az bj Tryz.f166 15 [] (fun _=>false) (fun _=>false) (fun _=>false) false) ::(165,az bj Tryz.f165 19 [] (fun _=>false) (fun _=>false) (fun _=>false) false) ::(160,az bj Tryz.f160 299063 [] (fun _=>false) (fun _=>false) (fun _=>false) false) ::(167,az bj Tryz.f167 7 [] (fun _=>false) (fun _=>false) (fun _=>false) false) ::(141,az bj Tryz.f141 7 [] (fun _=>false) (fun _=>false) (fun _=>false) false) ::(170,az bj Tryz.f170 11 [] (fun _=>false) (fun _=>false) (fun _=>false) false) ::(169,az bj Tryz.f169 19 [] (fun _=>false) (fun _=>false) (fun _=>false) false) ::(171,az bj Tryz.f171 66483 [] (fun _=>false) (fun _=>false) (fun _=>false) false) ::(203,az bj Tryz.f203 66483 [] (fun _=>false) (fun _=>false) (fun _=>false) false) ::(197,az bj Tryz.f197 31 [] (fun _=>false) (fun _=>false) (fun _=>false) false) ::(198,az bj Tryz.f198 2159703 [] (fun _=>false) (fun _=>false) (fun _=>false) false) ::(199,az bj Tryz.f199 10141204803006463002229839257615 [] (fun _=>false) (fun _=>false) (fun _=>false) false) ::(181,az bj Tryz.f181 16883 [] (fun _=>false) (fun _=>false) (fun _=>false) false) ::(205,az bj Tryz.f205 66483 [] (fun _=>false) (fun _=>false) (fun _=>false) false) ::(226,az bj Tryz.f226 33071 [] (fun _=>false) (fun _=>false) (fun _=>false) false) ::(228,az bj Tryz.f228 17 [] (fun _=>false) (fun _=>false) (fun _=>false) false) ::(227,az bj Tryz.f227 246479 [] (fun _=>false) (fun _=>false) (fun _=>false) false) ::(229,az bj Tryz.f229 4444215 [] (fun _=>false) (fun _=>false) (fun _=>false) false) ::(230,az bj Tryz.f230 5 [] (fun _=>false) (fun _=>false) (fun _=>false) false) ::[]
theorem wD:ah Tryz.prog wB:=ah.cons Tryz.func11 (by kernel_rfl) (ah.cons Tryz.func22 (by kernel_rfl) (ah.cons Tryz.func23 (by kernel_rfl) (ah.cons Tryz.func43 (by kernel_rfl) (ah.cons Tryz.func44 (by kernel_rfl) (ah.cons Tryz.func45 (by kernel_rfl) (ah.cons Tryz.func46 (by kernel_rfl) (ah.cons Tryz.func47 (by kernel_rfl) (ah.cons Tryz.func48 (by kernel_rfl) (ah.cons Tryz.func49 (by kernel_rfl) (ah.cons Tryz.func50 (by kernel_rfl) (ah.cons Tryz.func51 (by kernel_rfl) (ah.cons Tryz.func52 (by kernel_rfl) (ah.cons Tryz.func84 (by kernel_rfl) (ah.cons Tryz.func85 (by kernel_rfl) (ah.cons Tryz.func86 (by kernel_rfl) (ah.cons Tryz.func87 (by kernel_rfl) (ah.cons Tryz.func123 (by kernel_rfl) (ah.cons Tryz.func124 (by kernel_rfl) (ah.cons Tryz.func125 (by kernel_rfl) (ah.cons Tryz.func126 (by kernel_rfl) (ah.cons Tryz.func127 (by kernel_rfl) (ah.cons Tryz.func128 (by kernel_rfl) (ah.cons Tryz.func130 (by kernel_rfl) (ah.cons Tryz.func129 (by kernel_rfl) (ah.cons Tryz.func166 (by kernel_rfl) (ah.cons Tryz.func165 (by kernel_rfl) (ah.cons Tryz.func160 (by kernel_rfl) (ah.cons Tryz.func167 (by kernel_rfl) (ah.cons Tryz.func141 (by kernel_rfl) (ah.cons Tryz.func170 (by kernel_rfl) (ah.cons Tryz.func169 (by kernel_rfl) (ah.cons Tryz.func171 (by kernel_rfl) (ah.cons Tryz.func203 (by kernel_rfl) (ah.cons Tryz.func197 (by kernel_rfl) (ah.cons Tryz.func198 (by kernel_rfl) (ah.cons Tryz.func199 (by kernel_rfl) (ah.cons Tryz.func181 (by kernel_rfl) (ah.cons Tryz.func205 (by kernel_rfl) (ah.cons Tryz.func226 (by kernel_rfl) (ah.cons Tryz.func228 (by kernel_rfl) (ah.cons Tryz.func227 (by kernel_rfl) (ah.cons Tryz.func229 (by kernel_rfl) (ah.cons Tryz.func230 (by kernel_rfl) (ah.nil))))))))))))))))))))))))))))))))))))))))))))
end Go.AL.Seat
end
noncomputable section
namespace Go.AL.Seat
open Go Go.AL Go.Proofs Go.Pd
set_option maxRecDepth 1000000
def awC:List Chnk:=[⟨0,[⟨1,1,[],[],[],8⟩,⟨12,0,[],[],[],0⟩,⟨4,0,[],[],[],13⟩,⟨13,1,[],[],[],0⟩]⟩]
def awB:AV:=.tup [.lst (.st .chunk) awC none,.int .i64 0]
def wE (t:Trm) (k:Int) (nm:Str) (n pos:Int):Bool:=
 decide (t.kind=k) && t.pkg.isEmpty && decide (t.name=nm) && decide (t.n=n) && t.names.isEmpty && t.vars.isEmpty && t.shapes.isEmpty && decide (t.pos=pos)
theorem qY {t:Trm} {k:Int} {nm:Str} {n pos:Int} (h:wE t k nm n pos=true):t=⟨k,[],nm,n,[],[],[],t.parts,pos⟩:=by
 simp only [wE,Bool.and_eq_true,decide_eq_true_eq,List.isEmpty_iff] at h
 obtain ⟨⟨⟨⟨⟨⟨⟨h1,h2⟩,h3⟩,h4⟩,h5⟩,h6⟩,h7⟩,h8⟩:=h
 cases t
 simp only at h1 h2 h3 h4 h5 h6 h7 h8
 subst h1 h2 h3 h4 h5 h6 h7 h8
 rfl
def HU (t:Trm):Bool:=
 wE t 14 [120] 0 0 && (match t.parts with | [a,b]=>wE a 1 [] 1 8 && a.parts.isEmpty && (wE b 5 [120] 0 13 && b.parts.isEmpty) | _=>false)
theorem Gn {t:Trm} (h:HU t=true):t=z6:=by
 unfold HU at h
 rw [Bool.and_eq_true] at h
 obtain ⟨h1,h2⟩:=h
 have e:=qY h1
 split at h2
 ·rename_i a b hp
  simp only [Bool.and_eq_true,List.isEmpty_iff] at h2
  obtain ⟨⟨a1,a2⟩,b1,b2⟩:=h2
  have ea:=qY a1
  have eb:=qY b1
  rw [a2] at ea
  rw [b2] at eb
  rw [e,hp,ea,eb]
  rfl
 ·cases h2
variable [Tabs] [SeatLaid]
theorem Iw:aD Tryz.prog 11 [.st .term z6,.lst (.st .bind) [] none] [] (.ret awB):=kR (n:=100) mixed EH qW wD (by kernel_rfl:wq bj wB HS HR 5000 (gr qV) 100 11 [.st .term z6,.lst (.st .bind) [] none] []=some ⟨none,none,awB,[]⟩)
def GY:Pat:=q2 (.st .term) (.lst (.st .bind)) (fun t l=>HU t && l.isEmpty) fun _ _=>awB
theorem Gp:ag Tryz.prog 11 GY:=
 sB (O:=fun t l=>t=z6/\l=[]) (fa (ee Tryz.func11) fun t l _ _ ho=>by
  obtain ⟨rfl,rfl⟩:=ho _ rfl
  exact Iw) fun t l q=>by
  rw [Bool.and_eq_true] at q
  exact ⟨Gn q.1,List.isEmpty_iff.1 q.2⟩
end Go.AL.Seat
end
noncomputable section
namespace Go.AL.Seat
open Go Go.AL Go.Proofs
variable [Tabs]
def sH:List (Nat × TR):=[(3,r2),(60,⟨.strct false [(0,3),(1,3),(2,9),(3,22),(4,58),(5,3)],6,88,[.int .i64 0,.int .i64 0,.str [],.nils,.nils,.int .i64 0],some (.st .op)⟩),(32,r2),(9,r9),(61,⟨.slice 60,1,24,[.nils],some (.lst (.st .op))⟩),(31,⟨.slice 63,1,24,[.nils],some (.lst (.st .chunk))⟩),(58,⟨.slice 3,1,24,[.nils],some (.lst (.int .i64))⟩),(22,⟨.slice 9,1,24,[.nils],some (.lst .str)⟩),(63,⟨.strct false [(0,3),(1,61)],2,32,[.int .i64 0,.nils],some (.st .chunk)⟩),(26,⟨.strct false [(0,3),(1,9),(2,9),(3,3),(4,22),(5,22),(6,23),(7,24),(8,3)],9,152,[.int .i64 0,.str [],.str [],.int .i64 0,.nils,.nils,.nils,.nils,.int .i64 0],some (.st .term)⟩),(55,⟨.strct true [(0,32),(1,3)],2,16,[.int .i64 0,.int .i64 0],some (.st .fault)⟩),(23,⟨.slice 49,1,24,[.nils],some (.lst (.st .shape))⟩),(4,⟨.bool,1,1,[.bool false],some .bool⟩),(62,⟨.strct false [(0,3),(1,61)],2,32,[.int .i64 0,.nils],none⟩),(59,⟨.strct false [(0,3),(1,3),(2,9),(3,22),(4,58),(5,3)],6,88,[.int .i64 0,.int .i64 0,.str [],.nils,.nils,.int .i64 0],none⟩),(54,⟨.strct true [(0,32),(1,3)],2,16,[.int .i64 0,.int .i64 0],none⟩),(25,⟨.strct false [(0,3),(1,9),(2,9),(3,3),(4,22),(5,22),(6,23),(7,24),(8,3)],9,152,[.int .i64 0,.str [],.str [],.int .i64 0,.nils,.nils,.nils,.nils,.int .i64 0],none⟩),(24,⟨.slice 26,1,24,[.nils],some (.lst (.st .term))⟩),(49,⟨.strct false [(0,3),(1,9),(2,9),(3,22),(4,23)],5,88,[.int .i64 0,.str [],.str [],.nils,.nils],some (.st .shape)⟩),(48,⟨.strct false [(0,3),(1,9),(2,9),(3,22),(4,23)],5,88,[.int .i64 0,.str [],.str [],.nils,.nils],none⟩)]
theorem EI:aO Tryz.prog sH:=.cons tk (.cons tk (.cons tk (.cons tk (.cons tk (.cons tk (.cons tk (.cons tk (.cons tk (.cons tk (.cons tk (.cons tk (.cons tk (.cons tk (.cons tk (.cons tk (.cons tk (.cons tk (.cons tk (.cons tk (.nil))))))))))))))))))))
end Go.AL.Seat
end
noncomputable section
namespace Go.AL.Seat
open Go Go.AL Go.Proofs
set_option maxRecDepth 1000000
variable [Tabs]
def HV (f:Nat):List (Option Nat):=[]
def HW (f:Nat):Bool:=false
def wF:List (Nat × FB):=(10,az sH Tryz.f10 1023 [] (fun _=>false) (fun _=>false) (fun _=>false) false) ::(13,az sH Tryz.f13 2361185502030729349235 [] (fun _=>false) (fun _=>false) (fun d=>Nat.beq d 70) false) ::(26,az sH Tryz.f26 288266660035428415 [] (fun _=>false) (fun _=>false) (fun _=>false) false) ::(59,az sH Tryz.f59 33571891 [] (fun _=>false) (fun _=>false) (fun _=>false) false) ::[]
theorem wG:ah Tryz.prog wF:=ah.cons Tryz.func10 (by kernel_rfl) (ah.cons Tryz.func13 (by kernel_rfl) (ah.cons Tryz.func26 (by kernel_rfl) (ah.cons Tryz.func59 (by kernel_rfl) (ah.nil))))
end Go.AL.Seat
end
noncomputable section
namespace Go.AL.Seat
open Go Go.AL Go.Proofs Go.Pd
set_option maxRecDepth 1000000
variable [Tabs] [SeatLaid]
def EJ (l:List Chnk):Bool:=Nat.ble (om l).length 8796093022208
theorem wH {l:List Chnk} (h:EJ l=true):qF l:=Nat.le_of_ble_eq_true h
def GZ:List (Nat × Pat):=[(21,AG [.str aw1] (awA z6)),(11,GY),
 (15,q1 (.lst (.st .chunk)) EJ fun l=>.tup [.str (ko l).1,.int .i64 (ko l).2]),
 (17,q1 .str (fun s=>Nat.ble s.length 68719476736) fun s=>.tup [.lst (.st .chunk) (kV s).1 none,.int .i64 (kV s).2]),
 (19,q2 (.lst (.st .chunk)) (.int .i64) (fun l _=>EJ l) fun l n=>.int .i64 (nq l n))]
theorem EK:bB Tryz.prog (gr GZ):=sc (AH (ee Tryz.func21) Iv) (sc Gp
 (sc (Ep oa fun _ h=>wH h) (sc (Ep wz fun _ h=>Nat.le_of_ble_eq_true h) (sc (sB o9 fun _ _ h=>wH h) sn))))
theorem wI:ag Tryz.prog 10 (p0 (.ret (.bool true))):=
 Ib (ee Tryz.func10) (kR (n:=20) mixed EI EK wG (by kernel_rfl:wq sH wF HW HV 50 (gr GZ) 20 10 [] []=some ⟨none,none,.bool true,[]⟩))
end Go.AL.Seat
end
section
open Go Go.AL Go.Pd
namespace Go.AL.Seat
theorem Cw (a b:List Str) (ha:Wf (.lst .str) a) :
  let A:=(↑(List.length a):Int);let B:=(↑(List.length b):Int);let C:=True/\false=kq a b/\True;let D:=List.length a=List.length b;let E:=(fun (x y:Str)=>decide (x=y));let F:=(0:Int);let G:=a=a/\b=b/\false=false/\True;if (!decide (A=B))=true then C else (∃(x:Nat),(x<=List.length a/\D/\cP E a b=cP E (List.drop x a) (List.drop x b))/\F=(↑x:Int)/\G)/\∀(x:Nat),let H:=(↑x:Int);x<=List.length a/\D/\cP E a b=cP E (List.drop x a) (List.drop x b)→if decide (H<A)=true then (F<=H/\H<A)/\(F<=H/\H<B)/\if (!decide (List.getD a (Int.toNat H) (dfl Ty.str)=List.getD b (Int.toNat H) (dfl Ty.str)))=true then C else inR IntKind.i64 (H+(1:Int))/\∃(y:Nat),(y<=List.length a/\D/\cP E a b=cP E (List.drop y a) (List.drop y b))/\List.length a - y<List.length a - x/\H+(1:Int)=(↑y:Int)/\G else True/\true=kq a b/\True:=by
 conv=>zeta
 have ln:=ha.len
 have dS:dfl Ty.str=([]:Str):=rfl
 simp only [Int.toNat_natCast,dS]
 unfold kq
 refine aa (fun h=>?_) (fun h=>?_)
 ·have h:¬a.length=b.length:=fun z=>by rw [z] at h;simp at h
  rw [Xf h];exact ⟨trivial,rfl,trivial⟩
 have h:a.length=b.length:=eqN h
 rw [Xd h,Bool.true_and]
 refine ⟨⟨0,⟨Nat.zero_le _,h,rfl⟩,by repeat' (first | exact trivial | rfl | apply And.intro)⟩,?_⟩
 rintro k ⟨k1,_,k2⟩
 rw [k2]
 refine aa (fun q=>?_) (fun q=>?_)
 ·replace q:=Xo q
  have q:k < a.length:=by omega
  have e:=kP (fun x y:Str=>decide (x=y)) a b k [] q (by omega)
  refine ⟨⟨by omega,by omega⟩,⟨by omega,by omega⟩,aa (fun m=>?_) (fun m=>?_)⟩
  ·have m:decide (a.getD k []=b.getD k [])=false:=by simpa using m
   rw [e,m];exact ⟨trivial,rfl,trivial⟩
  ·have m:decide (a.getD k []=b.getD k [])=true:=by simpa using m
   exact ⟨aq (by omega) (by omega),k+1,⟨q,h,by rw [e,m];rfl⟩,by omega,by omega,by repeat' (first | exact trivial | rfl | apply And.intro)⟩
 ·replace q:¬(k:Int) < (a.length:Int):=fun z=>q (Xd z)
  rw [List.drop_eq_nil_of_le (show a.length<=k by omega),mu]
  exact ⟨trivial,rfl,trivial⟩
theorem Cx (x y:Opn) (hx:Wf (.st .op) x) :
  let A:=True/\false=fD x y/\True;let B:=(↑(List.length x.tos):Int);let C:=(↑(List.length y.tos):Int);let D:=List.length x.tos=List.length y.tos;let E:=(fun (x y:Int)=>decide (x=y));let F:=(0:Int);let G:=x=x/\y=y/\false=false/\x=x/\y=y/\True;let H:=dfl (Ty.int IntKind.i64);if (!decide (x.kind=y.kind))=true then A else if (!decide (x.n=y.n))=true then A else if (!decide (x.name=y.name))=true then A else if (!decide (x.pos=y.pos))=true then A else if (!decide (B=C))=true then A else (∃(x_1:Nat),(x_1<=List.length x.tos/\D/\cP E x.tos y.tos=cP E (List.drop x_1 x.tos) (List.drop x_1 y.tos))/\F=(↑x_1:Int)/\G)/\∀(x_1:Nat),let I:=(↑x_1:Int);x_1<=List.length x.tos/\D/\cP E x.tos y.tos=cP E (List.drop x_1 x.tos) (List.drop x_1 y.tos)→if decide (I<B)=true then (F<=I/\I<B)/\(F<=I/\I<C)/\if (!decide (List.getD x.tos (Int.toNat I) H=List.getD y.tos (Int.toNat I) H))=true then A else inR IntKind.i64 (I+(1:Int))/\∃(y_1:Nat),(y_1<=List.length x.tos/\D/\cP E x.tos y.tos=cP E (List.drop y_1 x.tos) (List.drop y_1 y.tos))/\List.length x.tos - y_1<List.length x.tos - x_1/\I+(1:Int)=(↑y_1:Int)/\G else True/\kq x.names y.names=fD x y/\True:=by
 conv=>zeta
 have ln:=hx.op_tos.len
 have dI:dfl (Ty.int IntKind.i64)=(0:Int):=rfl
 simp only [Int.toNat_natCast,dI]
 unfold fD
 refine aa (fun h=>?_) (fun h=>?_)
 ·have h:decide (x.kind=y.kind)=false:=by simpa using h
  rw [h];exact ⟨trivial,rfl,trivial⟩
 have h:decide (x.kind=y.kind)=true:=by simpa using h
 refine aa (fun h2=>?_) (fun h2=>?_)
 ·have h2:decide (x.n=y.n)=false:=by simpa using h2
  rw [h,h2];exact ⟨trivial,rfl,trivial⟩
 have h2:decide (x.n=y.n)=true:=by simpa using h2
 refine aa (fun h3=>?_) (fun h3=>?_)
 ·have h3:decide (x.name=y.name)=false:=by simpa using h3
  rw [h,h2,h3];exact ⟨trivial,rfl,trivial⟩
 have h3:decide (x.name=y.name)=true:=by simpa using h3
 refine aa (fun h4=>?_) (fun h4=>?_)
 ·have h4:decide (x.pos=y.pos)=false:=by simpa using h4
  rw [h,h2,h3,h4];exact ⟨trivial,rfl,trivial⟩
 have h4:decide (x.pos=y.pos)=true:=by simpa using h4
 refine aa (fun h5=>?_) (fun h5=>?_)
 ·have h5:¬x.tos.length=y.tos.length:=fun z=>by rw [z] at h5;simp at h5
  rw [h,h2,h3,h4,Xf h5];exact ⟨trivial,rfl,trivial⟩
 have h5:x.tos.length=y.tos.length:=eqN h5
 rw [h,h2,h3,h4,Xd h5,Bool.true_and,Bool.true_and,Bool.true_and,Bool.true_and,Bool.true_and]
 refine ⟨⟨0,⟨Nat.zero_le _,h5,rfl⟩,by repeat' (first | exact trivial | rfl | apply And.intro)⟩,?_⟩
 rintro k ⟨k1,_,k2⟩
 rw [k2]
 refine aa (fun q=>?_) (fun q=>?_)
 ·replace q:=Xo q
  have q:k < x.tos.length:=by omega
  have e:=kP (fun x y:Int=>decide (x=y)) x.tos y.tos k 0 q (by omega)
  refine ⟨⟨by omega,by omega⟩,⟨by omega,by omega⟩,aa (fun m=>?_) (fun m=>?_)⟩
  ·have m:decide (x.tos.getD k 0=y.tos.getD k 0)=false:=by simpa using m
   rw [e,m];exact ⟨trivial,rfl,trivial⟩
  ·have m:decide (x.tos.getD k 0=y.tos.getD k 0)=true:=by simpa using m
   exact ⟨aq (by omega) (by omega),k+1,⟨q,h5,by rw [e,m];rfl⟩,by omega,by omega,by repeat' (first | exact trivial | rfl | apply And.intro)⟩
 ·replace q:¬(k:Int) < (x.tos.length:Int):=fun z=>q (Xd z)
  rw [List.drop_eq_nil_of_le (show x.tos.length<=k by omega),mu,Bool.true_and]
  exact ⟨trivial,rfl,trivial⟩
theorem Cy (a b:List Chnk) (ha:Wf (.lst (.st .chunk)) a) :
  let A:=(↑(List.length a):Int);let B:=(↑(List.length b):Int);let C:=True;let D:=C/\false=qG a b/\C;let E:=List.length a=List.length b;let F:=(0:Int);let G:=false=false/\C;let H:=a=a/\b=b/\G;let I:=dfl (Ty.st SN.chunk);let J:=a=a/\b=b/\false=false/\true=true/\G;let K:=dfl (Ty.st SN.op);let L:=(1:Int);if (!decide (A=B))=true then D else (∃(x:Nat),(x<=List.length a/\E/\cP iW a b=cP iW (List.drop x a) (List.drop x b))/\F=(↑x:Int)/\H)/\∀(x:Nat),let M:=(↑x:Int);let N:=F<=M/\M<A;let O:=F<=M/\M<B;let P:=Int.toNat M;let Q:=List.getD a P I;let R:=List.getD b P I;let S:=(↑(List.length Q.ops):Int);let T:=(↑(List.length R.ops):Int);let U:=List.getD a P default;let V:=List.getD b P default;let W:=List.length U.ops=List.length V.ops;x<=List.length a/\E/\cP iW a b=cP iW (List.drop x a) (List.drop x b)→if decide (M<A)=true then N/\O/\if (!decide (Q.args=R.args))=true then D else N/\O/\if (!decide (S=T))=true then D else (∃(x_1:Nat),(x_1<=List.length U.ops/\W/\cP fD U.ops V.ops=cP fD (List.drop x_1 U.ops) (List.drop x_1 V.ops))/\F=(↑x_1:Int)/\M=M/\J)/\∀(x_1:Nat),let X:=(↑x_1:Int);x_1<=List.length U.ops/\W/\cP fD U.ops V.ops=cP fD (List.drop x_1 U.ops) (List.drop x_1 V.ops)→N/\if decide (X<S)=true then N/\(F<=X/\X<S)/\O/\(F<=X/\X<T)/\(C/\C)/\if (!fD (List.getD Q.ops (Int.toNat X) K) (List.getD R.ops (Int.toNat X) K))=true then D else inR IntKind.i64 (X+L)/\∃(y:Nat),(y<=List.length U.ops/\W/\cP fD U.ops V.ops=cP fD (List.drop y U.ops) (List.drop y V.ops))/\List.length U.ops - y<List.length U.ops - x_1/\X+L=(↑y:Int)/\M=M/\J else inR IntKind.i64 (M+L)/\∃(y:Nat),(y<=List.length a/\E/\cP iW a b=cP iW (List.drop y a) (List.drop y b))/\List.length a - y<List.length a - x/\M+L=(↑y:Int)/\H else C/\true=qG a b/\C:=by
 conv=>zeta
 have ln:=ha.len
 have dC:dfl (Ty.st SN.chunk)=(default:Chnk):=rfl
 have dO:dfl (Ty.st SN.op)=(default:Opn):=rfl
 simp only [Int.toNat_natCast,dC,dO]
 unfold qG
 refine aa (fun h=>?_) (fun h=>?_)
 ·have h:¬a.length=b.length:=fun z=>by rw [z] at h;simp at h
  rw [Xf h];exact ⟨trivial,rfl,trivial⟩
 have h:a.length=b.length:=eqN h
 rw [Xd h,Bool.true_and]
 refine ⟨⟨0,⟨Nat.zero_le _,h,rfl⟩,by repeat' (first | exact trivial | rfl | apply And.intro)⟩,?_⟩
 rintro k ⟨k1,_,k2⟩
 rw [k2]
 refine aa (fun q=>?_) (fun q=>?_)
 ·replace q:=Xo q
  have q:k < a.length:=by omega
  have e:=kP iW a b k default q (by omega)
  have lo:=(Wf.mem ha (eo a k default q)).chunk_ops.len
  rw [iW] at e
  generalize a.getD k default=A at *
  generalize b.getD k default=B at *
  refine ⟨⟨by omega,by omega⟩,⟨by omega,by omega⟩,aa (fun m=>?_) (fun m=>?_)⟩
  ·have m:decide (A.args=B.args)=false:=by simpa using m
   rw [e,m];exact ⟨trivial,rfl,trivial⟩
  have m:decide (A.args=B.args)=true:=by simpa using m
  refine ⟨⟨by omega,by omega⟩,⟨by omega,by omega⟩,aa (fun m2=>?_) (fun m2=>?_)⟩
  ·have m2:¬A.ops.length=B.ops.length:=fun z=>by rw [z] at m2;simp at m2
   rw [e,Xf m2,Bool.and_false];exact ⟨trivial,rfl,trivial⟩
  have m2:A.ops.length=B.ops.length:=eqN m2
  rw [m,Xd m2,Bool.true_and,Bool.true_and] at e
  refine ⟨⟨0,⟨Nat.zero_le _,m2,rfl⟩,by repeat' (first | exact trivial | rfl | apply And.intro)⟩,?_⟩
  rintro j ⟨j1,_,j2⟩
  rw [j2] at e
  refine ⟨⟨by omega,by omega⟩,aa (fun r=>?_) (fun r=>?_)⟩
  ·replace r:=Xo r
   have r:j < A.ops.length:=by omega
   have e2:=kP fD A.ops B.ops j default r (by omega)
   refine ⟨⟨by omega,by omega⟩,⟨by omega,by omega⟩,⟨by omega,by omega⟩,⟨by omega,by omega⟩,⟨trivial,trivial⟩,aa (fun v=>?_) (fun v=>?_)⟩
   ·have v:fD (A.ops.getD j default) (B.ops.getD j default)=false:=by simpa using v
    rw [e,e2,v];exact ⟨trivial,rfl,trivial⟩
   ·have v:fD (A.ops.getD j default) (B.ops.getD j default)=true:=by simpa using v
    exact ⟨aq (by omega) (by omega),j+1,⟨r,m2,by rw [j2,e2,v];rfl⟩,by omega,by omega,by repeat' (first | exact trivial | rfl | apply And.intro)⟩
  ·replace r:¬(j:Int) < (A.ops.length:Int):=fun z=>r (Xd z)
   rw [List.drop_eq_nil_of_le (show A.ops.length<=j by omega),mu,Bool.true_and] at e
   exact ⟨aq (by omega) (by omega),k+1,⟨q,h,e⟩,by omega,by omega,by repeat' (first | exact trivial | rfl | apply And.intro)⟩
 ·replace q:¬(k:Int) < (a.length:Int):=fun z=>q (Xd z)
  rw [List.drop_eq_nil_of_le (show a.length<=k by omega),mu]
  exact ⟨trivial,rfl,trivial⟩
end Go.AL.Seat
end
section
open Go Go.AL Go.Proofs Go.Shelf Go.Pd
namespace Go.AL.Seat
variable [Tabs]
variable [SeatLaid]
theorem z7:ag Tryz.prog 59 (p2 (.lst .str) (.lst .str) fun a b=>.ret (.bool (kq a b))):=
 fa (ee Tryz.func59) fun a b ha _ _=>g0 sn ⟨[(4,fun S0=>⟨Nat,fun k=>k<=a.length/\a.length=b.length/\cP (fun x y=>decide (x=y)) a b=cP (fun x y=>decide (x=y)) (List.drop k a) (List.drop k b),fun k=>[(5,.int .i64 k)],fun _=>[],fun k=>a.length - k⟩)],[],[]⟩ Tryz.func59 (Cw a b ha)
theorem z8:ag Tryz.prog 26 (p2 (.st .op) (.st .op) fun x y=>.ret (.bool (fD x y))):=
 fa (ee Tryz.func26) fun x y hx _ _=>g0 (sc z7 sn) ⟨[(4,fun S0=>⟨Nat,fun k=>k<=x.tos.length/\x.tos.length=y.tos.length/\cP (fun x y=>decide (x=y)) x.tos y.tos=cP (fun x y=>decide (x=y)) (List.drop k x.tos) (List.drop k y.tos),fun k=>[(5,.int .i64 k)],fun _=>[],fun k=>x.tos.length - k⟩)],[],[]⟩ Tryz.func26 (Cx x y hx)
theorem za:ag Tryz.prog 13 (p2 (.lst (.st .chunk)) (.lst (.st .chunk)) fun a b=>.ret (.bool (qG a b))):=
 fa (ee Tryz.func13) fun a b ha _ _=>g1 nn (fun _=>[]) nn nn (fun d=>Nat.beq d 70) (sc z8 sn) ⟨[(4,fun S0=>⟨Nat,fun k=>k<=a.length/\a.length=b.length/\cP iW a b=cP iW (List.drop k a) (List.drop k b),fun k=>[(5,.int .i64 k)],fun _=>[],fun k=>a.length - k⟩),(9,fun S0=>rV S0 5 fun k0=>⟨Nat,fun j=>j<=(a.getD k0.toNat default).ops.length/\(a.getD k0.toNat default).ops.length=(b.getD k0.toNat default).ops.length/\cP fD (a.getD k0.toNat default).ops (b.getD k0.toNat default).ops=cP fD (List.drop j (a.getD k0.toNat default).ops) (List.drop j (b.getD k0.toNat default).ops),fun j=>[(6,.int .i64 j)],fun _=>[],fun j=>(a.getD k0.toNat default).ops.length - j⟩)],[],[]⟩ Tryz.func13 (Cy a b ha)
end Go.AL.Seat
end
section
open Go Go.AL Go.Pd
namespace Go.AL.Seat
theorem EL (s:Str)  :
  let A:=True/\true=lC s/\True;if decide (s=([73,110,116]:Str))=true then A else if decide (s=([66,111,111,108]:Str))=true then A else if decide (s=([84,101,120,116]:Str))=true then A else True/\decide (s=([65,110,121]:Str))=lC s/\True:=by
 conv=>zeta
 simp only [eq_self,true_and,and_true,lC]
 by_cases a:s=[73,110,116] <;> by_cases b:s=[66,111,111,108] <;> by_cases c:s=[84,101,120,116] <;> by_cases d:s=[65,110,121] <;> simp [a,b,c,d]
theorem EM (s:Shape) (hs:Wf (.st .shape) s) (ho:s.parts.length *16<=140737488355328) :
  let A:=(↑(List.length s.names):Int);let B:=True/\false=ez s/\True;let C:=List.length s.names=List.length s.parts;let D:=s=s/\false=false/\s.names=s.names/\A=A/\s=s/\True;let E:=(List.mergeSort s.names fun (x y:Str)=>decide (x<=y));if (!decide (A=(↑(List.length s.parts):Int)))=true then B else (∃(x:Nat),(x<=List.length s.names/\C/\ez s=(List.all (List.drop x s.names) aH && decide (List.Nodup s.names)))/\(0:Int)=(↑x:Int)/\D)/\∀(x:Nat),let F:=(↑x:Int);x<=List.length s.names/\C/\ez s=(List.all (List.drop x s.names) aH && decide (List.Nodup s.names))→if decide (F<A)=true then ((0:Int)<=F/\F<A)/\if (!aH (List.getD s.names (Int.toNat F) (dfl Ty.str)))=true then B else inR IntKind.i64 (F+(1:Int))/\∃(y:Nat),(y<=List.length s.names/\C/\ez s=(List.all (List.drop y s.names) aH && decide (List.Nodup s.names)))/\List.length s.names - y<List.length s.names - x/\F+(1:Int)=(↑y:Int)/\D else List.length s.names*(16:Nat)<=(140737488355328:Nat)/\List.length E=List.length E/\True/\decide ((↑(List.length (Lib.compact E)):Int)=A)=ez s/\True:=by
 conv=>zeta
 have ln:=hs.names.len
 simp only [Int.toNat_natCast,eq_self,true_and,and_true]
 refine aa (fun h=>?_) (fun h=>?_)
 ·have:s.names.length≠s.parts.length:=by simp at h;omega
  simp [ez,this]
 have hl:s.names.length=s.parts.length:=by simp at h;omega
 refine ⟨⟨0,⟨by omega,hl,by simp [ez,hl]⟩,rfl⟩,?_⟩
 rintro k ⟨h1,_,h3⟩
 refine aa (fun h=>?_) (fun h=>?_)
 ·replace h:=Xo h
  have hk:k < s.names.length:=by omega
  rw [bp s.names k (dfl .str) hk] at h3
  refine ⟨by omega,?_⟩
  simp only [List.all_cons] at h3
  cases e:aH (s.names.getD k (dfl .str))
  ·rw [e] at h3;rw [h3];simp
  ·simp only [e,Bool.true_and] at h3
   exact ⟨du hk ln,k+1,⟨by omega,hl,h3⟩,by omega,by omega⟩
 ·replace h:¬((k:Int) < (s.names.length:Int)):=fun e=>h (Xd e)
  have e:k=s.names.length:=by omega
  subst e
  have hc:=gZ s.names
  unfold fb at hc
  refine ⟨by omega,?_⟩
  rw [h3,List.drop_length]
  simp only [List.all_nil,Bool.true_and]
  rw [decide_eq_decide,←hc]
  omega
theorem Gq (s:Shape) (hs:Wf (.st .shape) s) (ho:s.parts.length *16<=140737488355328) :
  let A:=(0:Int);let B:=True;let C:=(↑(List.length s.parts):Int);let D:=B/\false=cG s/\B;let E:=if decide ((↑(List.length s.names):Int)=A)=true then B/\decide (C=A)=cG s/\B else D;let F:=if decide (s.name=[])=true then E else D;let G:=if decide (s.name=[])=true then List.length s.parts*(16:Nat)<=(140737488355328:Nat)/\B/\ez s=cG s/\B else D;let H:=if aH s.pkg=true then E else D;let I:=if decide (s.kind=(9:Int))=true then if eF s.name=true then if decide (s.pkg=[])=true then if (!lC s.name)=true then E else H else H else D else if decide (s.kind=(10:Int))=true then if eF s.name=true then H else D else D;if decide (s.pkg=[])=true then if decide (s.kind=(1:Int))=true then F else if decide (s.kind=(2:Int))=true then F else if decide (s.kind=(3:Int))=true then F else if decide (s.kind=(4:Int))=true then F else if decide (s.kind=(5:Int))=true then if decide (s.name=[])=true then if decide ((↑(List.length s.names):Int)=A)=true then B/\decide (C=(1:Int))=cG s/\B else D else D else if decide (s.kind=(6:Int))=true then G else if decide (s.kind=(7:Int))=true then G else if decide (s.kind=(8:Int))=true then if decide (s.name=[])=true then if decide ((↑(List.length s.names):Int)=A)=true then B/\decide (A<C)=cG s/\B else D else D else I else if decide (s.kind=(1:Int))=true then D else if decide (s.kind=(2:Int))=true then D else if decide (s.kind=(3:Int))=true then D else if decide (s.kind=(4:Int))=true then D else if decide (s.kind=(5:Int))=true then D else if decide (s.kind=(6:Int))=true then D else if decide (s.kind=(7:Int))=true then D else if decide (s.kind=(8:Int))=true then D else I:=by
 conv=>zeta
 have n0:((s.names.length:Int)=0)↔s.names=[]:=by rw [←List.length_eq_zero_iff];omega
 have p0:((s.parts.length:Int)=0)↔s.parts=[]:=by rw [←List.length_eq_zero_iff];omega
 have p1:((s.parts.length:Int)=1)↔s.parts.length=1:=by omega
 have p2:(0 < (s.parts.length:Int))↔¬s.parts=[]:=by rw [←List.length_eq_zero_iff];omega
 simp only [n0,p0,p1,p2,decide_eq_true_eq,true_and,and_true,ho]
 have hf:cG s=cG s:=rfl
 conv at hf=>rhs;unfold cG
 revert hf
 generalize cG s=F
 generalize ez s=A
 generalize eF s.name=B
 generalize aH s.pkg=C
 generalize lC s.name=D
 generalize s.kind=K
 intro hf
 repeat' (refine aa (fun _=>?_) (fun _=>?_))
 all_goals (subst hf;simp_all)
theorem zb (n:Nat) (s:Shape) (hs:Wf (.st .shape) s) (hn:sz s<=n+1) (hb:n<=1000000) :
  let A:=True/\false=allS cG s/\True;let B:=(↑(List.length s.parts):Int);let C:=s=s/\false=false/\s.parts=s.parts/\B=B/\s=s/\True;let D:=dfl (Ty.st SN.shape);List.length s.parts*(16:Nat)<=(140737488355328:Nat)/\if (!cG s)=true then A else (∃(x:Nat),(x<=List.length s.parts/\allS cG s=allL cG (List.drop x s.parts))/\(0:Int)=(↑x:Int)/\C)/\∀(x:Nat),let E:=(↑x:Int);let F:=List.getD s.parts (Int.toNat E) D;x<=List.length s.parts/\allS cG s=allL cG (List.drop x s.parts)→if decide (E<B)=true then ((0:Int)<=E/\E<B)/\sz F<=n/\if (!allS cG F)=true then A else inR IntKind.i64 (E+(1:Int))/\∃(y:Nat),(y<=List.length s.parts/\allS cG s=allL cG (List.drop y s.parts))/\List.length s.parts - y<List.length s.parts - x/\E+(1:Int)=(↑y:Int)/\C else True/\true=allS cG s/\True:=by
 conv=>zeta
 have ln:=hs.parts.len
 have hz:=Ac s
 have hl:=Ad s.parts
 simp only [Int.toNat_natCast,eq_self,true_and,and_true]
 refine ⟨by omega,aa (fun h=>?_) (fun h=>?_)⟩
 ·rw [tV];simp at h;simp [h]
 refine ⟨⟨0,⟨by omega,by rw [tV];simp at h;simp [h]⟩,rfl⟩,?_⟩
 rintro k ⟨h1,h3⟩
 refine aa (fun h=>?_) (fun h=>?_)
 ·replace h:=Xo h
  have hk:k < s.parts.length:=by omega
  have hm:=tU (eo s.parts k (dfl (.st .shape)) hk)
  rw [bp s.parts k (dfl (.st .shape)) hk] at h3
  simp only [allL] at h3
  refine ⟨by omega,by omega,?_⟩
  cases e:allS cG (s.parts.getD k (dfl (.st .shape)))
  ·rw [e] at h3;rw [h3];simp
  ·simp only [e,Bool.true_and] at h3
   exact ⟨du hk ln,k+1,⟨by omega,h3⟩,by omega,by omega⟩
 ·replace h:¬((k:Int) < (s.parts.length:Int)):=fun e=>h (Xd e)
  have e:k=s.parts.length:=by omega
  subst e
  rw [h3,List.drop_length];rfl
theorem Gr (c:Int) (hc:0<=c/\c<=400) :
  let A:=(1:Int);let B:=c+A=c+A/\True;inR IntKind.i64 (c+A)/\if decide ((400:Int)<c+A)=true then decide ((400:Int)<c+A)=true/\B else decide ((400:Int)<c+A)=false/\B:=by
 conv=>zeta
 refine ⟨aq (by omega) (by omega),aa (fun h=>?_) (fun h=>?_)⟩
 ·exact ⟨h,rfl,trivial⟩
 ·exact ⟨by simpa using h,rfl,trivial⟩
theorem Gs (n:Nat) (s:Shape) (l c:Int) (hs:Wf (.st .shape) s) (hn:sz s<=n+1) (hc:0<=c/\c<=400/\1<=l/\l<=c+1) :
  let A:=(0:Int);let B:=(400:Int);let C:=(1:Int);let D:=(↑(sz s):Int);let E:=decide (B<c+D)=true;let F:=(401:Int);let G:=l+C;let H:=s.parts=s.parts;let I:=(↑(List.length s.parts):Int);let J:=s=s/\True;let K:=dfl (Ty.st SN.shape);(A<=c/\c<=B)/\if decide (B<c+C)=true then E/\c+C=F/\True else (∃(x:Nat × Int),let L:=(↑(szL (List.take x.1 s.parts)):Int);(x.1<=List.length s.parts/\c+C+L<=B/\deepL (List.drop x.1 s.parts) G x.2=deepS s l)/\l=x.2/\A=(↑x.1:Int)/\s=s/\l=l/\A=A/\H/\I=I/\c+C=c+C+L/\J)/\∀(x:Nat × Int),let L:=(↑(szL (List.take x.1 s.parts)):Int);let M:=c+C+L<=B;let N:=(↑x.1:Int);let O:=List.getD s.parts (Int.toNat N) K;let P:=(↑(sz O):Int);x.1<=List.length s.parts/\M/\deepL (List.drop x.1 s.parts) G x.2=deepS s l→if decide (N<I)=true then (A<=N/\N<I)/\inR IntKind.i64 G/\(sz O<=n/\A<=c+C+L/\M/\C<=l+C/\l+C<=c+C+L+C)/\if decide (B<c+C+L+P)=true then E/\F=F/\True else inR IntKind.i64 (N+C)/\∃(y:Nat × Int),let Q:=(↑(szL (List.take y.1 s.parts)):Int);(y.1<=List.length s.parts/\c+C+Q<=B/\deepL (List.drop y.1 s.parts) G y.2=deepS s l)/\List.length s.parts - y.1<List.length s.parts - x.1/\max x.2 (deepS O G)=y.2/\N+C=(↑y.1:Int)/\s=s/\l=l/\A=A/\H/\I=I/\c+C+L+P=c+C+Q/\J else decide (B<c+D)=false/\x.2=deepS s l/\c+C+L=c+D/\True:=by
 conv=>zeta
 have ln:=hs.parts.len
 have hz:=Ac s
 refine ⟨⟨hc.1,hc.2.1⟩,aa (fun h=>?_) (fun h=>?_)⟩
 ·replace h:=Xo h
  have:=qm s
  exact ⟨Xd (by omega),by omega,trivial⟩
 replace h:¬(400:Int) < c+1:=fun e=>h (Xd e)
 have hd0:deepL s.parts (l+1) l=deepS s l:=by cases s;rfl
 refine ⟨⟨(0,l),⟨Nat.zero_le _,by simp [szL];omega,by simpa using hd0⟩,rfl,rfl,rfl,rfl,rfl,rfl,rfl,by simp [szL],rfl,trivial⟩,?_⟩
 rintro ⟨k,d⟩ ⟨h1,h2,h3⟩
 simp only [Int.toNat_natCast] at h1 h2 h3 ⊢
 have hc0:(0:Int)<=(szL (s.parts.take k):Int):=by omega
 refine aa (fun hk=>?_) (fun hk=>?_)
 ·replace hk:=Xo hk
  have hk:k < s.parts.length:=by omega
  have hs1:=la s.parts k (dfl (.st .shape)) hk
  have hm:=tU (eo s.parts k (dfl (.st .shape)) hk)
  rw [bp s.parts k (dfl (.st .shape)) hk] at h3
  simp only [deepL] at h3
  have ht:=vv s.parts (k+1)
  refine ⟨by omega,aq (by omega) (by omega),⟨by omega,by omega,h2,by omega,by omega⟩,aa (fun h=>?_) (fun h=>?_)⟩
  ·replace h:=Xo h
   exact ⟨Xd (by omega),by trivial,by trivial⟩
  ·replace h:=fun e=>h (Xd e)
   replace h:¬(400:Int) < c+1+(szL (s.parts.take k):Int)+(sz (s.parts.getD k (dfl (.st .shape))):Int):=h
   exact ⟨du hk ln,(k+1,_),⟨by omega,by simp only;omega,h3⟩,by simp only;omega,rfl,by simp only;omega,by trivial,by trivial,by trivial,by trivial,by trivial,by simp only;omega,by trivial,by trivial⟩
 ·replace hk:¬((k:Int) < (s.parts.length:Int)):=fun e=>hk (Xd e)
  have e:k=s.parts.length:=by omega
  subst e
  rw [List.take_length] at h2 ⊢
  rw [List.drop_length] at h3
  exact ⟨Xf (by omega),h3,by omega,trivial⟩
theorem EN (s:Shape) (hs:Wf (.st .shape) s) :
  let A:=(0:Int);let B:=(1:Int);let C:=(↑(sz s):Int);let D:=if sz s<=(400:Nat) then C else (401:Int);let E:=if sz s<=(400:Nat) then deepS s B else A;(sz s<=sz s/\A<=A/\A<=(400:Int)/\B<=B/\B<=A+B)/\if decide ((400:Int)<A+C)=true then ((401:Int)=D)/\(A=E)/\false=decide (sz s<=(400:Nat))/\True else (A+C=D)/\(deepS s B=E)/\true=decide (sz s<=(400:Nat))/\True:=by
 conv=>zeta
 refine ⟨by simp,aa (fun h=>?_) (fun h=>?_)⟩
 ·replace h:=Xo h
  have h':¬sz s<=400:=by omega
  rw [if_neg h',if_neg h']
  exact ⟨rfl,rfl,by simp [h'],trivial⟩
 ·replace h:¬(400:Int) < 0+(sz s:Int):=fun e=>h (Xd e)
  have h':sz s<=400:=by omega
  rw [if_pos h',if_pos h']
  exact ⟨by omega,by trivial,by simp [h'],trivial⟩
theorem EO (s:Shape)  :
  let A:=True;if (!decide (sz s<=(400:Nat)))=true then A/\(3:Int)=fy s/\A else if decide ((40:Int)<if sz s<=(400:Nat) then deepS s (1:Int) else (0:Int))=true then A/\(91:Int)=fy s/\A else sz s<=(400:Nat)/\if (!allS cG s)=true then A/\(70:Int)=fy s/\A else A/\(0:Int)=fy s/\A:=by
 conv=>zeta
 unfold fy
 by_cases h1:sz s<=400
 ·rw [if_neg (by simp [h1]),if_pos h1,if_neg (show ¬400 < sz s by omega)]
  by_cases h2:(40:Int) < deepS s 1
  ·rw [if_pos (by simp [h2]),if_pos h2];exact ⟨trivial,rfl,trivial⟩
  ·rw [if_neg (by simp [h2]),if_neg h2]
   refine ⟨h1,?_⟩
   cases allS cG s <;> simp
 ·rw [if_pos (by simp [h1]),if_pos (show 400 < sz s by omega)];exact ⟨trivial,rfl,trivial⟩
theorem Cz (n:Nat) (t:Trm) (m:Int) (hs:Wf (.st .term) t) (hz:szT t<=n+1) (h0:0<=m) (h1:m<=1000000) :
  let A:=(1:Int);let B:=(0:Int);let C:=(↑(List.length t.parts):Int);let D:=t=t/\m=m/\B=B/\B=B/\t.parts=t.parts/\C=C/\t=t/\True;let E:=countT t m;let F:=dfl (Ty.st SN.term);(∃(x:Nat × Int × Int),(x.1<=List.length t.parts/\A<=x.2.1/\x.2.1<=m+A/\B<=x.2.2/\x.2.2+A<=x.2.1/\countL (List.drop x.1 t.parts) m x.2.1 x.2.2=countL t.parts m A B)/\A=x.2.1/\B=x.2.2/\B=(↑x.1:Int)/\D)/\∀(x:Nat × Int × Int),let G:=(↑x.1:Int);let H:=inR IntKind.i64 (x.2.2+A)/\True/\x.2.1=E.1/\x.2.2+A=E.2/\True;let I:=m - x.2.1;let J:=List.getD t.parts (Int.toNat G) F;let K:=countT J I;x.1<=List.length t.parts/\A<=x.2.1/\x.2.1<=m+A/\B<=x.2.2/\x.2.2+A<=x.2.1/\countL (List.drop x.1 t.parts) m x.2.1 x.2.2=countL t.parts m A B→if decide (G<C)=true then (B<=G/\G<C)/\if decide (m<x.2.1)=true then H else inR IntKind.i64 I/\(szT J<=n/\B<=m - x.2.1/\m - x.2.1<=(1000000:Int))/\inR IntKind.i64 (x.2.1+K.1)/\inR IntKind.i64 (G+A)/\∃(y:Nat × Int × Int),(y.1<=List.length t.parts/\A<=y.2.1/\y.2.1<=m+A/\B<=y.2.2/\y.2.2+A<=y.2.1/\countL (List.drop y.1 t.parts) m y.2.1 y.2.2=countL t.parts m A B)/\List.length t.parts - y.1<List.length t.parts - x.1/\x.2.1+K.1=y.2.1/\max x.2.2 K.2=y.2.2/\G+A=(↑y.1:Int)/\D else H:=by
 conv=>zeta
 have ln:=hs.term_parts.len
 rw [BD]
 refine ⟨⟨(0,1,0),⟨Nat.zero_le _,by decide,by show (1:Int)<=m+1;omega,by decide,by decide,rfl⟩,rfl,rfl,rfl,?_⟩,?_⟩
 ·exact Xr
 rintro ⟨k,a,d⟩ ⟨h1,h2,h3,h4,h5,h6⟩
 simp only [Int.toNat_natCast] at h1 h2 h3 h4 h5 h6 ⊢
 refine aa (fun h=>?_) (fun h=>?_)
 ·replace h:=Xo h
  have hk:k < t.parts.length:=by omega
  rw [bp t.parts k (dfl (.st .term)) hk,countL] at h6
  refine ⟨by omega,aa (fun c=>?_) (fun c=>?_)⟩
  ·replace c:=Xo c
   rw [if_pos c] at h6
   rw [←h6]
   refine ⟨aq (by omega) (by omega),?_⟩
   exact Xr
  ·replace c:¬m < a:=fun e=>c (Xd e)
   rw [if_neg c] at h6
   have hm:=fB (eo t.parts k (dfl (.st .term)) hk)
   have he:=dY t
   have hb:=countT_bound (t.parts.getD k (dfl (.st .term))) (m - a) (by omega)
   refine ⟨aq (by omega) (by omega),⟨by omega,by omega,by omega⟩,aq (by omega) (by omega),du hk ln,(k+1,_,_),⟨by show k+1<=_;omega,?_,?_,?_,?_,h6⟩,by show _ - (k+1) < _;omega,rfl,rfl,by show _=((k+1:Nat):Int);omega,?_⟩
   ·show (1:Int)<=a+_;omega
   ·show a+_<=m+1;omega
   ·show (0:Int)<=max d _;omega
   ·show max d _+1<=a+_;omega
   exact Xr
 ·replace h:¬((k:Int) < (t.parts.length:Int)):=fun e=>h (Xd e)
  have e:k=t.parts.length:=by omega
  subst e
  rw [List.drop_length,countL] at h6
  rw [←h6]
  refine ⟨aq (by omega) (by omega),?_⟩
  exact Xr
theorem zc  (x:Str)  :
  True/\(!aH x)=!aH x/\True:=by
 exact ⟨trivial,by trivial,trivial⟩
theorem zd  (l:List Str)  (hl:Wf (.lst .str) l) :
  let A:=(0:Nat);let B:=(↑(List.length l):Int);let C:=l=l/\B=B/\True;(∃(x:Nat),(x<=List.length l/\bD aH (List.drop x l) x=bD aH l A)/\(0:Int)=(↑x:Int)/\C)/\∀(x:Nat),let D:=(↑x:Int);x<=List.length l/\bD aH (List.drop x l) x=bD aH l A→if decide (D<B)=true then ((0:Int)<=D/\D<B)/\if (!aH (List.getD l (Int.toNat D) (dfl Ty.str)))=true then True/\D=bD aH l A/\True else inR IntKind.i64 (D+(1:Int))/\∃(y:Nat),(y<=List.length l/\bD aH (List.drop y l) y=bD aH l A)/\List.length l - y<List.length l - x/\D+(1:Int)=(↑y:Int)/\C else True/\(-1:Int)=bD aH l A/\True:=by
 conv=>zeta
 have ln:=hl.len
 simp only [Int.toNat_natCast]
 refine ⟨⟨0,⟨Nat.zero_le _,by simp⟩,rfl,by trivial,by trivial,trivial⟩,?_⟩
 rintro k ⟨h1,h2⟩
 refine aa (fun h=>?_) (fun h=>?_)
 ·replace h:=Xo h
  have hk:k < l.length:=by omega
  rw [bp l k (dfl .str) hk,bD] at h2
  refine ⟨by omega,aa (fun c=>?_) (fun c=>?_)⟩
  ·have c:aH (l.getD k (dfl .str))=false:=by simpa using c
   rw [c,if_neg Bool.false_ne_true] at h2
   rw [←h2]
   exact ⟨trivial,rfl,trivial⟩
  ·have c:aH (l.getD k (dfl .str))=true:=by simpa using c
   rw [if_pos c] at h2
   refine ⟨du hk ln,k+1,⟨by omega,h2⟩,by omega,by omega,by trivial,by trivial,trivial⟩
 ·replace h:¬((k:Int) < (l.length:Int)):=fun e=>h (Xd e)
  have e:k=l.length:=by omega
  subst e
  rw [List.drop_length,bD] at h2
  rw [←h2]
  exact ⟨trivial,rfl,trivial⟩
theorem ze  (l:List Str)  :
  True/\decide ((0:Int)<=bD aH l (0:Nat))=!List.all l aH/\True:=by
 exact ⟨trivial,kj aH l 0,trivial⟩
theorem EP  (l:List Str)  :
  True/\(!!List.all l aH)=List.all l aH/\True:=by
 exact ⟨trivial,Bool.not_not _,trivial⟩
theorem ER (l:List Str) (ho:l.length *16<=140737488355328) :
  let A:=(List.mergeSort l fun (x y:Str)=>decide (x<=y));let B:=List.all l aH && decide (List.Nodup l);List.length l*(16:Nat)<=(140737488355328:Nat)/\if List.all l aH=true then List.length A=List.length A/\True/\decide ((↑(List.length (Lib.compact A)):Int)=(↑(List.length l):Int))=B/\True else True/\false=B/\True:=by
 conv=>zeta
 have hc:=gZ l
 unfold fb at hc
 refine ⟨ho,aa (fun h=>?_) (fun h=>?_)⟩
 ·refine ⟨by trivial,trivial,?_,trivial⟩
  rw [h,Bool.true_and,decide_eq_decide,←hc]
  omega
 ·have h:l.all aH=false:=by simpa using h
  exact ⟨trivial,by rw [h];rfl,trivial⟩
theorem zf (n:Nat) (x:Shape)  (ho:sz x<=n) :
  sz x<=n/\True/\(!allS bh x)=!allS bh x/\True:=by
 exact ⟨ho,trivial,by trivial,trivial⟩
theorem zg (n:Nat) (l:List Shape)  (hl:Wf (.lst (.st .shape)) l) (ho:∀x∈l,sz x<=n) :
  let A:=allS bh;let B:=(0:Nat);let C:=(↑(List.length l):Int);let D:=l=l/\C=C/\True;let E:=dfl (Ty.st SN.shape);(∃(x:Nat),(x<=List.length l/\bD A (List.drop x l) x=bD A l B)/\(0:Int)=(↑x:Int)/\D)/\∀(x:Nat),let F:=(↑x:Int);let G:=List.getD l (Int.toNat F) E;x<=List.length l/\bD A (List.drop x l) x=bD A l B→if decide (F<C)=true then ((0:Int)<=F/\F<C)/\sz G<=n/\if (!allS bh G)=true then True/\F=bD A l B/\True else inR IntKind.i64 (F+(1:Int))/\∃(y:Nat),(y<=List.length l/\bD A (List.drop y l) y=bD A l B)/\List.length l - y<List.length l - x/\F+(1:Int)=(↑y:Int)/\D else True/\(-1:Int)=bD A l B/\True:=by
 conv=>zeta
 have ln:=hl.len
 simp only [Int.toNat_natCast]
 refine ⟨⟨0,⟨Nat.zero_le _,by simp⟩,rfl,by trivial,by trivial,trivial⟩,?_⟩
 rintro k ⟨h1,h2⟩
 refine aa (fun h=>?_) (fun h=>?_)
 ·replace h:=Xo h
  have hk:k < l.length:=by omega
  rw [bp l k (dfl (.st .shape)) hk,bD] at h2
  refine ⟨by omega,ho _ (eo l k _ hk),aa (fun c=>?_) (fun c=>?_)⟩
  ·have c:(allS bh) (l.getD k (dfl (.st .shape)))=false:=by simpa using c
   rw [c,if_neg Bool.false_ne_true] at h2
   rw [←h2]
   exact ⟨trivial,rfl,trivial⟩
  ·have c:(allS bh) (l.getD k (dfl (.st .shape)))=true:=by simpa using c
   rw [if_pos c] at h2
   refine ⟨du hk ln,k+1,⟨by omega,h2⟩,by omega,by omega,by trivial,by trivial,trivial⟩
 ·replace h:¬((k:Int) < (l.length:Int)):=fun e=>h (Xd e)
  have e:k=l.length:=by omega
  subst e
  rw [List.drop_length,bD] at h2
  rw [←h2]
  exact ⟨trivial,rfl,trivial⟩
theorem zh (n:Nat) (l:List Shape)  (ho:∀x∈l,sz x<=n) :
  (∀(x:Shape),x∈l→sz x<=n)/\True/\decide ((0:Int)<=bD (allS bh) l (0:Nat))=!List.all l (allS bh)/\True:=by
 exact ⟨ho,trivial,kj (allS bh) l 0,trivial⟩
theorem ES (n:Nat) (l:List Shape)  (ho:∀x∈l,sz x<=n) :
  (∀(x:Shape),x∈l→sz x<=n)/\True/\(!!List.all l (allS bh))=List.all l (allS bh)/\True:=by
 exact ⟨ho,trivial,Bool.not_not _,trivial⟩
theorem Gt (n:Nat) (s:Shape) (ho:sz s<=n+1) :
  if (!decide (s.kind=(10:Int)))=true then (∀(x:Shape),x∈s.parts→sz x<=n)/\True/\List.all s.parts (allS bh)=allS bh s/\True else True/\false=allS bh s/\True:=by
 have e0:allS bh s=(bh s && s.parts.all (allS bh)):=by rw [tV,vw]
 have h0:=Ac s
 have hm:∀x∈s.parts,sz x<=n:=fun x hx=>by have:=tU hx;omega
 rw [e0]
 refine aa (fun h=>?_) (fun h=>?_)
 ·have h:bh s=true:=h
  rw [h,Bool.true_and]
  exact ⟨hm,trivial,rfl,trivial⟩
 ·have h:bh s=false:=by simpa [bh] using h
  rw [h]
  exact ⟨trivial,rfl,trivial⟩
theorem CA (s:Shape)  :
  let A:=(decide (fy s=(0:Int)) && allS bh s);if decide (fy s=(0:Int))=true then sz s<=(400:Nat)/\True/\allS bh s=A/\True else True/\false=A/\True:=by
 conv=>zeta
 refine aa (fun h=>?_) (fun h=>?_)
 ·have h:fy s=0:=by simpa using h
  refine ⟨?_,trivial,by simp [h],trivial⟩
  unfold fy at h
  by_cases c:400 < sz s
  ·rw [if_pos c] at h;exact absurd h (by decide)
  ·omega
 ·have h:¬fy s=0:=by simpa using h
  exact ⟨trivial,by simp [h],trivial⟩
theorem HX (t:Trm)  :
  let A:=(↑(List.length t.names):Int);let B:=(↑(List.length t.vars):Int);let C:=(↑(List.length t.shapes):Int);let D:=(↑(List.length t.parts):Int);True/\A=A/\B=B/\C=C/\D=D/\True:=by
 conv=>zeta
 exact Xr
theorem ET (s:Str) (hs:Wf .str s) :
  let A:=cm s;let B:=(↑(List.length A):Int);let C:=s=s/\cm s=cm s/\B=B/\True;let D:=dfl (Ty.int IntKind.u8);let E:=(1:Int);(∃(x:Nat),(x<=List.length s/\List.all s hU=List.all (List.drop x s) hU)/\(0:Int)=(↑x:Int)/\C)/\∀(x:Nat),let F:=(↑x:Int);let G:=Int.toNat F;let H:=inR IntKind.i64 (F+E)/\∃(y:Nat),(y<=List.length s/\List.all s hU=List.all (List.drop y s) hU)/\List.length s - y<List.length s - x/\F+E=(↑y:Int)/\C;x<=List.length s/\List.all s hU=List.all (List.drop x s) hU→if decide (F<B)=true then ((0:Int)<=F/\F<B)/\if decide (List.getD A G D<(32:Int))=true then if (!decide (List.getD A G D=(10:Int)))=true then if (!decide (List.getD A G D=(9:Int)))=true then True/\false=qz s/\True else H else H else H else True/\Option.isNone (qo s)=qz s/\True:=by
 conv=>zeta
 have ln:=hs.str
 have hbl:(cm s).length=s.length:=List.length_map _
 simp only [hbl,Int.toNat_natCast]
 refine ⟨⟨0,⟨Nat.zero_le _,rfl⟩,?_⟩,?_⟩
 ·exact Xr
 rintro k ⟨h1,h2⟩
 refine aa (fun h=>?_) (fun h=>?_)
 ·have hk:k < s.length:=by have:=Xo h;omega
  rw [bp s k 0 hk,List.all_cons] at h2
  have hq:=BL (s.getD k 0)
  simp only [vH s k hk]
  have yes:¬(bI (s.getD k 0) < 32/\bI (s.getD k 0)≠10/\bI (s.getD k 0)≠9)→s.all hU=(s.drop (k+1)).all hU:=fun e=>by
   have:hU (s.getD k 0)=true:=by
    cases hh:hU (s.getD k 0) with
    | true=>rfl
    | false=>exact absurd (hq.1 hh) e
   rw [h2,this,Bool.true_and]
  refine ⟨⟨by omega,by omega⟩,?_⟩
  repeat' (refine aa (fun _=>?_) (fun _=>?_))
  all_goals (simp only [decide_eq_true_eq,Bool.not_eq_true',decide_eq_false_iff_not] at *)
  all_goals first
   | (refine ⟨trivial,?_,trivial⟩;unfold qz;rw [h2,hq.2 (by omega),Bool.false_and,Bool.false_and])
   | (refine ⟨du hk ln,k+1,⟨by omega,yes (by omega)⟩,by omega,by omega,?_⟩;exact Xr)
 ·have hk:k=s.length:=by
   have:¬((k:Int) < (s.length:Int)):=fun e=>h (Xd e)
   omega
  refine ⟨trivial,?_,trivial⟩
  unfold qz
  rw [h2,hk,List.drop_length]
  rfl
theorem wJ  (x:Shape)  :
  True/\(!(decide (fy x=(0:Int)) && allS bh x))=!cb x/\True:=by
 exact ⟨trivial,by trivial,trivial⟩
theorem wM  (l:List Shape)  (hl:Wf (.lst (.st .shape)) l) :
  let A:=(0:Nat);let B:=(↑(List.length l):Int);let C:=l=l/\B=B/\True;(∃(x:Nat),(x<=List.length l/\bD cb (List.drop x l) x=bD cb l A)/\(0:Int)=(↑x:Int)/\C)/\∀(x:Nat),let D:=(↑x:Int);x<=List.length l/\bD cb (List.drop x l) x=bD cb l A→if decide (D<B)=true then ((0:Int)<=D/\D<B)/\if (!cb (List.getD l (Int.toNat D) (dfl (Ty.st SN.shape))))=true then True/\D=bD cb l A/\True else inR IntKind.i64 (D+(1:Int))/\∃(y:Nat),(y<=List.length l/\bD cb (List.drop y l) y=bD cb l A)/\List.length l - y<List.length l - x/\D+(1:Int)=(↑y:Int)/\C else True/\(-1:Int)=bD cb l A/\True:=by
 conv=>zeta
 have ln:=hl.len
 simp only [Int.toNat_natCast]
 refine ⟨⟨0,⟨Nat.zero_le _,by simp⟩,rfl,by trivial,by trivial,trivial⟩,?_⟩
 rintro k ⟨h1,h2⟩
 refine aa (fun h=>?_) (fun h=>?_)
 ·replace h:=Xo h
  have hk:k < l.length:=by omega
  rw [bp l k (dfl (.st .shape)) hk,bD] at h2
  refine ⟨by omega,aa (fun c=>?_) (fun c=>?_)⟩
  ·have c:cb (l.getD k (dfl (.st .shape)))=false:=by simpa using c
   rw [c,if_neg Bool.false_ne_true] at h2
   rw [←h2]
   exact ⟨trivial,rfl,trivial⟩
  ·have c:cb (l.getD k (dfl (.st .shape)))=true:=by simpa using c
   rw [if_pos c] at h2
   refine ⟨du hk ln,k+1,⟨by omega,h2⟩,by omega,by omega,by trivial,by trivial,trivial⟩
 ·replace h:¬((k:Int) < (l.length:Int)):=fun e=>h (Xd e)
  have e:k=l.length:=by omega
  subst e
  rw [List.drop_length,bD] at h2
  rw [←h2]
  exact ⟨trivial,rfl,trivial⟩
theorem wP  (l:List Shape)  :
  True/\decide ((0:Int)<=bD cb l (0:Nat))=!List.all l cb/\True:=by
 exact ⟨trivial,kj cb l 0,trivial⟩
theorem CB  (l:List Shape)  :
  True/\(!!List.all l cb)=List.all l cb/\True:=by
 exact ⟨trivial,Bool.not_not _,trivial⟩
theorem EU (t:Trm) (ht:Wf (.st .term) t) (ho:t.names.length<=8796093022208) :
  let A:=(0:Int);let B:=(↑(List.length t.names):Int);let C:=(↑(List.length t.vars):Int);let D:=(↑(List.length t.shapes):Int);let E:=(↑(List.length t.parts):Int);let F:=True;let G:=t=t/\false=false/\t=t/\B=B/\C=C/\D=D/\E=E/\F;let H:=true=!nV t/\G;let I:=(1:Int);let J:=(!List.all t.shapes cb)=!nV t/\G;let K:=if (!decide (t.pkg=[]))=true then if (!decide (t.kind=(5:Int)))=true then H else J else J;let L:=F/\false=aW t/\F;let M:=F/\(decide (B=A) && (decide (C=A) && (decide (D=A) && (decide (E=A) && true))))=aW t/\F;let N:=if decide (t.name=[])=true then M else L;let O:=List.length t.names*(16:Nat)<=(140737488355328:Nat);let P:=decide (E=I) && true;let Q:=decide (E=E) && true;let R:=F/\(decide (B=A) && (decide (C=A) && (decide (D=A) && P)))=aW t/\F;let S:=if aH t.name=true then R else L;let T:=inR IntKind.i64 (B+I);let U:=if eF t.name=true then R else L;(if decide (t.pos<A)=true then H else if (!decide (t.n=A))=true then if (!decide (t.kind=I))=true then H else K else K)/\if (!nV t)=true then L else if decide (t.kind=I)=true then if decide (t.name=[])=true then if decide (A<=t.n)=true then if decide (t.n<=(999999999999999:Int))=true then M else L else L else L else if decide (t.kind=(2:Int))=true then if qz t.name=true then M else L else if decide (t.kind=(3:Int))=true then N else if decide (t.kind=(4:Int))=true then N else if decide (t.kind=(5:Int))=true then if aH t.name=true then if decide (t.pkg=[])=true then M else if aH t.pkg=true then M else L else L else if decide (t.kind=(6:Int))=true then if decide (t.name=[])=true then if decide (B<=(4096:Int))=true then O/\if (List.all t.names aH && decide (List.Nodup t.names))=true then F/\(decide (B=B) && (decide (C=A) && (decide (D=B) && P)))=aW t/\F else L else L else L else if decide (t.kind=(7:Int))=true then if decide (t.name=[])=true then if decide (A<E)=true then F/\(decide (B=A) && (decide (C=A) && (decide (D=A) && Q)))=aW t/\F else L else L else if decide (t.kind=(8:Int))=true then if decide (t.name=[])=true then O/\if (List.all t.names aH && decide (List.Nodup t.names))=true then F/\(decide (B=B) && (decide (C=A) && (decide (D=A) && (decide (E=B) && true))))=aW t/\F else L else L else if decide (t.kind=(9:Int))=true then S else if decide (t.kind=(10:Int))=true then S else if decide (t.kind=(11:Int))=true then if decide (t.name=[])=true then F/\(decide (B=A) && (decide (C=A) && (decide (D=I) && Q)))=aW t/\F else L else if decide (t.kind=(12:Int))=true then if decide (t.name=[])=true then F/\(decide (B=A) && (decide (C=A) && (decide (D=I) && (decide (E=(3:Int)) && true))))=aW t/\F else L else if decide (t.kind=(13:Int))=true then if decide (t.name=[])=true then O/\if (List.all t.names aH && decide (List.Nodup t.names))=true then if List.all t.vars aH=true then T/\T/\F/\(decide (B=B) && (decide (C=B) && (decide (D=B+I) && (decide (E=B+I) && true))))=aW t/\F else L else L else L else if decide (t.kind=(14:Int))=true then if aH t.name=true then F/\(decide (B=A) && (decide (C=A) && (decide (D=A) && (decide (E=(2:Int)) && true))))=aW t/\F else L else if decide (t.kind=(15:Int))=true then if decide (t.name=[])=true then F/\(decide (B=A) && (decide (C=A) && (decide (D=I) && P)))=aW t/\F else L else if decide (t.kind=(16:Int))=true then U else if decide (t.kind=(17:Int))=true then U else L:=by
 conv=>zeta
 refine ⟨?_,aa (fun h=>?_) (fun h=>?_)⟩
 ·unfold nV
  repeat' (refine aa (fun _=>?_) (fun _=>?_))
  all_goals simp_all
 ·have h:nV t=false:=by simpa using h
  unfold aW
  rw [h]
  exact ⟨trivial,rfl,trivial⟩
 have h:nV t=true:=by simpa using h
 have e0:aW t=Af t:=by unfold aW;rw [h,Bool.true_and]
 rw [e0]
 clear h e0
 unfold Af gw fR
 simp only [dnZ,dn1,dn2,dn3,dnN,dnS,dnL,dnP]
 generalize t.names.all aH=na
 generalize t.vars.all aH=va
 repeat' (first | refine aa (fun _=>?_) (fun _=>?_) | refine ⟨by omega,?_⟩ | refine ⟨aq (by omega) (by omega),?_⟩ | fail)
 all_goals (refine ⟨trivial,?_,trivial⟩;try simp_all)
 all_goals first | (simp only [Bool.and_assoc];done) | (intros;omega)
theorem wQ (n:Nat) (x:Trm)  (ho:szT x<=n/\cv x=true) :
  (szT x<=n/\cv x=true)/\True/\(!allT aW x)=!allT aW x/\True:=by
 exact ⟨ho,trivial,by trivial,trivial⟩
theorem wR (n:Nat) (l:List Trm)  (hl:Wf (.lst (.st .term)) l) (ho:∀x∈l,szT x<=n/\cv x=true) :
  let A:=allT aW;let B:=(0:Nat);let C:=(↑(List.length l):Int);let D:=l=l/\C=C/\True;let E:=dfl (Ty.st SN.term);(∃(x:Nat),(x<=List.length l/\bD A (List.drop x l) x=bD A l B)/\(0:Int)=(↑x:Int)/\D)/\∀(x:Nat),let F:=(↑x:Int);let G:=List.getD l (Int.toNat F) E;x<=List.length l/\bD A (List.drop x l) x=bD A l B→if decide (F<C)=true then ((0:Int)<=F/\F<C)/\(szT G<=n/\cv G=true)/\if (!allT aW G)=true then True/\F=bD A l B/\True else inR IntKind.i64 (F+(1:Int))/\∃(y:Nat),(y<=List.length l/\bD A (List.drop y l) y=bD A l B)/\List.length l - y<List.length l - x/\F+(1:Int)=(↑y:Int)/\D else True/\(-1:Int)=bD A l B/\True:=by
 conv=>zeta
 have ln:=hl.len
 simp only [Int.toNat_natCast]
 refine ⟨⟨0,⟨Nat.zero_le _,by simp⟩,rfl,by trivial,by trivial,trivial⟩,?_⟩
 rintro k ⟨h1,h2⟩
 refine aa (fun h=>?_) (fun h=>?_)
 ·replace h:=Xo h
  have hk:k < l.length:=by omega
  rw [bp l k (dfl (.st .term)) hk,bD] at h2
  refine ⟨by omega,ho _ (eo l k _ hk),aa (fun c=>?_) (fun c=>?_)⟩
  ·have c:(allT aW) (l.getD k (dfl (.st .term)))=false:=by simpa using c
   rw [c,if_neg Bool.false_ne_true] at h2
   rw [←h2]
   exact ⟨trivial,rfl,trivial⟩
  ·have c:(allT aW) (l.getD k (dfl (.st .term)))=true:=by simpa using c
   rw [if_pos c] at h2
   refine ⟨du hk ln,k+1,⟨by omega,h2⟩,by omega,by omega,by trivial,by trivial,trivial⟩
 ·replace h:¬((k:Int) < (l.length:Int)):=fun e=>h (Xd e)
  have e:k=l.length:=by omega
  subst e
  rw [List.drop_length,bD] at h2
  rw [←h2]
  exact ⟨trivial,rfl,trivial⟩
theorem wS (n:Nat) (l:List Trm)  (ho:∀x∈l,szT x<=n/\cv x=true) :
  (∀(x:Trm),x∈l→szT x<=n/\cv x=true)/\True/\decide ((0:Int)<=bD (allT aW) l (0:Nat))=!List.all l (allT aW)/\True:=by
 exact ⟨ho,trivial,kj (allT aW) l 0,trivial⟩
theorem CD (n:Nat) (l:List Trm)  (ho:∀x∈l,szT x<=n/\cv x=true) :
  (∀(x:Trm),x∈l→szT x<=n/\cv x=true)/\True/\(!!List.all l (allT aW))=List.all l (allT aW)/\True:=by
 exact ⟨ho,trivial,Bool.not_not _,trivial⟩
theorem CE (n:Nat) (t:Trm) (ho:szT t<=n+1/\cv t=true) :
  List.length t.names<=(8796093022208:Nat)/\if aW t=true then (∀(x:Trm),x∈t.parts→szT x<=n/\cv x=true)/\True/\List.all t.parts (allT aW)=allT aW t/\True else True/\false=allT aW t/\True:=by
 obtain ⟨h1,h2⟩:=ho
 have e0:allT aW t=(aW t && t.parts.all (allT aW)):=by rw [allT_eq,allTL_all]
 have h0:=dY t
 rw [e0]
 refine ⟨yp h2,aa (fun h=>?_) (fun h=>?_)⟩
 ·rw [h,Bool.true_and]
  exact ⟨fun x hx=>⟨by have:=fB hx;omega,BK h2 hx⟩,trivial,rfl,trivial⟩
 ·have h:aW t=false:=by simpa using h
  rw [h]
  exact ⟨trivial,rfl,trivial⟩
theorem CF (x:Trm) (ho:cv x=true) :
  let A:=szT x<=szT x;let B:=(4096:Int);let C:=True;(A/\(0:Int)<=B/\B<=(1000000:Int))/\if decide (B<(countT x B).1)=true then C/\(3:Int)=cw x/\C else if decide ((40:Int)<(countT x B).2)=true then C/\(91:Int)=cw x/\C else (A/\cv x=true)/\if (!allT aW x)=true then C/\(80:Int)=cw x/\C else C/\(0:Int)=cw x/\C:=by
 conv=>zeta
 refine ⟨⟨Nat.le_refl _,by omega,by omega⟩,aa (fun h=>?_) (fun h=>?_)⟩
 ·replace h:=Xo h
  unfold cw
  rw [if_pos h]
  exact ⟨trivial,rfl,trivial⟩
 have h:¬_:=fun e=>h (Xd e)
 have e1:cw x=if 40 < (countT x 4096).2 then 91 else if allT aW x=true then 0 else 80:=by unfold cw;rw [if_neg h]
 refine aa (fun k=>?_) (fun k=>?_)
 ·rw [if_pos (Xo k)] at e1
  rw [e1]
  exact ⟨trivial,rfl,trivial⟩
 rw [if_neg (fun e=>k (Xd e))] at e1
 refine ⟨⟨Nat.le_refl _,ho⟩,aa (fun j=>?_) (fun j=>?_)⟩
 ·have j:allT aW x=false:=by simpa using j
  rw [j,if_neg Bool.false_ne_true] at e1
  rw [e1]
  exact ⟨trivial,rfl,trivial⟩
 ·have j:allT aW x=true:=by simpa using j
  rw [if_pos j] at e1
  rw [e1]
  exact ⟨trivial,rfl,trivial⟩
theorem Gu (s:Nat) (xs ys:List Opn) (ho:(xs.length+ys.length) *88<=140737488355328) :
  ((s=s/\List.length xs=List.length xs)/\(List.length xs+List.length ys) *(88:Nat)<=(140737488355328:Nat))/\inR IntKind.i64 ((↑(List.length (xs++ys)):Int) - (1:Int))/\True/\(↑(List.length (xs++ys)):Int) - (1:Int)=(↑(List.length xs):Int)+(↑(List.length ys):Int) - (1:Int)/\s+List.length ys=s+List.length ys/\List.length (xs++ys)=List.length (xs++ys)/\s+List.length ys=s+List.length ys/\xs++ys=xs++ys/\True:=by
 refine ⟨⟨⟨rfl,rfl⟩,ho⟩,aq (by omega) (by simp only [List.length_append];omega),trivial,by simp only [List.length_append];omega,by repeat' (first | exact trivial | rfl | apply And.intro)⟩
theorem EV (s:Nat) (xs:List Opn)  :
  True/\(↑(List.length xs):Int)=(↑(List.length xs):Int)/\s=s/\List.length xs=List.length xs/\s=s/\xs=xs/\True:=by
 repeat' (first | exact trivial | rfl | apply And.intro)
theorem EW (s:Nat) (sp:List Nam) (x:CS) (t:Trm) (ht:Wf (.st .term) t) (ho:sp.length<=9223372036854775807) :
  let A:=(↑(List.length sp):Int);let B:=(1:Int);let C:=inR IntKind.i64 (A - B);let D:=List.length x.1=List.length x.1;let E:=s=s;let F:=List.length sp=List.length sp;let G:=List.length x.2=List.length x.2;let H:=(0:Int);let I:=t=t/\D/\D/\E/\F/\D/\x.1=x.1/\E/\sp=sp/\G/\G/\G/\x.2=x.2/\H=H/\H=H/\ma UInt8=ma UInt8/\H=H/\True;let J:=dfl (Ty.st SN.nm);let K:=kr sp t;let L:=[]=K.name/\K.names=[]/\K.tos=[]/\t.pos=K.pos/\D/\D/\E/\F/\D/\x.1=x.1/\E/\sp=sp/\G/\G/\G/\x.2=x.2/\True;C/\(∃(x_1:Nat),(x_1<=List.length sp/\kr sp t=jH sp t x_1)/\A - B=(↑x_1:Int) - B/\I)/\∀(x_1:Nat),let M:=(↑x_1:Int);let N:=M - B;let O:=List.getD sp (Int.toNat N) J;x_1<=List.length sp/\kr sp t=jH sp t x_1→if decide (H<=M - B)=true then (H<=M - B/\M - B<A)/\(E/\Int.toNat N<List.length sp)/\if (decide (O.pkg=t.pkg) && (decide (O.name=t.name) && true))=true then C/\inR IntKind.i64 (A - B - N)/\True/\(4:Int)=K.kind/\A - B - N=K.n/\L else inR IntKind.i64 (M - B - B)/\∃(y:Nat),(y<=List.length sp/\kr sp t=jH sp t y)/\y<x_1/\M - B - B=(↑y:Int) - B/\I else True/\(5:Int)=K.kind/\(110:Int)=K.n/\L:=by
 conv=>zeta
 refine ⟨aq (by omega) (by omega),⟨sp.length,⟨Nat.le_refl _,rfl⟩,by repeat' (first | exact trivial | rfl | apply And.intro)⟩,?_⟩
 rintro k ⟨h1,h2⟩
 refine aa (fun h=>?_) (fun h=>?_)
 ·replace h:=Xo h
  obtain ⟨k,rfl⟩:∃j,k=j+1:=⟨k - 1,by omega⟩
  have e:Int.toNat (((k+1:Nat):Int) - 1)=k:=by omega
  simp only [e]
  rw [jH] at h2
  refine ⟨⟨by omega,by omega⟩,⟨trivial,by omega⟩,aa (fun g=>?_) (fun g=>?_)⟩
  ·rw [Bool.and_eq_true,Bool.and_eq_true] at g
   have g:(sp.getD k default).pkg=t.pkg/\(sp.getD k default).name=t.name:=⟨Xo g.1,Xo g.2.1⟩
   rw [if_pos g] at h2
   rw [h2]
   refine ⟨aq (by omega) (by omega),aq (by omega) (by omega),trivial,rfl,by show _=(sp.length:Int) - 1 - k;omega,by repeat' (first | exact trivial | rfl | apply And.intro)⟩
  ·rw [Bool.and_eq_true,Bool.and_eq_true] at g
   have g:¬((sp.getD k default).pkg=t.pkg/\(sp.getD k default).name=t.name):=fun z=>g ⟨Xd z.1,Xd z.2,rfl⟩
   rw [if_neg g] at h2
   exact ⟨aq (by omega) (by omega),k,⟨by omega,h2⟩,by omega,by omega,by repeat' (first | exact trivial | rfl | apply And.intro)⟩
 ·have h:¬0<=(k:Int) - 1:=fun z=>h (Xd z)
  have:k=0:=by omega
  subst this
  rw [h2]
  repeat' (first | exact trivial | rfl | apply And.intro)
theorem zi (t:Trm) (ht:Wf (.st .term) t) (ho:t.names.length *16<=140737488355328) :
  let A:=(↑(List.length t.parts):Int);let B:=True;let C:=iz t;let D:=[]=C.1.name;let E:=C.1.names=[];let F:=C.1.tos=[];let G:=F/\t.pos=C.1.pos/\true=C.2/\B;let H:=(0:Int);let I:=H=C.1.n;let J:=I/\t.name=C.1.name/\E/\G;if decide (t.kind=(7:Int))=true then inR IntKind.i64 (A - (1:Int))/\B/\(7:Int)=C.1.kind/\A - (1:Int)=C.1.n/\D/\E/\G else if decide (t.kind=(8:Int))=true then (Nat.le (List.length t.names*(16:Nat)) (140737488355328:Nat)/\B)/\B/\(8:Int)=C.1.kind/\I/\D/\t.names=C.1.names/\G else if decide (t.kind=(9:Int))=true then B/\(9:Int)=C.1.kind/\J else if decide (t.kind=(10:Int))=true then B/\(10:Int)=C.1.kind/\J else if decide (t.kind=(11:Int))=true then B/\(11:Int)=C.1.kind/\A=C.1.n/\D/\E/\G else if decide (t.kind=(16:Int))=true then B/\(17:Int)=C.1.kind/\J else if decide (t.kind=(17:Int))=true then B/\(18:Int)=C.1.kind/\J else B/\H=C.1.kind/\I/\D/\E/\F/\H=C.1.pos/\false=C.2/\B:=by
 conv=>zeta
 unfold iz
 refine aa (fun h=>?_) (fun h=>?_)
 ·rw [if_pos (Xo h)]
  exact ⟨aq (by omega) (by have:=ht.term_parts.len;omega),trivial,rfl,rfl,by repeat' (first | exact trivial | rfl | apply And.intro)⟩
 rw [if_neg (fun z=>h (Xd z))]
 refine aa (fun h=>?_) (fun h=>?_)
 ·rw [if_pos (Xo h)]
  exact ⟨⟨ho,trivial⟩,by repeat' (first | exact trivial | rfl | apply And.intro)⟩
 rw [if_neg (fun z=>h (Xd z))]
 refine aa (fun h=>?_) (fun h=>?_)
 ·rw [if_pos (Xo h)]
  repeat' (first | exact trivial | rfl | apply And.intro)
 rw [if_neg (fun z=>h (Xd z))]
 refine aa (fun h=>?_) (fun h=>?_)
 ·rw [if_pos (Xo h)]
  repeat' (first | exact trivial | rfl | apply And.intro)
 rw [if_neg (fun z=>h (Xd z))]
 refine aa (fun h=>?_) (fun h=>?_)
 ·rw [if_pos (Xo h)]
  repeat' (first | exact trivial | rfl | apply And.intro)
 rw [if_neg (fun z=>h (Xd z))]
 refine aa (fun h=>?_) (fun h=>?_)
 ·rw [if_pos (Xo h)]
  repeat' (first | exact trivial | rfl | apply And.intro)
 rw [if_neg (fun z=>h (Xd z))]
 refine aa (fun h=>?_) (fun h=>?_)
 ·rw [if_pos (Xo h)]
  repeat' (first | exact trivial | rfl | apply And.intro)
 rw [if_neg (fun z=>h (Xd z))]
 repeat' (first | exact trivial | rfl | apply And.intro)
theorem CG (s:Nat) (sp:List Nam) (ho:sp.length *32<=140737488355328) :
  ∀(b:Bool),(b=true→List.length sp=(0:Nat))→if b=true then True/\List.length sp=(0:Nat)/\List.length sp=(0:Nat)/\s=s/\sp=sp/\List.length sp=(0:Nat)/\sp=[]/\True else ((List.length ([]:List Nam)=List.length ([]:List Nam)/\List.length ([]:List Nam)=List.length ([]:List Nam))/\(s=s/\List.length sp=List.length sp)/\(List.length ([]:List Nam)+List.length sp) *(32:Nat)<=(140737488355328:Nat))/\True/\List.length ([]:List Nam)+List.length sp=List.length sp/\List.length ([]++sp)=List.length sp/\s=s/\sp=sp/\List.length ([]:List Nam)+List.length sp=List.length sp/\[]++sp=sp/\True:=by
 intro b hb
 refine aa (fun h=>?_) (fun h=>?_)
 ·have e:=hb h
  have e':=List.eq_nil_of_length_eq_zero e
  exact ⟨trivial,e,e,rfl,rfl,e,e',trivial⟩
 ·simp only [List.length_nil,Nat.zero_add,List.nil_append]
  exact ⟨⟨⟨trivial,trivial⟩,⟨trivial,trivial⟩,ho⟩,by repeat' (first | exact trivial | rfl | apply And.intro)⟩
theorem EX (n s:Nat) (sp:List Nam) (x:CS) (nm:Str) (t:Trm) (ht:Wf (.st .term) t) (ho:CmO n (sp++[nm0 nm]) x t) :
  let A:=[{pkg:=[],name:=nm:Nam}];let B:=List.length x.1=List.length x.1;let C:=sp++A;let D:=List.length C=List.length C;let E:=List.length x.2=List.length x.2;let F:=(x.1,x.2);let G:=(↑(List.length C):Int);let H:=(1:Int);let I:=(2:Nat);let J:=aM n t C F;let K:=aM n t (sp++[nm0 nm]) x;let L:=List.length J.1=List.length K.1;let M:=s+List.length A+I*wN n t+(1:Nat)=s+I*(wN n t+(1:Nat));let N:=Int.toNat (G - H);let O:=List.length J.2=List.length K.2;((s=s/\List.length sp=List.length sp)/\(List.length sp+List.length A)*(32:Nat)<=(140737488355328:Nat))/\((B/\B/\B)/\(s+List.length A=s+List.length A/\D)/\(E/\E/\E)/\∀(q:Prop),some (CmO n C F t)=some q→q)/\inR IntKind.i64 (G - H)/\((s+List.length A+I*wN n t=s+List.length A+I*wN n t/\D)/\(0:Int)<=G - H/\G - H<=G)/\True/\L/\L/\M/\List.length (List.take N C)=List.length sp/\L/\J.1=K.1/\M/\List.take N C=sp/\O/\O/\O/\J.2=K.2/\True:=by
 conv=>zeta
 have e:({pkg:=[],name:=nm:Nam})=nm0 nm:=rfl
 simp only [e,E9,List.length_append,List.length_singleton]
 have i1:Int.toNat (((sp.length+1:Nat):Int) - 1)=sp.length:=by omega
 have h4:=ho.2.2.2.1
 have h0:=fA t
 rw [List.length_append,List.length_singleton] at h4
 simp only [i1,List.take_left]
 refine ⟨⟨?_,by omega⟩,⟨?_,?_,?_,fun q hq=>by cases hq;exact ho⟩,aq (by omega) (by omega),?_⟩ <;> repeat' (first | exact trivial | rfl | omega | apply And.intro)
theorem Gv (n s:Nat) (sp:List Nam) (x:CS) (l:List Trm) (hl:Wf (.lst (.st .term)) l) (ho:CmL n sp x l) :
  let A:=(2:Nat);let B:=wN n;let C:=aM n;let D:=(↑(List.length l):Int);let E:=List.length sp=List.length sp;let F:=dfl (Ty.st SN.term);let G:=ij C sp l x;(∃(x_1:Nat × Nat × CS),let H:=List.take x_1.1 l;let I:=List.length x.1=List.length x_1.2.2.1;let J:=s=x_1.2.1;let K:=List.length x.2=List.length x_1.2.2.2;(x_1.1<=List.length l/\x_1.2.1=s+A*kX B H/\x_1.2.2=ij C sp H x)/\(0:Int)=(↑x_1.1:Int)/\l=l/\D=D/\I/\I/\J/\E/\I/\x.1=x_1.2.2.1/\J/\sp=sp/\K/\K/\K/\x.2=x_1.2.2.2/\True)/\∀(x_1:Nat × Nat × CS),let H:=List.take x_1.1 l;let I:=(↑x_1.1:Int);let J:=List.length x_1.2.2.1=List.length x_1.2.2.1;let K:=List.length x_1.2.2.2=List.length x_1.2.2.2;let L:=(x_1.2.2.1,x_1.2.2.2);let M:=List.getD l (Int.toNat I) F;let N:=aM n M sp L;let O:=List.length x_1.2.2.1=List.length G.1;let P:=x_1.2.1=s+A*kX B l;let Q:=List.length x_1.2.2.2=List.length G.2;x_1.1<=List.length l/\x_1.2.1=s+A*kX B H/\x_1.2.2=ij C sp H x→if decide (I<D)=true then ((0:Int)<=I/\I<D)/\((J/\J/\J)/\(x_1.2.1=x_1.2.1/\E)/\(K/\K/\K)/\∀(q:Prop),some (CmO n sp L M)=some q→q)/\inR IntKind.i64 (I+(1:Int))/\∃(y:Nat × Nat × CS),let R:=List.take y.1 l;let S:=List.length N.1=List.length y.2.2.1;let T:=x_1.2.1+A*wN n M=y.2.1;let U:=List.length N.2=List.length y.2.2.2;(y.1<=List.length l/\y.2.1=s+A*kX B R/\y.2.2=ij C sp R x)/\List.length l - y.1<List.length l - x_1.1/\I+(1:Int)=(↑y.1:Int)/\l=l/\D=D/\S/\S/\T/\E/\S/\N.1=y.2.2.1/\T/\sp=sp/\U/\U/\U/\N.2=y.2.2.2/\True else True/\O/\O/\P/\E/\O/\x_1.2.2.1=G.1/\P/\sp=sp/\Q/\Q/\Q/\x_1.2.2.2=G.2/\True:=by
 conv=>zeta
 have d0:dfl (.st .term)=(default:Trm):=rfl
 have ln:=hl.len
 simp only [Int.toNat_natCast,d0,E9]
 refine ⟨⟨(0,s,x),⟨Nat.zero_le _,by simp [kX],rfl⟩,by repeat' (first | exact trivial | rfl | apply And.intro)⟩,?_⟩
 rintro ⟨i,s1,y⟩ ⟨i1,i2,i3⟩
 simp only at i1 i2 i3 ⊢
 refine aa (fun h=>?_) (fun h=>?_)
 ·replace h:=Xo h
  have h:i < l.length:=by omega
  have o:=ho.next h
  rw [←i3] at o
  have e2:s1+2 *wN n (l.getD i default)=s+2 *kX (wN n) (l.take (i+1)):=by rw [i2,w9 h,su];omega
  have e3:aM n (l.getD i default) sp y=ij (aM n) sp (l.take (i+1)) x:=by rw [w9 h,sq,i3]
  refine ⟨⟨by omega,by omega⟩,⟨?_,?_,?_,fun q hq=>by cases hq;exact o⟩,aq (by omega) (by omega),(i+1,s1+2 *wN n (l.getD i default),aM n (l.getD i default) sp y),⟨by simp only;omega,e2,e3⟩,by simp only;omega,?_⟩ <;> repeat' (first | exact trivial | rfl | omega | apply And.intro)
 ·have h:¬(i:Int) < (l.length:Int):=fun z=>h (Xd z)
  have e:l.take i=l:=List.take_of_length_le (by omega)
  rw [e] at i2 i3
  subst i2 i3
  repeat' (first | exact trivial | rfl | apply And.intro)
theorem Gw (n s:Nat) (sp:List Nam) (x:CS) (t:Trm) (ht:Wf (.st .term) t) (ho:CmK n 12 sp x t) :
  let A:=(0:Int);let B:=(↑(List.length t.parts):Int);let C:=List.length x.1=List.length x.1;let D:=List.length sp=List.length sp;let E:=List.length x.2=List.length x.2;let F:=(x.1,x.2);let G:=dfl (Ty.st SN.term);let H:=List.getD t.parts (Int.toNat A) G;let I:=aM n H sp F;let J:=List.length I.1=List.length I.1;let K:=[(AL.Opn.mk ((14:Int)) (A) ([]) ([]) ([]) (t.pos))];let L:=(140737488355328:Nat);let M:=(1:Int);let N:=I.1++K;let O:=List.length I.1+List.length K=List.length N;let P:=(2:Nat);let Q:=List.length I.2=List.length I.2;let R:=(I.1++K,I.2);let S:=List.getD t.parts (Int.toNat M) G;let T:=aM n S sp R;let U:=List.length T.1=List.length T.1;let V:=[(AL.Opn.mk ((15:Int)) (A) ([]) ([]) ([]) (t.pos))];let W:=List.length T.1+List.length V;let X:=List.length T.1+List.length V=List.length T.1+List.length V;let Y:=T.1++V;let Z:=List.length Y;let a:=List.length sp;let b:=AV.ptr (903:Nat) (0:Nat);let c:=(AV.agg [AV.glst W Z (901:Nat),AV.glst (s+P*wN n H+P*wN n S) a (902:Nat),b]);let d:=Ty.st SN.op;let e:=(↑(List.length I.1):Int);let f:=(↑(List.length K):Int);let g:=(2:Int);let h:=Int.toNat (e+f - M);let i:=List.getD Y h (dfl d);let j:=List.set Y h (AL.Opn.mk (i.kind) ((↑Z:Int)) (i.name) (i.names) (i.tos) (i.pos));let k:=List.length T.1+List.length V=List.length (j);let l:=List.length T.2=List.length T.2;let m:=List.getD t.parts (Int.toNat g) G;let o:=aM n m sp (j,T.2);let p:=List.length o.1=List.length o.1;let r:=List.length o.1;let u:=(AV.agg [AV.glst r r (901:Nat),AV.glst (s+P*wN n H+P*wN n S+P*wN n m) a (902:Nat),b]);let v:=(↑(List.length T.1):Int);let w:=(↑(List.length V):Int);let y:=qI (aM n) t sp x;let z:=List.length o.1=List.length y.1;let A0:=s+P*wN n H+P*wN n S+P*wN n m=s+P*wK n t;let A1:=Int.toNat (v+w - M);let A2:=List.getD o.1 A1 (dfl d);let A3:=List.length o.2=List.length y.2;(A<=A/\A<B)/\((C/\C/\C)/\(s=s/\D)/\(E/\E/\E)/\∀(q:Prop),some (CmO n sp F H)=some q→q)/\((J/\J)/\(List.length I.1+List.length K)*(88:Nat)<=L)/\(A<=M/\M<B)/\((O/\List.length N=List.length N/\O)/\(s+P*wN n H=s+P*wN n H/\D)/\(Q/\Q/\Q)/\∀(q:Prop),some (CmO n sp R S)=some q→q)/\((U/\U)/\W*(88:Nat)<=L)/\((X/\List.length Y=List.length Y)/\SObj.box c=SObj.box c/\SObj.grow d W Y=SObj.grow d W Y/\True)/\(A<=e+f - M/\e+f - M<(↑Z:Int))/\(X/\Int.toNat (e+f - M)<List.length Y)/\(A<=g/\g<B)/\((k/\List.length Y=List.length (j)/\k)/\(s+P*wN n H+P*wN n S=s+P*wN n H+P*wN n S/\D)/\(l/\l/\l)/\∀(q:Prop),some (CmO n sp (j,T.2) m)=some q→q)/\((p/\p)/\SObj.box u=SObj.box u/\SObj.grow d r o.1=SObj.grow d r o.1/\True)/\(A<=v+w - M/\v+w - M<(↑r:Int))/\(p/\Int.toNat (v+w - M)<List.length o.1)/\True/\z/\z/\A0/\D/\z/\List.set o.1 A1 (AL.Opn.mk (A2.kind) ((↑r:Int)) (A2.name) (A2.names) (A2.tos) (A2.pos))=y.1/\A0/\sp=sp/\A3/\A3/\A3/\o.2=y.2/\True:=by
 conv=>zeta
 obtain ⟨hk,ho⟩:=ho
 replace hk:t.kind=12:=hk
 have hc:=Aq (bM ho.2.1) hk
 have e0:=bw (l:=t.parts) (i:=0) (by omega)
 have e1:=bw (l:=t.parts) (i:=1) (by omega)
 have e2:=bw (l:=t.parts) (i:=2) (by omega)
 rw [List.drop_zero] at e0
 simp only [Nat.reduceAdd] at e0 e1 e2
 have d0:dfl (.st .term)=(default:Trm):=rfl
 have t0:Int.toNat 0=0:=rfl
 have t1:Int.toNat 1=1:=rfl
 have t2:Int.toNat 2=2:=rfl
 have hw:wK n t=wN n (t.parts.getD 0 default)+wN n (t.parts.getD 1 default)+wN n (t.parts.getD 2 default):=by unfold wK qJ;rw [if_neg (by omega),if_pos hk]
 simp only [d0,t0,t1,t2,E9,List.length_singleton,wb,hw,qI]
 have o0:CmO n sp x (t.parts.getD 0 default):=ho.part (by omega) (Bd.refl x) (by omega) (by omega) (by omega)
 have b0:=o0.here
 generalize aM n (t.parts.getD 0 default) sp x=y at *
 have a0:=b0.trans (Bd.app y [⟨14,0,[],[],[],t.pos⟩])
 have o1:CmO n sp (y.1++[⟨14,0,[],[],[],t.pos⟩],y.2) (t.parts.getD 1 default):=ho.part (by omega) a0 (by omega) (by simp only [List.length_singleton];omega) (by omega)
 have b1:=a0.trans o1.here
 have p1:=o1.here.1
 generalize aM n (t.parts.getD 1 default) sp (y.1++[⟨14,0,[],[],[],t.pos⟩],y.2)=z at *
 have i1:(y.1.length:Int)+((1:Nat):Int) - 1=y.1.length:=by omega
 have i2:(z.1.length:Int)+((1:Nat):Int) - 1=z.1.length:=by omega
 simp only [i1,i2]
 have a1:=b1.trans (Bd.app z [⟨15,0,[],[],[],t.pos⟩])
 have o2:CmO n sp (qH (z.1++[⟨15,0,[],[],[],t.pos⟩]) y.1.length (z.1++[(⟨15,0,[],[],[],t.pos⟩:Opn)]).length,z.2) (t.parts.getD 2 default):=by
  refine ho.part (c:=szT (t.parts.getD 0 default)+szT (t.parts.getD 1 default)) (e:=2) (by omega) ?_ (by omega) (by omega) (by omega)
  obtain ⟨a1,a2,a3,a4⟩:=a1
  simp only [List.length_singleton,Nat.add_zero,Nat.zero_add] at a1 a2 a3 a4
  refine ⟨?_,?_,a3,a4⟩ <;> simp only [fE] <;> omega
 have b2:=o2.here
 have r2:=o2.2.2.1
 obtain ⟨u1,u2,u3,u4⟩:=b2
 obtain ⟨v1,v2,v3,v4⟩:=b1
 obtain ⟨q1,q2,q3,q4⟩:=b0
 have rx:=ho.2.2.1
 rw [dY] at rx
 generalize hC:aM n (t.parts.getD 2 default) sp _=w at *
 simp only [fE,List.length_append,List.length_singleton] at r2 u1 u2 u3 u4 v1 v2 v3 v4 p1
 repeat' (first | exact trivial | omega | rfl | (intro q hq;cases hq;assumption) | (simp only [fE,List.length_append,List.length_singleton] <;> omega) | apply And.intro)
theorem Gx (n s:Nat) (sp:List Nam) (x:CS) (t:Trm) (ht:Wf (.st .term) t) (ho:CmK n 6 sp x t) :
  let A:=List.length x.2=List.length x.2;let B:=(↑(List.length t.names):Int);let C:=[{args:=B,ops:=[]:Chnk}];let D:=(32:Nat);let E:=(140737488355328:Nat);let F:=s=s;let G:=List.length sp=List.length sp;let H:=(0:Int);let I:=(↑(List.length x.2):Int);let J:=t.names=t.names;let K:=(0:Nat);let L:=K=K;let M:=den (Ty.st SN.op);let N:=ma M=ma M;let O:=List.length x.1=List.length x.1;let P:=List.length x.2+List.length C=List.length x.2+List.length C;let Q:=x.2++C;let R:=List.length Q=List.length Q;let S:=O/\O/\F/\G/\O/\x.1=x.1/\F/\sp=sp/\P/\R/\P/\x.2++C=x.2++C/\List.length C=List.length C/\True;let T:=dfl Ty.str;let U:=K=List.length ([]:List Opn);let V:=List.length x.2+List.length C=List.length Q;let W:=([],x.2++C);let X:=List.getD t.parts (Int.toNat H) (dfl (Ty.st SN.term));let Y:=kW (aM n) t sp x;let Z:=List.length x.1=List.length Y.1;((A/\A)/\(List.length x.2+List.length C)*D<=E)/\(((F/\G)/\List.length sp*D<=E)/\SObj.grow (Ty.st SN.nm) s sp=SObj.grow (Ty.st SN.nm) s sp/\True)/\(∃(x_1:Nat),let a:=List.length sp=List.length sp+x_1;x_1<=List.length t.names/\H=(↑x_1:Int)/\t=t/\H=H/\I=I/\J/\B=B/\L/\L/\a/\a/\L/\N/\a/\sp=sp++List.map nm0 (List.take x_1 t.names)/\S)/\∀(x_1:Nat),let a:=(↑x_1:Int);let b:=List.take x_1 t.names;let c:=sp++List.map nm0 b;let d:=List.length sp+x_1=List.length sp+x_1/\List.length sp+x_1=List.length c;let e:=[{pkg:=[],name:=List.getD t.names (Int.toNat a) T:Nam}];let f:=aM n X c W;let g:=List.length f.1=List.length f.1;let h:=List.length f.2=List.length Y.2;x_1<=List.length t.names→if decide (a<B)=true then (H<=a/\a<B)/\(d/\(List.length c+List.length e)*D<=E)/\inR IntKind.i64 (a+(1:Int))/\∃(y:Nat),let i:=List.length sp+x_1+List.length e=List.length sp+y;y<=List.length t.names/\List.length t.names - y<List.length t.names - x_1/\a+(1:Int)=(↑y:Int)/\t=t/\H=H/\I=I/\J/\B=B/\L/\L/\i/\List.length (sp++List.map nm0 b++e)=List.length sp+y/\L/\N/\i/\sp++List.map nm0 b++e=sp++List.map nm0 (List.take y t.names)/\S else (H<=H/\H<(↑(List.length t.parts):Int))/\((U/\U/\U)/\d/\(V/\R/\V)/\∀(q:Prop),some (CmO n c W X)=some q→q)/\((g/\g)/\True)/\(H<=I/\I<(↑(List.length f.2):Int))/\(List.length f.2=List.length f.2/\Int.toNat I<List.length f.2)/\True/\I=I/\Z/\Z/\F/\G/\Z/\x.1=Y.1/\F/\sp=sp/\h/\h/\h/\List.set f.2 (Int.toNat I) {args:=(List.getD f.2 (Int.toNat I) (dfl (Ty.st SN.chunk))).args,ops:=f.1:Chnk}=Y.2/\True:=by
 conv=>zeta
 obtain ⟨hk,ho⟩:=ho
 replace hk:t.kind=6:=hk
 have hc:=E8 (bM ho.2.1) hk
 have hn:=ic (bM ho.2.1)
 obtain ⟨h1,h2,h3,h4,h5⟩:=ho
 rw [dY] at h1 h3 h4 h5
 have d0:dfl (.st .term)=(default:Trm):=rfl
 have dS:dfl .str=(default:Str):=rfl
 have t0:Int.toNat 0=0:=rfl
 have eN:∀s,({pkg:=[],name:=s:Nam})=nm0 s:=fun _=>rfl
 simp only [d0,dS,eN,t0,List.length_singleton,Int.toNat_natCast,List.length_nil]
 have p0:=fB (ib (l:=t.parts) (i:=0) (by omega))
 have o0:CmO n (sp++t.names.map nm0) ([],x.2++[⟨t.names.length,[]⟩]) (t.parts.getD 0 default):=by
  refine ⟨by omega,j7 h2 (ib (by omega)),?_,?_,?_⟩ <;> simp only [List.length_nil,List.length_append,List.length_map,List.length_singleton] <;> omega
 have b0:=o0.here
 have hl:∀i,i<=t.names.length→(sp++List.map nm0 (t.names.take i)).length=sp.length+i:=fun i hi=>by simp only [List.length_append,List.length_map,List.length_take];omega
 refine ⟨⟨⟨trivial,trivial⟩,by omega⟩,⟨⟨⟨trivial,trivial⟩,by omega⟩,?_⟩,⟨0,Nat.zero_le _,?_⟩,?_⟩
 ·repeat' (first | exact trivial | rfl | apply And.intro)
 ·simp only [List.take_zero,List.map_nil,List.append_nil]
  repeat' (first | exact trivial | rfl | apply And.intro)
 intro i hi
 have hl':=hl i hi
 refine aa (fun h=>?_) (fun h=>?_)
 ·replace h:=Xo h
  have h:i < t.names.length:=by omega
  have e1:sp++List.map nm0 (t.names.take i)++[nm0 (t.names.getD i default)]=sp++List.map nm0 (t.names.take (i+1)):=by
   rw [w9 h,List.map_append,List.append_assoc];rfl
  rw [e1,hl',hl (i+1) h]
  refine ⟨⟨by omega,by omega⟩,⟨⟨trivial,by omega⟩,by omega⟩,aq (by omega) (by omega),i+1,h,by omega,?_⟩
  repeat' (first | exact trivial | omega | rfl | apply And.intro)
 ·have h:¬(i:Int) < (t.names.length:Int):=fun z=>h (Xd z)
  have e:t.names.take i=t.names:=List.take_of_length_le (by omega)
  rw [e] at hl' ⊢
  simp only [hl',kW]
  generalize aM n (t.parts.getD 0 default) (sp++t.names.map nm0) ([],x.2++[⟨t.names.length,[]⟩])=y at *
  obtain ⟨q1,q2,q3,q4⟩:=b0
  simp only [List.length_append,List.length_singleton] at q3
  repeat' (first | exact trivial | omega | rfl | (intro q hq;cases hq;assumption) | (simp only [List.length_append,List.length_singleton,List.length_set] <;> omega) | apply And.intro)
theorem Gy (n s:Nat) (sp:List Nam) (x:CS) (t:Trm) (ht:Wf (.st .term) t) (ho:CmK n 13 sp x t) :
  let A:=(0:Int);let B:=(↑(List.length t.parts):Int);let C:=List.length x.1=List.length x.1;let D:=List.length sp=List.length sp;let E:=List.length x.2=List.length x.2;let F:=(x.1,x.2);let G:=dfl (Ty.st SN.term);let H:=List.getD t.parts (Int.toNat A) G;let I:=(140737488355328:Nat);let J:=aM n H sp F;let K:=List.length J.1=List.length J.1;let L:=[(AL.Opn.mk ((16:Int)) (A) ([]) (t.names) ([]) (t.pos))];let M:=(2:Nat);let N:=(0:Nat);let O:=List.getD t.parts N default;let P:=aM n;let Q:=List.length t.names;let R:=vZ n t sp x;let S:=(↑(List.length J.1):Int);let T:=(↑(List.length L):Int);let U:=(1:Int);let V:=S+T - U=S+T - U;let W:=(↑Q:Int);let X:=sp=sp;let Y:=List.length L=List.length L/\True;let Z:=dfl Ty.str;let a:=[(AL.Opn.mk ((13:Int)) (U) ([]) ([]) ([]) (t.pos)),(AL.Opn.mk ((15:Int)) (A) ([]) ([]) ([]) (t.pos))];let b:=(↑(List.length a):Int);let c:=Int.toNat (S+T - U);let d:=Ty.st SN.op;let e:=dfl d;let f:=List.length sp;let g:=AV.ptr (903:Nat) N;let h:=dfl (Ty.int IntKind.i64);let i:=oq P t sp x;(A<=A/\A<B)/\((C/\C/\C)/\(s=s/\D)/\(E/\E/\E)/\∀(q:Prop),some (CmO n sp F H)=some q→q)/\(Nat.le (List.length t.names*(16:Nat)) I/\True)/\((K/\K)/\(List.length J.1+List.length L)*(88:Nat)<=I)/\(∃(x_1:Nat × Nat × List Int × List Int × CS),let j:=List.length J.1+List.length L=List.length x_1.2.2.2.2.1;let k:=s+M*wN n H=x_1.2.1;let l:=List.length J.2=List.length x_1.2.2.2.2.2;(x_1.1<=List.length t.names/\x_1.2.1=s+M*wN n O+M*ue (wN n) t x_1.1/\List.length x_1.2.2.1=x_1.1/\List.length x_1.2.2.2.1=x_1.1/\w8 n t sp x x_1.1 x_1.2.2.2.1 x_1.2.2.2.2/\iX P t sp (List.length t.names - x_1.1) x_1.1 x_1.2.2.1 x_1.2.2.2.1 x_1.2.2.2.2=iX P t sp Q N [] [] R)/\A=(↑x_1.1:Int)/\x_1.2.2.1=[]/\x_1.2.2.2.1=[]/\t=t/\V/\W=W/\List.length x_1.2.2.1=N/\List.length x_1.2.2.2.1=N/\j/\List.length (J.1++L)=List.length x_1.2.2.2.2.1/\k/\D/\j/\J.1++L=x_1.2.2.2.2.1/\k/\X/\l/\l/\l/\J.2=x_1.2.2.2.2.2/\Y)/\∀(x_1:Nat × Nat × List Int × List Int × CS),let j:=(↑x_1.1:Int);let k:=List.length x_1.2.2.2.2.1=List.length x_1.2.2.2.2.1;let l:=List.length x_1.2.2.1=List.length x_1.2.2.1;let m:=(↑(List.length x_1.2.2.2.2.1):Int);let o:=inR IntKind.i64 (j+U);let p:=x_1.2.1=x_1.2.1;let r:=List.length x_1.2.2.2.2.2=List.length x_1.2.2.2.2.2;let u:=sp++[nm0 (List.getD t.vars (Int.toNat j) Z)];let v:=(x_1.2.2.2.2.1,x_1.2.2.2.2.2);let w:=List.getD t.parts (Int.toNat (j+U)) G;let z:=aM n w u v;let A0:=List.length z.1=List.length z.1;let A1:=List.length x_1.2.2.2.1=List.length x_1.2.2.2.1;let A2:=[(↑(List.length z.1):Int)+b - U];let A3:=(wN n w+(1:Nat));let A4:=List.getD x_1.2.2.2.2.1 c e;let A5:=AL.Opn.mk (A4.kind) (A4.n) (A4.name) (A4.names) (x_1.2.2.1) (A4.pos);let A6:=List.set x_1.2.2.2.2.1 c A5;let A7:=(↑(List.length A6):Int);let A8:=x_1.2.2.1=x_1.2.2.1;let A9:=x_1.2.2.2.1=x_1.2.2.2.1;let B0:=(↑(List.length x_1.2.2.2.1):Int);let B1:=AV.glst x_1.2.1 f (902:Nat);let B2:=x_1.2.1=s+M*wK n t;x_1.1<=List.length t.names/\x_1.2.1=s+M*wN n O+M*ue (wN n) t x_1.1/\List.length x_1.2.2.1=x_1.1/\List.length x_1.2.2.2.1=x_1.1/\w8 n t sp x x_1.1 x_1.2.2.2.1 x_1.2.2.2.2/\iX P t sp (List.length t.names - x_1.1) x_1.1 x_1.2.2.1 x_1.2.2.2.1 x_1.2.2.2.2=iX P t sp Q N [] [] R→if decide (j<W)=true then (k/\k)/\(l/\(List.length x_1.2.2.1+List.length [m])*(8:Nat)<=I)/\(A<=j/\j<(↑(List.length t.vars):Int))/\o/\(A<=j+U/\j+U<B)/\((k/\k/\k)/\(p/\D)/\(r/\r/\r)/\∀(q:Prop),some (CmO n u v w)=some q→q)/\((A0/\A0)/\(List.length z.1+List.length a)*(88:Nat)<=I)/\(A1/\(List.length x_1.2.2.2.1+List.length A2)*(8:Nat)<=I)/\o/\∃(y:Nat × Nat × List Int × List Int × CS),let B3:=List.length z.1+List.length a=List.length y.2.2.2.2.1;let B4:=x_1.2.1+M*A3=y.2.1;let B5:=List.length z.2=List.length y.2.2.2.2.2;(y.1<=List.length t.names/\y.2.1=s+M*wN n O+M*ue (wN n) t y.1/\List.length y.2.2.1=y.1/\List.length y.2.2.2.1=y.1/\w8 n t sp x y.1 y.2.2.2.1 y.2.2.2.2/\iX P t sp (List.length t.names - y.1) y.1 y.2.2.1 y.2.2.2.1 y.2.2.2.2=iX P t sp Q N [] [] R)/\List.length t.names - y.1<List.length t.names - x_1.1/\j+U=(↑y.1:Int)/\x_1.2.2.1++[m]=y.2.2.1/\x_1.2.2.2.1++A2=y.2.2.2.1/\t=t/\V/\W=W/\List.length (x_1.2.2.1++[m])=List.length y.2.2.1/\List.length (x_1.2.2.2.1++A2)=List.length y.2.2.2.1/\B3/\List.length (z.1++a)=List.length y.2.2.2.2.1/\B4/\D/\B3/\z.1++a=y.2.2.2.2.1/\B4/\X/\B5/\B5/\B5/\z.2=y.2.2.2.2.2/\Y else (A<=S+T - U/\S+T - U<m)/\(k/\Int.toNat (S+T - U)<List.length x_1.2.2.2.2.1)/\(∃(x_2:Nat × CS),let B3:=List.length x_1.2.2.2.2.1=List.length x_2.2.1;let B4:=List.length x_1.2.2.2.2.2=List.length x_2.2.2;(x_2.1<=List.length x_1.2.2.2.1/\List.length x_2.2.1=List.length A6/\x_2.2.2=x_1.2.2.2.2.2/\eH A7 (List.drop x_2.1 x_1.2.2.2.1) x_2.2.1=eH A7 x_1.2.2.2.1 A6)/\A=(↑x_2.1:Int)/\j=j/\A8/\A9/\t=t/\V/\W=W/\false=false/\A9/\B0=B0/\B3/\B3/\p/\D/\B3/\List.set x_1.2.2.2.2.1 c A5=x_2.2.1/\p/\X/\B4/\B4/\B4/\x_1.2.2.2.2.2=x_2.2.2/\l/\A1/\Y)/\∀(x_2:Nat × CS),let B3:=(↑x_2.1:Int);let B4:=List.length x_2.2.1=List.length x_2.2.1;let B5:=List.length x_2.2.1;let B6:=(AV.agg [AV.glst B5 B5 (901:Nat),B1,g]);let B7:=Int.toNat B3;let B8:=List.getD x_1.2.2.2.1 B7 h;let B9:=List.getD x_2.2.1 (Int.toNat B8) e;let C0:=List.length x_2.2.1=List.length i.1;let C1:=List.length x_2.2.2=List.length i.2;x_2.1<=List.length x_1.2.2.2.1/\List.length x_2.2.1=List.length A6/\x_2.2.2=x_1.2.2.2.2.2/\
  eH A7 (List.drop x_2.1 x_1.2.2.2.1) x_2.2.1=eH A7 x_1.2.2.2.1 A6→if decide (B3<B0)=true then (A<=B3/\B3<B0)/\((B4/\B4)/\SObj.box B6=SObj.box B6/\SObj.grow d B5 x_2.2.1=SObj.grow d B5 x_2.2.1/\True)/\(A<=List.getD x_1.2.2.2.1 B7 h/\List.getD x_1.2.2.2.1 B7 h<(↑B5:Int))/\(B4/\Int.toNat B8<List.length x_2.2.1)/\inR IntKind.i64 (B3+U)/\∃(y:Nat × CS),let C2:=List.length x_2.2.1=List.length y.2.1;let C3:=List.length x_2.2.2=List.length y.2.2;(y.1<=List.length x_1.2.2.2.1/\List.length y.2.1=List.length A6/\y.2.2=x_1.2.2.2.2.2/\eH A7 (List.drop y.1 x_1.2.2.2.1) y.2.1=eH A7 x_1.2.2.2.1 A6)/\List.length x_1.2.2.2.1 - y.1<List.length x_1.2.2.2.1 - x_2.1/\B3+U=(↑y.1:Int)/\j=j/\A8/\A9/\t=t/\V/\W=W/\false=false/\A9/\B0=B0/\C2/\C2/\p/\D/\C2/\List.set x_2.2.1 (Int.toNat B8) (AL.Opn.mk (B9.kind) ((↑B5:Int)) (B9.name) (B9.names) (B9.tos) (B9.pos))=y.2.1/\p/\X/\C3/\C3/\C3/\x_2.2.2=y.2.2/\l/\A1/\Y else True/\C0/\C0/\B2/\D/\C0/\x_2.2.1=i.1/\B2/\X/\C1/\C1/\C1/\x_2.2.2=i.2/\True:=by
 conv=>zeta
 obtain ⟨hk,ho⟩:=ho
 replace hk:t.kind=13:=hk
 obtain ⟨hc,hv⟩:=mv (bM ho.2.1) hk
 have hn:=ic (bM ho.2.1)
 have d0:dfl (.st .term)=(default:Trm):=rfl
 have dS:dfl .str=(default:Str):=rfl
 have dI:dfl (.int .i64)=(default:Int):=rfl
 have t0:Int.toNat 0=0:=rfl
 have eI:∀i:Nat,Int.toNat ((i:Int)+1)=i+1:=fun i=>by omega
 have l2:∀a b:Opn,([a,b]:List Opn).length=2:=fun _ _=>rfl
 have e0:=bw (l:=t.parts) (i:=0) (by omega)
 rw [List.drop_zero] at e0
 have o0:CmO n sp x (t.parts.getD 0 default):=ho.part (by omega) (Bd.refl x) (by omega) (by omega) (by omega)
 have st:=yD ho hk
 have b0:=o0.here
 have ofm:=@G9 (aM n) t sp x
 have m0:vZ n t sp x=((aM n (t.parts.getD 0 default) sp x).1++[⟨16,0,[],t.names,[],t.pos⟩],(aM n (t.parts.getD 0 default) sp x).2):=rfl
 have w0:=Ic (n:=n) hk
 simp only [d0,dS,dI,t0,eI,l2,List.length_singleton,Int.toNat_natCast,E9,wb,BS,w0]
 have ml:(vZ n t sp x).1.length=(aM n (t.parts.getD 0 default) sp x).1.length+1:=by rw [m0,List.length_append,List.length_singleton]
 have rx:=ho.2.2.1
 rw [dY] at rx
 have i1:((aM n (t.parts.getD 0 default) sp x).1.length:Int)+((1:Nat):Int) - 1=(aM n (t.parts.getD 0 default) sp x).1.length:=by omega
 simp only [i1]
 rw [←m0] at ofm
 have b0':=b0.2.1
 refine ⟨⟨by omega,by omega⟩,⟨?_,?_,?_,fun q hq=>by cases hq;exact o0⟩,⟨by show t.names.length *16<=140737488355328;omega,trivial⟩,⟨⟨trivial,trivial⟩,by omega⟩,⟨(0,s+2 *wN n (t.parts.getD 0 default),[],[],vZ n t sp x),⟨Nat.zero_le _,rfl,rfl,rfl,st,rfl⟩,?_⟩,?_⟩
 ·repeat' (first | exact trivial | rfl | apply And.intro)
 ·repeat' (first | exact trivial | rfl | apply And.intro)
 ·repeat' (first | exact trivial | rfl | apply And.intro)
 ·rw [m0]
  repeat' (first | exact trivial | rfl | (simp only [List.length_append,List.length_singleton] <;> omega) | apply And.intro)
 rintro ⟨i,W,ts,js,z⟩ ⟨j1,j2,j3,j4,j5,j6⟩
 simp only at j1 j2 j3 j4 j5 j6 ⊢
 have u1:=j5.1
 have u2:=j5.2.2.1
 have u3:=j5.2.2.2
 refine aa (fun h=>?_) (fun h=>?_)
 ·replace h:=Xo h
  have h:i < t.names.length:=by omega
  have o1:=sx ho hk h j5 (nm0 (t.vars.getD i default))
  have nx:=BT ho hk h j5 (nm0 (t.vars.getD i default)) ⟨13,1,[],[],[],t.pos⟩ ⟨15,0,[],[],[],t.pos⟩
  have b1:=o1.here.1
  have b2:=nx.1
  have wn:=BU (wN n) t i
  obtain ⟨k,hk'⟩:∃k,t.names.length - i=k+1:=⟨t.names.length - i - 1,by omega⟩
  have j6':=j6
  rw [hk',iX] at j6'
  have hk2:t.names.length - (i+1)=k:=by omega
  rw [←hk2] at j6'
  have dV:t.vars.getD i []=t.vars.getD i default:=rfl
  simp only [dV] at j6'
  generalize aM n (t.parts.getD (i+1) default) (sp++[nm0 (t.vars.getD i default)]) z=y at *
  have i2:(y.1.length:Int)+((2:Nat):Int) - 1=(y.1.length:Int)+1:=by omega
  simp only [List.length_append,l2] at b2
  simp only [i2]
  refine ⟨?_,⟨trivial,?_⟩,⟨by omega,by omega⟩,aq (by omega) (by omega),⟨by omega,by omega⟩,⟨?_,?_,?_,fun q hq=>by cases hq;exact o1⟩,?_,⟨trivial,?_⟩,aq (by omega) (by omega),(i+1,W+2 *(wN n (t.parts.getD (i+1) default)+1),ts++[(z.1.length:Int)],js++[(y.1.length:Int)+1],(y.1++[⟨13,1,[],[],[],t.pos⟩,⟨15,0,[],[],[],t.pos⟩],y.2)),⟨h,by simp only;omega,by simp only [List.length_append,List.length_singleton];omega,by simp only [List.length_append,List.length_singleton];omega,nx,j6'⟩,by simp only;omega,?_⟩
  all_goals repeat' (first | exact trivial | omega | rfl | (simp only [List.length_append,List.length_singleton,l2] <;> omega) | apply And.intro)
 ·have h:¬(i:Int) < (t.names.length:Int):=fun z=>h (Xd z)
  have h:i=t.names.length:=by omega
  subst h
  rw [Nat.sub_self,iX] at j6
  have mt:=ofm j6.symm
  simp only [iZ,List.length_set]
  rw [mt]
  have yl:((aM n (t.parts.getD 0 default) sp x).1.length:Int) < (z.1.length:Int):=by omega
  refine ⟨⟨by omega,yl⟩,⟨?_,by omega⟩,⟨(0,so z.1 (aM n (t.parts.getD 0 default) sp x).1.length ts,z.2),⟨Nat.zero_le _,iZ _ _ _,rfl,rfl⟩,?_⟩,?_⟩
  ·repeat' (first | exact trivial | rfl | apply And.intro)
  ·simp only [iZ]
   repeat' (first | exact trivial | rfl | apply And.intro)
  rintro ⟨k,U⟩ ⟨k1,k2,k3,k4⟩
  simp only at k1 k2 k3 k4 ⊢
  refine aa (fun h=>?_) (fun h=>?_)
  ·replace h:=Xo h
   have h:k < js.length:=by omega
   obtain ⟨g1,g2⟩:=u3 _ (HA h)
   rw [Ie h,eH] at k4
   rw [k2]
   refine ⟨⟨by omega,by omega⟩,?_,⟨g1,g2⟩,⟨?_,by omega⟩,aq (by omega) (by omega),(k+1,(qH U.1 (js.getD k default) z.1.length,U.2)),⟨h,by rw [fE];exact k2,k3,k4⟩,by simp only;omega,?_⟩
   ·repeat' (first | exact trivial | rfl | apply And.intro)
   ·repeat' (first | exact trivial | rfl | apply And.intro)
   ·simp only [fE,k2]
    repeat' (first | exact trivial | omega | rfl | apply And.intro)
  ·have h:¬(k:Int) < (js.length:Int):=fun z=>h (Xd z)
   have e:js.drop k=[]:=List.drop_eq_nil_of_le (by omega)
   rw [e,eH] at k4
   obtain ⟨U1,U2⟩:=U
   simp only at k2 k3 k4
   subst k3
   rw [k4]
   simp only [lH,iZ]
   repeat' (first | exact trivial | omega | rfl | apply And.intro)
theorem EY (n s:Nat) (sp:List Nam) (x:CS) (t:Trm) (ht:Wf (.st .term) t) (ho:CmO (n+1) sp x t) :
  let A:=(1:Int);let B:=List.length x.1=List.length x.1;let C:=B/\B;let D:=t.pos;let E:=[(AL.Opn.mk (A) (t.n) ([]) ([]) ([]) D)];let F:=(88:Nat);let G:=(140737488355328:Nat);let H:=True;let I:=(n+(1:Nat));let J:=aM I t sp x;let K:=List.length x.1+List.length E=List.length J.1;let L:=(2:Nat);let M:=s=s+L*wN I t;let N:=List.length sp=List.length sp;let O:=sp=sp;let P:=List.length x.2=List.length J.2;let Q:=M/\O/\P/\P/\P/\x.2=J.2/\H;let R:=(0:Int);let S:=[(AL.Opn.mk ((2:Int)) (R) (t.name) ([]) ([]) D)];let T:=List.length x.1+List.length S=List.length J.1;let U:=[(AL.Opn.mk ((3:Int)) (A) ([]) ([]) ([]) D)];let V:=List.length x.1+List.length U=List.length J.1;let W:=[(AL.Opn.mk ((3:Int)) (R) ([]) ([]) ([]) D)];let X:=List.length x.1+List.length W=List.length J.1;let Y:=B/\B/\B;let Z:=s=s/\N;let a:=List.length x.2=List.length x.2;let b:=a/\a/\a;let c:=List.length x.1;let d:=(AV.agg [AV.glst c c (901:Nat),AV.glst s (List.length sp) (902:Nat),AV.ptr (903:Nat) (0:Nat)]);let e:=List.length x.2;let f:=(AV.glst e e (904:Nat));let g:=Ty.st SN.chunk;let h:=[kr sp t];let i:=List.length x.1+List.length h=List.length J.1;let j:=(x.1,x.2);let k:=aM n;let l:=kW k t sp j;let m:=List.length l.1=List.length l.1;let o:=[(AL.Opn.mk ((6:Int)) ((↑e:Int)) ([]) ([]) ([]) D)];let p:=List.length l.1+List.length o=List.length J.1;let r:=List.length l.2=List.length J.2;let u:=qI k t sp j;let v:=List.length u.1=List.length J.1;let w:=s+L*wK n t=s+L*wN I t;let y:=List.length u.2=List.length J.2;let z:=oq k t sp j;let A0:=List.length z.1=List.length J.1;let A1:=List.length z.2=List.length J.2;let A2:=(↑(List.length t.parts):Int);let A3:=dfl (Ty.st SN.term);let A4:=List.getD t.parts (Int.toNat R) A3;let A5:=aM n A4 sp j;let A6:=List.length A5.1=List.length A5.1;let A7:=[(AL.Opn.mk ((12:Int)) (R) ([]) ([]) ([]) D)];let A8:=A5.1++A7;let A9:=List.length A5.1+List.length A7=List.length A8;let B0:=List.length A5.2=List.length A5.2;let B1:=sp++[nm0 t.name];let B2:=(A5.1++A7,A5.2);let B3:=List.getD t.parts (Int.toNat A) A3;let B4:=aM n B3 B1 B2;let B5:=List.length B4.1=List.length B4.1;let B6:=[(AL.Opn.mk ((13:Int)) (A) ([]) ([]) ([]) D)];let B7:=List.length B4.1+List.length B6=List.length J.1;let B8:=s+L*wN n A4+L*(wN n B3+(1:Nat))=s+L*wN I t;let B9:=List.length B4.2=List.length J.2;let C0:=ij k sp t.parts j;let C1:=List.length C0.1=List.length C0.1;let C2:=[(iz t).1];let C3:=List.length C0.1+List.length C2=List.length J.1;let C4:=s+L*kX (wN n) t.parts=s+L*wN I t;let C5:=List.length C0.2=List.length J.2;let C6:=C4/\O/\C5/\C5/\C5/\C0.2=J.2/\H;let C7:=List.length C0.1=List.length J.1;if decide (t.kind=A)=true then (C/\(List.length x.1+List.length E)*F<=G)/\H/\K/\List.length (x.1++E)=List.length J.1/\M/\N/\K/\x.1++E=J.1/\Q else if decide (t.kind=(2:Int))=true then (C/\(List.length x.1+List.length S)*F<=G)/\H/\T/\List.length (x.1++S)=List.length J.1/\M/\N/\T/\x.1++S=J.1/\Q else if decide (t.kind=(3:Int))=true then (C/\(List.length x.1+List.length U)*F<=G)/\H/\V/\List.length (x.1++U)=List.length J.1/\M/\N/\V/\x.1++U=J.1/\Q else if decide (t.kind=(4:Int))=true then (C/\(List.length x.1+List.length W)*F<=G)/\H/\X/\List.length (x.1++W)=List.length J.1/\M/\N/\X/\x.1++W=J.1/\Q else if decide (t.kind=(5:Int))=true then ((Y/\Z/\b/\∀(q:Prop),some (List.length sp<=(9223372036854775807:Nat))=some q→q)/\SObj.box d=SObj.box d/\SObj.grow (Ty.st SN.op) c x.1=SObj.grow (Ty.st SN.op) c x.1/\SObj.grow (Ty.st SN.nm) s sp=SObj.grow (Ty.st SN.nm) s sp/\SObj.box f=SObj.box f/\SObj.grow g e x.2=SObj.grow g e x.2/\H)/\(C/\(List.length x.1+List.length h)*F<=G)/\H/\i/\List.length (x.1++h)=List.length J.1/\M/\N/\i/\x.1++h=J.1/\Q else if decide (t.kind=(6:Int))=true then (Y/\Z/\b/\∀(q:Prop),some (CmK n (6:Nat) sp j t)=some q→q)/\((m/\m)/\(List.length l.1+List.length o)*F<=G)/\H/\p/\List.length (l.1++o)=List.length J.1/\M/\N/\p/\l.1++o=J.1/\M/\O/\r/\r/\r/\l.2=J.2/\H else if decide (t.kind=(12:Int))=true then (Y/\Z/\b/\∀(q:Prop),some (CmK n (12:Nat) sp j t)=some q→q)/\H/\v/\v/\w/\N/\v/\u.1=J.1/\w/\O/\y/\y/\y/\u.2=J.2/\H else if decide (t.kind=(13:Int))=true then (Y/\Z/\b/\∀(q:Prop),some (CmK n (13:Nat) sp j t)=some q→q)/\H/\A0/\A0/\w/\N/\A0/\z.1=J.1/\w/\O/\A1/\A1/\A1/\z.2=J.2/\H else if decide (t.kind=(14:Int))=true then (R<=R/\R<A2)/\(Y/\Z/\b/\∀(q:Prop),some (CmO n sp j A4)=some q→q)/\((A6/\A6)/\(List.length A5.1+List.length A7)*F<=G)/\(R<=A/\A<A2)/\((A9/\List.length A8=List.length A8/\A9)/\(s+L*wN n A4=s+L*wN n A4/\N)/\(B0/\B0/\B0)/\∀(q:Prop),some (CmO n B1 B2 B3)=some q→q)/\((B5/\B5)/\(List.length B4.1+List.length B6)*F<=G)/\H/\B7/\List.length (B4.1++B6)=List.length J.1/\B8/\N/\B7/\B4.1++B6=J.1/\B8/\O/\B9/\B9/\B9/\B4.2=J.2/\H else (Y/\Z/\b/\∀(q:Prop),some (CmL n sp j t.parts)=some q→q)/\List.length t.names*(16:Nat)<=G/\if (iz t).2=true then ((C1/\C1)/\(List.length C0.1+List.length C2)*F<=G)/\H/\C3/\List.length (C0.1++C2)=List.length J.1/\C4/\N/\C3/\C0.1++C2=J.1/\C6 else H/\C7/\C7/\C4/\N/\C7/\C0.1=J.1/\C6:=by
 conv=>zeta
 have d0:dfl (.st .term)=(default:Trm):=rfl
 have t0:Int.toNat 0=0:=rfl
 have t1:Int.toNat 1=1:=rfl
 have hz1:=fA t
 obtain ⟨h1,h2,h3,h4,h5⟩:=id ho
 have nm:=ic (bM h2)
 have es:=dY t
 simp only [d0,t0,t1,E9,List.length_singleton]
 refine aa (fun h=>?_) (fun h=>?_)
 ·replace h:t.kind=1:=Xo h
  have w:wN (n+1) t=0:=nr (by omega)
  rw [Ig sp x h,w]
  repeat' (first | exact trivial | omega | rfl | (simp only [List.length_append,List.length_singleton] <;> omega) | apply And.intro)
 replace h:¬t.kind=1:=fun z=>h (Xd z)
 have n1:=h
 refine aa (fun h=>?_) (fun h=>?_)
 ·replace h:t.kind=2:=Xo h
  have w:wN (n+1) t=0:=nr (by omega)
  rw [Ih sp x h,w]
  repeat' (first | exact trivial | omega | rfl | (simp only [List.length_append,List.length_singleton] <;> omega) | apply And.intro)
 replace h:¬t.kind=2:=fun z=>h (Xd z)
 have n2:=h
 refine aa (fun h=>?_) (fun h=>?_)
 ·replace h:t.kind=3:=Xo h
  have w:wN (n+1) t=0:=nr (by omega)
  rw [Ii sp x h,w]
  repeat' (first | exact trivial | omega | rfl | (simp only [List.length_append,List.length_singleton] <;> omega) | apply And.intro)
 replace h:¬t.kind=3:=fun z=>h (Xd z)
 have n3:=h
 refine aa (fun h=>?_) (fun h=>?_)
 ·replace h:t.kind=4:=Xo h
  have w:wN (n+1) t=0:=nr (by omega)
  rw [Ij sp x h,w]
  repeat' (first | exact trivial | omega | rfl | (simp only [List.length_append,List.length_singleton] <;> omega) | apply And.intro)
 replace h:¬t.kind=4:=fun z=>h (Xd z)
 have n4:=h
 refine aa (fun h=>?_) (fun h=>?_)
 ·replace h:t.kind=5:=Xo h
  have w:wN (n+1) t=0:=nr (by omega)
  rw [Ik sp x h,w]
  have ls:sp.length<=9223372036854775807:=by omega
  repeat' (first | exact trivial | omega | rfl | (intro q hq;cases hq;assumption) | (simp only [List.length_append,List.length_singleton] <;> omega) | apply And.intro)
 replace h:¬t.kind=5:=fun z=>h (Xd z)
 have n5:=h
 refine aa (fun h=>?_) (fun h=>?_)
 ·replace h:t.kind=6:=Xo h
  have w:wN (n+1) t=0:=nr (by omega)
  rw [Il sp x h,w]
  have f1:=(As (mw n) (by omega) h2 h sp x).1
  have ls:CmK n 6 sp x t:=⟨h,ho⟩
  simp only [f1]
  repeat' (first | exact trivial | omega | rfl | (intro q hq;cases hq;assumption) | (simp only [List.length_append,List.length_singleton] <;> omega) | apply And.intro)
 replace h:¬t.kind=6:=fun z=>h (Xd z)
 have n6:=h
 refine aa (fun h=>?_) (fun h=>?_)
 ·replace h:t.kind=12:=Xo h
  have w:wN (n+1) t=wK n t:=rfl
  rw [HB sp x h,w]
  have ls:CmK n 12 sp x t:=⟨h,ho⟩
  repeat' (first | exact trivial | rfl | (intro q hq;cases hq;assumption) | apply And.intro)
 replace h:¬t.kind=12:=fun z=>h (Xd z)
 have n7:=h
 refine aa (fun h=>?_) (fun h=>?_)
 ·replace h:t.kind=13:=Xo h
  have w:wN (n+1) t=wK n t:=rfl
  rw [HC sp x h,w]
  have ls:CmK n 13 sp x t:=⟨h,ho⟩
  repeat' (first | exact trivial | rfl | (intro q hq;cases hq;assumption) | apply And.intro)
 replace h:¬t.kind=13:=fun z=>h (Xd z)
 have n8:=h
 refine aa (fun h=>?_) (fun h=>?_)
 ·replace h:t.kind=14:=Xo h
  have hc:=Ar (bM h2) h
  have w:=w_14 (n:=n) h
  rw [HD sp x h,w]
  have e0:=bw (l:=t.parts) (i:=0) (by omega)
  have e1:=bw (l:=t.parts) (i:=1) (by omega)
  rw [List.drop_zero] at e0
  simp only [Nat.reduceAdd] at e0 e1
  have o0:CmO n sp x (t.parts.getD 0 default):=ho.part (by omega) (Bd.refl x) (by omega) (by omega) (by omega)
  have b0:=o0.here
  simp only [yA]
  generalize aM n (t.parts.getD 0 default) sp x=y at *
  have a0:=b0.trans (Bd.app y [⟨12,0,[],[],[],t.pos⟩])
  have o1:CmO n (sp++[nm0 t.name]) (y.1++[⟨12,0,[],[],[],t.pos⟩],y.2) (t.parts.getD 1 default):=ho.part (by omega) a0 (by omega) (by simp only [List.length_singleton];omega) (by simp only [List.length_append,List.length_singleton];omega)
  have b1:=a0.trans o1.here
  generalize aM n (t.parts.getD 1 default) (sp++[nm0 t.name]) (y.1++[⟨12,0,[],[],[],t.pos⟩],y.2)=z at *
  obtain ⟨q1,q2,q3,q4⟩:=b0
  obtain ⟨r1,r2,r3,r4⟩:=b1
  simp only [List.length_singleton] at r2
  repeat' (first | exact trivial | omega | rfl | (intro q hq;cases hq;assumption) | (simp only [List.length_append,List.length_singleton] <;> omega) | apply And.intro)
 replace h:¬t.kind=14:=fun z=>h (Xd z)
 have hr:¬t.kind=1/\¬t.kind=2/\¬t.kind=3/\¬t.kind=4/\¬t.kind=5/\¬t.kind=6/\¬t.kind=12/\¬t.kind=13/\¬t.kind=14:=⟨n1,n2,n3,n4,n5,n6,n7,n8,h⟩
 have w:=w_r (n:=n) hr
 rw [Im sp x hr,w]
 have ol:=ho.parts
 have b0:=oL (mw n) sp t.parts x (by omega) (qK h2)
 unfold vY
 generalize ij (aM n) sp t.parts x=y at *
 obtain ⟨q1,q2,q3,q4⟩:=b0
 refine ⟨⟨?_,?_,?_,fun q hq=>by cases hq;exact ol⟩,by omega,aa (fun h=>?_) (fun h=>?_)⟩
 ·repeat' (first | exact trivial | rfl | apply And.intro)
 ·repeat' (first | exact trivial | rfl | apply And.intro)
 ·repeat' (first | exact trivial | rfl | apply And.intro)
 ·simp only [if_pos h]
  repeat' (first | exact trivial | omega | rfl | (simp only [List.length_append,List.length_singleton] <;> omega) | apply And.intro)
 ·simp only [if_neg h]
  repeat' (first | exact trivial | omega | rfl | apply And.intro)
theorem Gz (n:Nat) (t:Trm) (l:List Bndg) (ht:Wf (.st .term) t) (hl:Wf (.lst (.st .bind)) l) (ho:yC n t l) :
  let A:=(0:Int);let B:=True;let C:=if cw t≠A then [] else yB n t l;let D:=cw t=cw t;let E:=(↑(List.length l):Int);let F:=(0:Nat);let G:=F=F;let H:=den (Ty.st SN.op);let I:=ma H=ma H;let J:=[{args:=A,ops:=[]:Chnk}];let K:=List.length J=List.length J;let L:=t=t/\K/\J=J/\K/\K/\B;let M:=dfl (Ty.st SN.bind);let N:=F=List.length ([]:List Opn);let O:=([],J);let P:=Int.toNat A;let Q:=dfl (Ty.st SN.chunk);cv t=true/\if (!decide (cw t=A))=true then B/\(C)=[]/\D/\B else (∃(x:Nat),x<=List.length l/\A=(↑x:Int)/\t=t/\l=l/\A=A/\D/\false=false/\l=l/\E=E/\G/\G/\x=F/\x=F/\G/\I/\x=F/\List.map nmB (List.take x l)=[]/\L)/\∀(x:Nat),let R:=(↑x:Int);let S:=List.take x l;let T:=List.map nmB S;let U:=x=x/\x=List.length T;let V:=List.getD l (Int.toNat R) M;let W:=[{pkg:=V.pkg,name:=V.name:Nam}];let X:=aM n t T O;let Y:=List.length X.1=List.length X.1;let Z:=List.length X.2=List.length X.2;x<=List.length l→if decide (R<E)=true then (A<=R/\R<E)/\(U/\(List.length T+List.length W)*(32:Nat)<=(140737488355328:Nat))/\inR IntKind.i64 (R+(1:Int))/\∃(y:Nat),let a:=x+List.length W=y;y<=List.length l/\List.length l - y<List.length l - x/\R+(1:Int)=(↑y:Int)/\t=t/\l=l/\A=A/\D/\false=false/\l=l/\E=E/\G/\G/\a/\List.length (List.map nmB S++W)=y/\G/\I/\a/\List.map nmB S++W=List.map nmB (List.take y l)/\L else ((N/\N/\N)/\U/\(K/\K/\K)/\∀(q:Prop),some (CmO n T O t)=some q→q)/\((Y/\Y)/\B)/\(A<=A/\A<(↑(List.length X.2):Int))/\(Z/\Int.toNat A<List.length X.2)/\((Z/\List.length X.2=List.length (List.set X.2 P {args:=(List.getD X.2 P Q).args,ops:=X.1:Chnk}))/\B)/\B/\(List.set X.2 P {args:=(List.getD X.2 P Q).args,ops:=X.1:Chnk}=C)/\A=cw t/\B:=by
 conv=>zeta
 obtain ⟨hf,hn,hc⟩:=ho
 refine ⟨hf,aa (fun h=>?_) (fun h=>?_)⟩
 ·have h:cw t≠0:=by simpa using h
  rw [if_pos h]
  repeat' (first | exact trivial | rfl | apply And.intro)
 have h:cw t=0:=by simpa using h
 have o:=hc h
 rw [if_neg (fun z=>z h),h]
 have dB:dfl (.st .bind)=(default:Bndg):=rfl
 have t0:Int.toNat 0=0:=rfl
 have eN:∀b:Bndg,({pkg:=b.pkg,name:=b.name:Nam})=nmB b:=fun _=>rfl
 have eC:[({args:=0,ops:=[]}:Chnk)]=ch0:=rfl
 simp only [dB,t0,eN,eC,List.length_singleton,Int.toNat_natCast,List.length_nil]
 have hl:∀i,i<=l.length→(List.map nmB (l.take i)).length=i:=fun i hi=>by simp only [List.length_map,List.length_take];omega
 refine ⟨⟨0,Nat.zero_le _,?_⟩,?_⟩
 ·repeat' (first | exact trivial | rfl | apply And.intro)
 intro i hi
 have hl':=hl i hi
 refine aa (fun h=>?_) (fun h=>?_)
 ·replace h:=Xo h
  have h:i < l.length:=by omega
  have e1:List.map nmB (l.take i)++[nmB (l.getD i default)]=List.map nmB (l.take (i+1)):=by rw [w9 h,List.map_append];rfl
  rw [e1,hl',hl (i+1) h]
  refine ⟨⟨by omega,by omega⟩,⟨⟨by first | exact trivial | rfl,by first | exact trivial | rfl⟩,by omega⟩,aq (by omega) (by omega),i+1,h,by omega,?_⟩
  repeat' (first | exact trivial | omega | rfl | apply And.intro)
 ·have h:¬(i:Int) < (l.length:Int):=fun z=>h (Xd z)
  have e:l.take i=l:=List.take_of_length_le (by omega)
  rw [e] at hl' ⊢
  have b:=o.here
  unfold yB
  generalize aM n t (l.map nmB) ([],ch0)=y at *
  obtain ⟨q1,q2,q3,q4⟩:=b
  have c1:ch0.length=1:=rfl
  simp only [c1] at q3
  simp only [List.length_set]
  repeat' (first | exact trivial | omega | rfl | (intro q hq;cases hq;assumption) | apply And.intro)
theorem EZ (l:List Bndg) (hl:Wf (.lst (.st .bind)) l) :
  True/\decide ((↑(List.length l):Int)<=(100:Int))=decide (List.length l<=(100:Nat))/\True:=by
 refine ⟨trivial,?_,trivial⟩
 exact decide_eq_decide.2 (by omega)
theorem wT (n:Nat) (t:Trm) (b:Bndg) (ht:Wf (.st .term) t) (hz:szT t<=n+1) :
  let A:=True;let B:=t=t/\b=b/\t=t/\b=b/\A;let C:=(↑(List.length t.parts):Int);let D:=dfl (Ty.st SN.term);let E:=A/\false=stC b t/\A;(∃(x:Nat),(x<=List.length t.parts/\stCL b t.parts=stCL b (List.drop x t.parts))/\(0:Int)=(↑x:Int)/\B)/\∀(x:Nat),let F:=(↑x:Int);let G:=List.getD t.parts (Int.toNat F) D;x<=List.length t.parts/\stCL b t.parts=stCL b (List.drop x t.parts)→if decide (F<C)=true then ((0:Int)<=F/\F<C)/\szT G<=n/\if stC b G=true then A/\true=stC b t/\A else inR IntKind.i64 (F+(1:Int))/\∃(y:Nat),(y<=List.length t.parts/\stCL b t.parts=stCL b (List.drop y t.parts))/\List.length t.parts - y<List.length t.parts - x/\F+(1:Int)=(↑y:Int)/\B else if decide (t.kind=(5:Int))=true then if decide (t.pkg=b.pkg)=true then A/\decide (t.name=b.name)=stC b t/\A else E else E:=by
 conv=>zeta
 have ln:=ht.term_parts.len
 have hz0:=dY t
 simp only [Int.toNat_natCast,eq_self,true_and,and_true]
 rw [qL]
 refine ⟨⟨0,⟨Nat.zero_le _,by rw [List.drop_zero]⟩,rfl⟩,?_⟩
 rintro k ⟨h1,h2⟩
 refine aa (fun h=>?_) (fun h=>?_)
 ·replace h:=Xo h
  have hk:k < t.parts.length:=by omega
  have m:=fB (eo t.parts k (dfl (.st .term)) hk)
  rw [bp t.parts k (dfl (.st .term)) hk] at h2
  simp only [stCL] at h2
  refine ⟨by omega,by omega,aa (fun f=>?_) (fun f=>?_)⟩
  ·rw [h2,f];rfl
  ·have f:stC b (t.parts.getD k (dfl (.st .term)))=false:=by simpa only [Bool.not_eq_true] using f
   rw [f,Bool.false_or] at h2
   exact ⟨du hk ln,k+1,⟨by omega,h2⟩,by omega,by omega⟩
 ·have e:k=t.parts.length:=by
   have:¬((k:Int) < (t.parts.length:Int)):=fun e=>h (Xd e)
   omega
  subst e
  rw [List.drop_length] at h2
  simp only [stCL] at h2
  rw [h2,Bool.false_or]
  refine aa (fun c5=>aa (fun cp=>?_) (fun cp=>?_)) (fun c5=>?_)
  ·rw [c5,cp];rfl
  ·rw [Bool.eq_false_iff.2 cp,Bool.and_false];rfl
  ·rw [Bool.eq_false_iff.2 c5];rfl
theorem CH (n:Nat) (s:Trm) (m:Int) (hs:Wf (.st .term) s) (ho:szT s<=n+1/\0<=m/\m<=1000000) :
  let A:=(1:Int);let B:=(0:Int);let C:=s=s/\m=m/\B=B/\s=s/\True;let D:=(↑(List.length s.parts):Int);let E:=dfl (Ty.st SN.term);(∃(x:Nat × Int),(x.1<=List.length s.parts/\A<=x.2/\x.2<=m+A/\szcTL (List.drop x.1 s.parts) x.2 m=szcT s m)/\A=x.2/\B=(↑x.1:Int)/\C)/\∀(x:Nat × Int),let F:=(↑x.1:Int);let G:=m - x.2;let H:=List.getD s.parts (Int.toNat F) E;let I:=True/\x.2=szcT s m/\True;x.1<=List.length s.parts/\A<=x.2/\x.2<=m+A/\szcTL (List.drop x.1 s.parts) x.2 m=szcT s m→if decide (F<D)=true then if decide (x.2<=m)=true then (B<=F/\F<D)/\inR IntKind.i64 G/\(szT H<=n/\B<=m - x.2/\m - x.2<=(1000000:Int))/\inR IntKind.i64 (x.2+szcT H G)/\inR IntKind.i64 (F+A)/\∃(y:Nat × Int),(y.1<=List.length s.parts/\A<=y.2/\y.2<=m+A/\szcTL (List.drop y.1 s.parts) y.2 m=szcT s m)/\List.length s.parts - y.1<List.length s.parts - x.1/\x.2+szcT H G=y.2/\F+A=(↑y.1:Int)/\C else I else I:=by
 conv=>zeta
 have ln:=hs.term_parts.len
 have hz:=dY s
 obtain ⟨ho1,ho2,ho3⟩:=ho
 have h0:szcTL s.parts 1 m=szcT s m:=by cases s;rw [szcT]
 simp only [Int.toNat_natCast,eq_self,true_and,and_true]
 refine ⟨⟨(0,1),⟨Nat.zero_le _,by omega,by omega,h0⟩,rfl,rfl⟩,?_⟩
 rintro ⟨k,c⟩ ⟨h1,h2,h3,h4⟩
 simp only at h1 h2 h3 h4 ⊢
 refine aa (fun hk=>?_) (fun hk=>?_)
 ·replace hk:=Xo hk
  have hk:k < s.parts.length:=by omega
  have hm:=fB (eo s.parts k (dfl (.st .term)) hk)
  rw [bp s.parts k (dfl (.st .term)) hk] at h4
  simp only [szcTL] at h4
  refine aa (fun hc=>?_) (fun hc=>?_)
  ·replace hc:=Xo hc
   rw [if_pos hc] at h4
   have hb:=szcT_bd (s.parts.getD k (dfl (.st .term))) (m - c) (by omega)
   exact ⟨by omega,aq (by omega) (by omega),by omega,aq (by omega) (by omega),du hk ln,(k+1,_),⟨by omega,by simp only;omega,by simp only;omega,h4⟩,by simp only;omega,rfl,rfl⟩
  ·rw [if_neg (fun e=>hc (Xd e))] at h4
   exact h4
 ·replace hk:¬((k:Int) < (s.parts.length:Int)):=fun e=>hk (Xd e)
  have e:k=s.parts.length:=by omega
  subst e
  rw [List.drop_length] at h4
  simp only [szcTL] at h4
  exact h4
theorem rM (C:Trm→List Bndg→List Chnk × Int) (O:Trm→List Bndg→Prop) (S:List Chnk→List Chnk→Bool) (t:Trm) (l:List Bndg) (b:Bndg) (ht:Wf (.st .term) t) (hS:∀l,S l l=true) (hm:szcT t 500<=500→l.length<=100→stC b t=false→O t l/\O t (b ::l)/\C t (b ::l)=C t l) :
  let A:=szT t<=szT t;let B:=(500:Int);let D:=True/\true=true/\True;let E:=C t ([b]++l);let F:=True/\false=true/\True;(A/\(0:Int)<=B/\B<=(1000000:Int))/\if decide (B<szcT t B)=true then D else if (!decide (List.length l<=(100:Nat)))=true then D else A/\if stC b t=true then D else O t l/\(List.length [b]=List.length [b]/\(List.length [b]+List.length l)*(120:Nat)<=(140737488355328:Nat))/\O t ([b]++l)/\if decide ((C t l).2=E.2)=true then if S (C t l).1 E.1=true then D else F else F:=by
 conv=>zeta
 refine ⟨⟨Nat.le_refl _,by decide,by decide⟩,aa (fun _=>⟨trivial,rfl,trivial⟩) (fun a=>aa (fun _=>⟨trivial,rfl,trivial⟩) (fun c=>⟨Nat.le_refl _,aa (fun _=>⟨trivial,rfl,trivial⟩) (fun d=>?_)⟩))⟩
 have a:szcT t 500<=500:=Int.not_lt.1 fun z=>a (Xd z)
 have c:l.length<=100:=by simpa using c
 have d:stC b t=false:=by simpa using d
 obtain ⟨o1,o2,e⟩:=hm a c d
 rw [show [b]++l=b ::l from rfl,e]
 refine ⟨o1,⟨by repeat' (first | exact trivial | rfl | apply And.intro),by simp only [List.length_singleton];omega⟩,o2,aa (fun _=>aa (fun _=>⟨trivial,rfl,trivial⟩) (fun z=>absurd (hS _) z)) (fun z=>absurd (Xd rfl) z)⟩
end Go.AL.Seat
end
section
open Go Go.AL Go.Proofs Go.Shelf Go.Pd
namespace Go.AL.Seat
variable [Tabs]
variable [SeatLaid]
theorem CI:ag Tryz.prog 230 (p1 .str fun s=>.ret (.bool (lC s))):=
 bK (ee Tryz.func230) fun s _ _=>g0 sn a0 Tryz.func230 (EL s)
theorem CJ:ag Tryz.prog 229 (p1 (.st .shape) fun s=>⟨some (s.parts.length *16<=140737488355328),none,.bool (ez s),[]⟩):=
 bK (ee Tryz.func229) fun s hs ho=>g0 (sc ie (sc lI (sc (lE) (sc (kn) sn)))) ⟨[(4,fun S0=>⟨Nat,fun k=>k<=s.names.length/\s.names.length=s.parts.length/\ez s=(((s.names.drop k).all aH) && decide s.names.Nodup),fun k=>[(16,.int .i64 k)],fun _=>[],fun k=>s.names.length - k⟩)],[],[]⟩ Tryz.func229 (EM s hs (ho _ rfl))
theorem F0:ag Tryz.prog 199 (p1 (.st .shape) fun s=>⟨some (s.parts.length *16<=140737488355328),none,.bool (cG s),[]⟩):=
 bK (ee Tryz.func199) fun s hs ho=>g0 (sc CJ (sc kS (sc ie (sc CI sn)))) a0 Tryz.func199 (Gq s hs (ho _ rfl))
theorem qZ:ax Tryz.prog 198:=ee Tryz.func198
theorem rN (n:Nat) (s:AL.Shape) (hs:Wf (.st .shape) s) (hn:sz s<=n+1) (hb:n<=1000000) (hA:ag Tryz.prog 198 (pf (.st .shape) 199 fun s=>⟨some (sz s<=n),none,.bool (allS cG s),[]⟩)):aD Tryz.prog 198 [.st .shape s,.fn 199 []] [] (.ret (.bool (allS cG s))):=
 g0 (sc F0 (sc (hA) sn)) ⟨[(4,fun S0=>⟨Nat,fun k=>k<=s.parts.length/\allS cG s=allL cG (s.parts.drop k),fun k=>[(14,.int .i64 k)],fun _=>[],fun k=>s.parts.length - k⟩)],[],[]⟩ Tryz.func198 (zb n s hs hn hb)
theorem wU:∀n:Nat,n<=1000000→ag Tryz.prog 198 (pf (.st .shape) 199 fun s=>⟨some (sz s<=n),none,.bool (allS cG s),[]⟩):=by
 intro n
 induction n with
 | zero=>exact fun _=>nQ qZ fun a hs ho=>absurd (ho _ rfl) (by have:=qm a;omega)
 | succ n ih=>exact fun hb=>nQ qZ fun a hs ho=>rN n a hs (ho _ rfl) (by omega) (ih (by omega))
theorem F1:ag Tryz.prog 228 (tW 268):=
 yj (ee Tryz.func228) fun c hc=>g0 sn a0 Tryz.func228 (Gr c hc)
theorem AI:ax Tryz.prog 227:=ee Tryz.func227
theorem zj (n:Nat) (s:AL.Shape) (l c:Int) (hs:Wf (.st .shape) s) (hn:sz s<=n+1) (hc:0<=c/\c<=400/\1<=l/\l<=c+1) (hA:ag Tryz.prog 227 (oI 268 228 n)):aD Tryz.prog 227 [.st .shape s,.int .i64 l,.fn 228 [.ptr 900 0]] [(900,.box (.int .i64 c))] (DD 268 s l c (sz s<=n+1)):=
 g0 (sc F1 (sc (hA) sn)) ⟨[(4,fun S0=>⟨Nat × Int,fun x=>x.1<=s.parts.length/\c+1+(szL (s.parts.take x.1):Int)<=400/\deepL (s.parts.drop x.1) (l+1) x.2=deepS s l,fun x=>[(7,.int .i64 x.2),(16,.int .i64 x.1)],fun x=>[(900,.box (.int .i64 (c+1+(szL (s.parts.take x.1):Int))))],fun x=>s.parts.length - x.1⟩)],[],[]⟩ Tryz.func227 (Gs n s l c hs hn hc)
theorem F2:∀n:Nat,ag Tryz.prog 227 (oI 268 228 n):=by
 intro n
 induction n with
 | zero=>exact qn AI fun s l c hs hn hc=>absurd hn (by have:=qm s;omega)
 | succ n ih=>exact qn AI fun s l c hs hn hc=>zj n s l c hs hn hc ih
theorem wV (s:AL.Shape) (hs:Wf (.st .shape) s) :aD Tryz.prog 197 [.st .shape s] [] (.ret (.tup [.int .i64 (if sz s<=400 then (sz s:Int) else 401),.int .i64 (if sz s<=400 then deepS s 1 else 0),.bool (decide (sz s<=400))])):=
 fwpR_sound (C:=⟨tbl,_,fun _=>false,fun _=>[],fun _=>false,fun _=>false,fun _=>false⟩) (ann:=⟨[],[],[]⟩) (annC:=⟨[],[],[]⟩) mixed Er (qg (F2 (sz s)) (se)) Tryz.func197 Tryz.func226 (enters_of Tryz.func226 (by kernel_rfl) rfl) (@Eq.mpr _ _ (by kernel_rfl) (EN s hs))
theorem CK:ag Tryz.prog 197 (p1 (.st .shape) fun s=>.ret (.tup [.int .i64 (if sz s<=400 then (sz s:Int) else 401),.int .i64 (if sz s<=400 then deepS s 1 else 0),.bool (decide (sz s<=400))])):=
 bK (ee Tryz.func197) fun s hs _=>wV s hs
theorem CL:ag Tryz.prog 160 (p1 (.st .shape) fun s=>.ret (.int .i64 (fy s))):=
 bK (ee Tryz.func160) fun s _ _=>g0 (sc (CK) (sc (wU 400 (by decide)) sn)) a0 Tryz.func160 (EO s)
theorem sI:ax Tryz.prog 43:=ee Tryz.func43
theorem uj (n:Nat) (t:Trm) (m:Int) (hs:Wf (.st .term) t) (hz:szT t<=n+1) (h0:0<=m) (h1:m<=1000000) (hA:ag Tryz.prog 43 (p2 (.st .term) (.int .i64) fun t m=>⟨some (szT t<=n/\0<=m/\m<=1000000),none,.tup [.int .i64 (countT t m).1,.int .i64 (countT t m).2],[]⟩)):aD Tryz.prog 43 [.st .term t,.int .i64 m] [] (⟨some (szT t<=n+1/\0<=m/\m<=1000000),none,.tup [.int .i64 (countT t m).1,.int .i64 (countT t m).2],[]⟩):=
 g0 (sc (hA) sn) ⟨[(3,fun S0=>⟨Nat × Int × Int,fun y=>y.1<=t.parts.length/\1<=y.2.1/\y.2.1<=m+1/\0<=y.2.2/\y.2.2+1<=y.2.1/\countL (t.parts.drop y.1) m y.2.1 y.2.2=countL t.parts m 1 0,fun y=>[(6,.int .i64 y.2.1),(7,.int .i64 y.2.2),(15,.int .i64 y.1)],fun _=>[],fun y=>t.parts.length - y.1⟩)],[],[]⟩ Tryz.func43 (Cz n t m hs hz h0 h1)
theorem r6:∀n:Nat,ag Tryz.prog 43 (p2 (.st .term) (.int .i64) fun t m=>⟨some (szT t<=n/\0<=m/\m<=1000000),none,.tup [.int .i64 (countT t m).1,.int .i64 (countT t m).2],[]⟩)
 | 0=>fa sI fun t m hs _ ho=>absurd (ho _ rfl).1 (by have:=fA t;omega)
 | n+1=>fa sI fun t m hs _ ho=>uj n t m hs (ho _ rfl).1 (ho _ rfl).2.1 (ho _ rfl).2.2 (r6 n)
theorem wW:ag Tryz.prog 170 (pcl .str 96 fun x=>⟨none,none,.bool (!aH x),[]⟩):=
 tX (ee Tryz.func170) fun x _ ho=>g0 (sc ie sn) a0 Tryz.func170 (zc x)
theorem wX:ag Tryz.prog 205 (pfc (.lst .str) 170 96 fun l=>⟨none,none,.int .i64 (bD aH l 0),[]⟩):=
 km (ee Tryz.func205) fun l hl ho=>g0 (sc wW sn) ⟨[(2,fun S0=>⟨Nat,fun k=>k<=l.length/\bD aH (l.drop k) k=bD aH l 0,fun k=>[(8,.int .i64 k)],fun _=>[],fun k=>l.length - k⟩)],[],[]⟩ Tryz.func205 (zd l hl)
theorem wY:ag Tryz.prog 169 (pfc (.lst .str) 170 96 fun l=>⟨none,none,.bool (!l.all aH),[]⟩):=
 km (ee Tryz.func169) fun l _ ho=>g0 (sc wX sn) a0 Tryz.func169 (ze l)
theorem sJ:ag Tryz.prog 128 (pf (.lst .str) 96 fun l=>⟨none,none,.bool (l.all aH),[]⟩):=
 nQ (ee Tryz.func128) fun l _ ho=>g0 (sc wY sn) a0 Tryz.func128 (EP l)
theorem CM:ag Tryz.prog 127 (p1 (.lst .str) fun l=>⟨some (l.length *16<=140737488355328),none,.bool (l.all aH && decide l.Nodup),[]⟩):=
 bK (ee Tryz.func127) fun l _ ho=>g0 (sc lI (sc (lE) (sc sJ (sc (kn) sn)))) a0 Tryz.func127 (ER l (ho _ rfl))
theorem zk:ax Tryz.prog 166:=ee Tryz.func166
theorem rO (n:Nat) (x:Shape)  (ho:sz x<=n) (hA:ag Tryz.prog 167 (p1 (.st .shape) fun s=>⟨some (sz s<=n),none,.bool (allS bh s),[]⟩)):aD Tryz.prog 166 [.st .shape x,.ptr 900 0] [(900,.box (.fn 167 []))] (⟨some (sz x<=n),none,.bool (!(allS bh) x),[]⟩):=
 g0 (sc (hA) sn) a0 Tryz.func166 (zf n x ho)
theorem wZ (n:Nat) (hA:ag Tryz.prog 167 (p1 (.st .shape) fun s=>⟨some (sz s<=n),none,.bool (allS bh s),[]⟩)):ag Tryz.prog 166 (pcl (.st .shape) 167 fun x=>⟨some (sz x<=n),none,.bool (!(allS bh) x),[]⟩):=
 tX zk fun x _ ho=>rO n x (ho _ rfl) hA
theorem zl:ax Tryz.prog 203:=ee Tryz.func203
theorem rP (n:Nat) (l:List AL.Shape)  (hl:Wf (.lst (.st .shape)) l) (ho:∀x∈l,sz x<=n) (hA:ag Tryz.prog 167 (p1 (.st .shape) fun s=>⟨some (sz s<=n),none,.bool (allS bh s),[]⟩)):aD Tryz.prog 203 [.lst (.st .shape) l none,.fn 166 [.ptr 900 0]] [(900,.box (.fn 167 []))] (⟨some (∀x∈l,sz x<=n),none,.int .i64 (bD (allS bh) l 0),[]⟩):=
 g0 (sc ((wZ n hA)) sn) ⟨[(2,fun S0=>⟨Nat,fun k=>k<=l.length/\bD (allS bh) (l.drop k) k=bD (allS bh) l 0,fun k=>[(8,.int .i64 k)],fun _=>[],fun k=>l.length - k⟩)],[],[]⟩ Tryz.func203 (zg n l hl ho)
theorem xa (n:Nat) (hA:ag Tryz.prog 167 (p1 (.st .shape) fun s=>⟨some (sz s<=n),none,.bool (allS bh s),[]⟩)):ag Tryz.prog 203 (pfc (.lst (.st .shape)) 166 167 fun l=>⟨some (∀x∈l,sz x<=n),none,.int .i64 (bD (allS bh) l 0),[]⟩):=
 km zl fun l hl ho=>rP n l hl (ho _ rfl) hA
theorem zm:ax Tryz.prog 165:=ee Tryz.func165
theorem rQ (n:Nat) (l:List AL.Shape)  (ho:∀x∈l,sz x<=n) (hA:ag Tryz.prog 167 (p1 (.st .shape) fun s=>⟨some (sz s<=n),none,.bool (allS bh s),[]⟩)):aD Tryz.prog 165 [.lst (.st .shape) l none,.fn 166 [.ptr 900 0]] [(900,.box (.fn 167 []))] (⟨some (∀x∈l,sz x<=n),none,.bool (!l.all (allS bh)),[]⟩):=
 g0 (sc ((xa n hA)) sn) a0 Tryz.func165 (zh n l ho)
theorem xb (n:Nat) (hA:ag Tryz.prog 167 (p1 (.st .shape) fun s=>⟨some (sz s<=n),none,.bool (allS bh s),[]⟩)):ag Tryz.prog 165 (pfc (.lst (.st .shape)) 166 167 fun l=>⟨some (∀x∈l,sz x<=n),none,.bool (!l.all (allS bh)),[]⟩):=
 km zm fun l _ ho=>rQ n l (ho _ rfl) hA
theorem F3:ax Tryz.prog 124:=ee Tryz.func124
theorem xc (n:Nat) (l:List AL.Shape)  (ho:∀x∈l,sz x<=n) (hA:ag Tryz.prog 167 (p1 (.st .shape) fun s=>⟨some (sz s<=n),none,.bool (allS bh s),[]⟩)):aD Tryz.prog 124 [.lst (.st .shape) l none,.fn 167 []] [] (⟨some (∀x∈l,sz x<=n),none,.bool (l.all (allS bh)),[]⟩):=
 g0 (sc ((xb n hA)) sn) a0 Tryz.func124 (ES n l ho)
theorem CN (n:Nat) (hA:ag Tryz.prog 167 (p1 (.st .shape) fun s=>⟨some (sz s<=n),none,.bool (allS bh s),[]⟩)):ag Tryz.prog 124 (pf (.lst (.st .shape)) 167 fun l=>⟨some (∀x∈l,sz x<=n),none,.bool (l.all (allS bh)),[]⟩):=
 nQ F3 fun l _ ho=>xc n l (ho _ rfl) hA
theorem AJ:ax Tryz.prog 167:=ee Tryz.func167
theorem zn (n:Nat) (s:AL.Shape) (ho:sz s<=n+1) (hE:ag Tryz.prog 124 (pf (.lst (.st .shape)) 167 fun l=>⟨some (∀x∈l,sz x<=n),none,.bool (l.all (allS bh)),[]⟩)):aD Tryz.prog 167 [.st .shape s] [] (⟨some (sz s<=n+1),none,.bool (allS bh s),[]⟩):=
 g0 (sc (hE) sn) a0 Tryz.func167 (Gt n s ho)
theorem xe:∀n:Nat,ag Tryz.prog 167 (p1 (.st .shape) fun s=>⟨some (sz s<=n),none,.bool (allS bh s),[]⟩)
 | 0=>bK AJ fun s _ ho=>absurd (ho _ rfl) (by have:=qm s;omega)
 | n+1=>bK AJ fun s _ ho=>zn n s (ho _ rfl) (CN n (xe n))
theorem zo:ag Tryz.prog 125 (p1 (.st .shape) fun s=>.ret (.bool (decide (fy s=0) && allS bh s))):=
 bK (ee Tryz.func125) fun s _ _=>g0 (sc CL (sc (xe 400) sn)) a0 Tryz.func125 (CA s)
theorem GA:ag Tryz.prog 123 (p1 (.st .term) fun t=>.ret (.agg [.int .i64 (t.names.length:Int),.int .i64 (t.vars.length:Int),.int .i64 (t.shapes.length:Int),.int .i64 (t.parts.length:Int)])):=
 bK (ee Tryz.func123) fun t _ _=>g0 sn a0 Tryz.func123 (HX t)
theorem CO:ag Tryz.prog 126 (p1 .str fun s=>.ret (.bool (qz s))):=
 bK (ee Tryz.func126) fun s hs _=>g0 (sc (BJ) sn) ⟨[(2,fun S0=>⟨Nat,fun k=>k<=s.length/\(s.all hU)=(s.drop k).all hU,fun k=>[(8,.int .i64 k)],fun _=>[],fun k=>s.length - k⟩)],[],[]⟩ Tryz.func126 (ET s hs)
theorem uk:ag Tryz.prog 166 (pcl (.st .shape) 125 fun x=>⟨none,none,.bool (!cb x),[]⟩):=
 tX (ee Tryz.func166) fun x _ ho=>g0 (sc zo sn) a0 Tryz.func166 (wJ x)
theorem um:ag Tryz.prog 203 (pfc (.lst (.st .shape)) 166 125 fun l=>⟨none,none,.int .i64 (bD cb l 0),[]⟩):=
 km (ee Tryz.func203) fun l hl ho=>g0 (sc uk sn) ⟨[(2,fun S0=>⟨Nat,fun k=>k<=l.length/\bD cb (l.drop k) k=bD cb l 0,fun k=>[(8,.int .i64 k)],fun _=>[],fun k=>l.length - k⟩)],[],[]⟩ Tryz.func203 (wM l hl)
theorem uo:ag Tryz.prog 165 (pfc (.lst (.st .shape)) 166 125 fun l=>⟨none,none,.bool (!l.all cb),[]⟩):=
 km (ee Tryz.func165) fun l _ ho=>g0 (sc um sn) a0 Tryz.func165 (wP l)
theorem zp:ag Tryz.prog 124 (pf (.lst (.st .shape)) 125 fun l=>⟨none,none,.bool (l.all cb),[]⟩):=
 nQ (ee Tryz.func124) fun l _ ho=>g0 (sc uo sn) a0 Tryz.func124 (CB l)
theorem CP:ag Tryz.prog 84 (p1 (.st .term) fun t=>⟨some (t.names.length<=8796093022208),none,.bool (aW t),[]⟩):=
 bK (ee Tryz.func84) fun t ht ho=>g0 (sc GA (sc zp (sc CO (sc ie (sc CM (sc sJ (sc kS sn))))))) ⟨[],[],[(2,fun S0=>⟨[(34,.bool (!nV t))],[]⟩)]⟩ Tryz.func84 (EU t ht (ho _ rfl))
theorem xf:ax Tryz.prog 130:=ee Tryz.func130
theorem r8 (n:Nat) (x:Trm)  (ho:szT x<=n/\cv x=true) (hA:ag Tryz.prog 44 (p1 (.st .term) fun t=>⟨some (szT t<=n/\cv t=true),none,.bool (allT aW t),[]⟩)):aD Tryz.prog 130 [.st .term x,.ptr 900 0] [(900,.box (.fn 44 []))] (⟨some (szT x<=n/\cv x=true),none,.bool (!(allT aW) x),[]⟩):=
 g0 (sc (hA) sn) a0 Tryz.func130 (wQ n x ho)
theorem uq (n:Nat) (hA:ag Tryz.prog 44 (p1 (.st .term) fun t=>⟨some (szT t<=n/\cv t=true),none,.bool (allT aW t),[]⟩)):ag Tryz.prog 130 (pcl (.st .term) 44 fun x=>⟨some (szT x<=n/\cv x=true),none,.bool (!(allT aW) x),[]⟩):=
 tX xf fun x _ ho=>r8 n x (ho _ rfl) hA
theorem xg:ax Tryz.prog 171:=ee Tryz.func171
theorem rf (n:Nat) (l:List Trm)  (hl:Wf (.lst (.st .term)) l) (ho:∀x∈l,szT x<=n/\cv x=true) (hA:ag Tryz.prog 44 (p1 (.st .term) fun t=>⟨some (szT t<=n/\cv t=true),none,.bool (allT aW t),[]⟩)):aD Tryz.prog 171 [.lst (.st .term) l none,.fn 130 [.ptr 900 0]] [(900,.box (.fn 44 []))] (⟨some (∀x∈l,szT x<=n/\cv x=true),none,.int .i64 (bD (allT aW) l 0),[]⟩):=
 g0 (sc ((uq n hA)) sn) ⟨[(2,fun S0=>⟨Nat,fun k=>k<=l.length/\bD (allT aW) (l.drop k) k=bD (allT aW) l 0,fun k=>[(8,.int .i64 k)],fun _=>[],fun k=>l.length - k⟩)],[],[]⟩ Tryz.func171 (wR n l hl ho)
theorem ur (n:Nat) (hA:ag Tryz.prog 44 (p1 (.st .term) fun t=>⟨some (szT t<=n/\cv t=true),none,.bool (allT aW t),[]⟩)):ag Tryz.prog 171 (pfc (.lst (.st .term)) 130 44 fun l=>⟨some (∀x∈l,szT x<=n/\cv x=true),none,.int .i64 (bD (allT aW) l 0),[]⟩):=
 km xg fun l hl ho=>rf n l hl (ho _ rfl) hA
theorem xh:ax Tryz.prog 129:=ee Tryz.func129
theorem rh (n:Nat) (l:List Trm)  (ho:∀x∈l,szT x<=n/\cv x=true) (hA:ag Tryz.prog 44 (p1 (.st .term) fun t=>⟨some (szT t<=n/\cv t=true),none,.bool (allT aW t),[]⟩)):aD Tryz.prog 129 [.lst (.st .term) l none,.fn 130 [.ptr 900 0]] [(900,.box (.fn 44 []))] (⟨some (∀x∈l,szT x<=n/\cv x=true),none,.bool (!l.all (allT aW)),[]⟩):=
 g0 (sc ((ur n hA)) sn) a0 Tryz.func129 (wS n l ho)
theorem uu (n:Nat) (hA:ag Tryz.prog 44 (p1 (.st .term) fun t=>⟨some (szT t<=n/\cv t=true),none,.bool (allT aW t),[]⟩)):ag Tryz.prog 129 (pfc (.lst (.st .term)) 130 44 fun l=>⟨some (∀x∈l,szT x<=n/\cv x=true),none,.bool (!l.all (allT aW)),[]⟩):=
 km xh fun l _ ho=>rh n l (ho _ rfl) hA
theorem CQ:ax Tryz.prog 85:=ee Tryz.func85
theorem uv (n:Nat) (l:List Trm)  (ho:∀x∈l,szT x<=n/\cv x=true) (hA:ag Tryz.prog 44 (p1 (.st .term) fun t=>⟨some (szT t<=n/\cv t=true),none,.bool (allT aW t),[]⟩)):aD Tryz.prog 85 [.lst (.st .term) l none,.fn 44 []] [] (⟨some (∀x∈l,szT x<=n/\cv x=true),none,.bool (l.all (allT aW)),[]⟩):=
 g0 (sc ((uu n hA)) sn) a0 Tryz.func85 (CD n l ho)
theorem zq (n:Nat) (hA:ag Tryz.prog 44 (p1 (.st .term) fun t=>⟨some (szT t<=n/\cv t=true),none,.bool (allT aW t),[]⟩)):ag Tryz.prog 85 (pf (.lst (.st .term)) 44 fun l=>⟨some (∀x∈l,szT x<=n/\cv x=true),none,.bool (l.all (allT aW)),[]⟩):=
 nQ CQ fun l _ ho=>uv n l (ho _ rfl) hA
theorem sK:ax Tryz.prog 44:=ee Tryz.func44
theorem uw (n:Nat) (t:Trm) (ho:szT t<=n+1/\cv t=true) (hE:ag Tryz.prog 85 (pf (.lst (.st .term)) 44 fun l=>⟨some (∀x∈l,szT x<=n/\cv x=true),none,.bool (l.all (allT aW)),[]⟩)):aD Tryz.prog 44 [.st .term t] [] (⟨some (szT t<=n+1/\cv t=true),none,.bool (allT aW t),[]⟩):=
 g0 (sc CP (sc (hE) sn)) a0 Tryz.func44 (CE n t ho)
theorem ri:∀n:Nat,ag Tryz.prog 44 (p1 (.st .term) fun t=>⟨some (szT t<=n/\cv t=true),none,.bool (allT aW t),[]⟩)
 | 0=>bK sK fun t _ ho=>absurd (ho _ rfl).1 (by have:=fA t;omega)
 | n+1=>bK sK fun t _ ho=>uw n t (ho _ rfl) (zq n (ri n))
theorem uz (x:Trm) (ho:cv x=true) :aD Tryz.prog 22 [.st .term x] [] (⟨some (cv x=true),none,.int .i64 (cw x),[]⟩):=
 g0 (sc (r6 (szT x)) (sc (ri (szT x)) sn)) a0 Tryz.func22 (CF x ho)
theorem zr:ag Tryz.prog 22 (p1 (.st .term) fun t=>⟨some (cv t=true),none,.int .i64 (cw t),[]⟩):=
 bK (ee Tryz.func22) fun t _ ho=>uz t (ho _ rfl)
theorem rl:ag Tryz.prog 45 (Hz):=
 G3 (ee Tryz.func45) fun s xs ys ho=>g0 sn a0 Tryz.func45 (Gu s xs ys ho)
theorem sL:ag Tryz.prog 87 (E6):=
 E7 (ee Tryz.func87) fun s xs=>g0 sn a0 Tryz.func87 (EV s xs)
theorem CR:ag Tryz.prog 46 (ik fun s sp x t=>⟨some (sp.length<=9223372036854775807),none,.st .op (kr sp t),jA s sp x⟩):=
 kQ (ee Tryz.func46) fun s sp x t ht ho=>g0 sn ⟨[(2,fun S0=>⟨Nat,fun k=>k<=sp.length/\kr sp t=jH sp t k,fun k=>[(5,.int .i64 ((k:Int) - 1))],fun _=>[],fun k=>k⟩)],[],[]⟩ Tryz.func46 (EW s sp x t ht (ho _ rfl))
theorem xi:ag Tryz.prog 52 (pCp fun t=>⟨some (t.names.length *16<=140737488355328),none,.tup [.st .op (iz t).1,.bool (iz t).2],[]⟩):=
 Ht (ee Tryz.func52) fun t ht ho=>g1 nn (fun _=>[]) nn nn (fun d=>Nat.beq d 27) (sc (sG) sn) a0 Tryz.func52 (zi t ht (ho _ rfl))
theorem zt:ag Tryz.prog 86 (Hy):=
 G2 (ee Tryz.func86) fun s sp ho=>g1 nn (fun _=>[]) nn (fun d=>Nat.beq d 5005) nn sn a0 Tryz.func86 (CG s sp ho)
theorem F4:ax Tryz.prog 50:=ee Tryz.func50
theorem xj (n s:Nat) (sp:List Nam) (x:CS) (nm:Str) (t:Trm) (ht:Wf (.st .term) t) (ho:CmO n (sp++[nm0 nm]) x t) (hT:ag Tryz.prog 23 (ik fun s sp x t=>cmA n s sp x t)):aD Tryz.prog 50 [.ptr 900 0,.str nm,.cptr (.st .term t)] (jA s sp x) ((Hx n s sp x nm t)):=
 g1 nn (fun f=>if Nat.beq f 45 || Nat.beq f 87 then [some 1001] else []) nn (fun d=>Nat.beq d 14) nn (sc (hT) sn) a0 Tryz.func50 (EX n s sp x nm t ht ho)
theorem sM (n:Nat) (hT:ag Tryz.prog 23 (ik fun s sp x t=>cmA n s sp x t)):ag Tryz.prog 50 (FZ fun s sp x nm t=>Hx n s sp x nm t):=
 G0 F4 fun s sp x nm t ht ho=>xj n s sp x nm t ht (ho _ rfl) hT
theorem GB:ax Tryz.prog 51:=ee Tryz.func51
theorem zu (n s:Nat) (sp:List Nam) (x:CS) (l:List Trm) (hl:Wf (.lst (.st .term)) l) (ho:CmL n sp x l) (hT:ag Tryz.prog 23 (ik fun s sp x t=>cmA n s sp x t)):aD Tryz.prog 51 [.ptr 900 0,.lst (.st .term) l none] (jA s sp x) ((E5 n s sp x l)):=
 g1 nn (fun f=>if Nat.beq f 45 || Nat.beq f 87 then [some 1001] else []) nn nn nn (sc (hT) sn) ⟨[(1,fun S0=>⟨Nat × Nat × CS,fun y=>y.1<=l.length/\y.2.1=s+2 *kX (wN n) (l.take y.1)/\y.2.2=ij (aM n) sp (l.take y.1) x,fun y=>[(7,.int .i64 y.1)],fun y=>jA y.2.1 sp y.2.2,fun y=>l.length - y.1⟩)],[],[]⟩ Tryz.func51 (Gv n s sp x l hl ho)
theorem F5 (n:Nat) (hT:ag Tryz.prog 23 (ik fun s sp x t=>cmA n s sp x t)):ag Tryz.prog 51 (Ap fun s sp x l=>E5 n s sp x l):=
 E4 GB fun s sp x l hl ho=>zu n s sp x l hl (ho _ rfl) hT
theorem GC:ax Tryz.prog 48:=ee Tryz.func48
theorem zw (n s:Nat) (sp:List Nam) (x:CS) (t:Trm) (ht:Wf (.st .term) t) (ho:CmK n 12 sp x t) (hT:ag Tryz.prog 23 (ik fun s sp x t=>cmA n s sp x t)):aD Tryz.prog 48 [.ptr 900 0,.cptr (.st .term t)] (jA s sp x) ((Hv n s sp x t)):=
 g1 nn (fun f=>if Nat.beq f 45 || Nat.beq f 87 then [some 1001] else []) nn nn (fun d=>Nat.beq d 49 || Nat.beq d 68) (sc (hT) (sc rl (sc sL sn))) a0 Tryz.func48 (Gw n s sp x t ht ho)
theorem F6 (n:Nat) (hT:ag Tryz.prog 23 (ik fun s sp x t=>cmA n s sp x t)):ag Tryz.prog 48 (ik fun s sp x t=>Hv n s sp x t):=
 kQ GC fun s sp x t ht ho=>zw n s sp x t ht (ho _ rfl) hT
theorem GD:ax Tryz.prog 47:=ee Tryz.func47
theorem zx (n s:Nat) (sp:List Nam) (x:CS) (t:Trm) (ht:Wf (.st .term) t) (ho:CmK n 6 sp x t) (hT:ag Tryz.prog 23 (ik fun s sp x t=>cmA n s sp x t)):aD Tryz.prog 47 [.ptr 900 0,.cptr (.st .term t)] (jA s sp x) ((Hu n s sp x t)):=
 g1 nn (fun f=>if Nat.beq f 45 || Nat.beq f 87 then [some 1001] else []) nn (fun d=>Nat.beq d 33 || Nat.beq d 63) (fun d=>Nat.beq d 39) (sc (hT) (sc zt sn)) ⟨[(5,fun S0=>⟨Nat,fun i=>i<=t.names.length,fun i=>[(51,.int .i64 i)],fun i=>[(45,.box (.agg [.glst 0 0 700,.glst (sp.length+i) (sp.length+i) 6039,.ptr 903 0])),(700,.grow (.st .op) 0 []),(6039,.grow (.st .nm) (sp.length+i) (sp++(t.names.take i).map nm0))],fun i=>t.names.length - i⟩)],[(400010,[700])],[]⟩ Tryz.func47 (Gx n s sp x t ht ho)
theorem F7 (n:Nat) (hT:ag Tryz.prog 23 (ik fun s sp x t=>cmA n s sp x t)):ag Tryz.prog 47 (ik fun s sp x t=>Hu n s sp x t):=
 kQ GD fun s sp x t ht ho=>zx n s sp x t ht (ho _ rfl) hT
theorem GF:ax Tryz.prog 49:=ee Tryz.func49
theorem zy (n s:Nat) (sp:List Nam) (x:CS) (t:Trm) (ht:Wf (.st .term) t) (ho:CmK n 13 sp x t) (hT:ag Tryz.prog 23 (ik fun s sp x t=>cmA n s sp x t)):aD Tryz.prog 49 [.ptr 900 0,.cptr (.st .term t)] (jA s sp x) ((Hw n s sp x t)):=
 g1 nn (fun f=>if Nat.beq f 45 || Nat.beq f 87 then [some 1001] else []) nn nn (fun d=>Nat.beq d 24 || Nat.beq d 106) (sc (hT) (sc rl (sc sL (sc (sG) (sc ((sM n hT)) sn))))) ⟨[(4,fun S0=>⟨Nat × Nat × List Int × List Int × CS,fun y=>y.1<=t.names.length/\y.2.1=s+2 *wN n (t.parts.getD 0 default)+2 *ue (wN n) t y.1/\y.2.2.1.length=y.1/\y.2.2.2.1.length=y.1/\w8 n t sp x y.1 y.2.2.2.1 y.2.2.2.2/\iX (aM n) t sp (t.names.length - y.1) y.1 y.2.2.1 y.2.2.2.1 y.2.2.2.2=iX (aM n) t sp t.names.length 0 [] [] (vZ n t sp x),fun y=>[(37,.int .i64 y.1),(5,.lst (.int .i64) y.2.2.1 (some 701)),(6,.lst (.int .i64) y.2.2.2.1 (some 702))],fun y=>(701,.tail (.int .i64) y.2.2.1.length) ::(702,.tail (.int .i64) y.2.2.2.1.length) ::jA y.2.1 sp y.2.2.2.2,fun y=>t.names.length - y.1⟩),(12,fun S0=>G1 S0 fun js s1 x1=>⟨Nat × CS,fun y=>y.1<=js.length/\y.2.1.length=x1.1.length/\y.2.2=x1.2/\eH x1.1.length (js.drop y.1) y.2.1=eH x1.1.length js x1.1,fun y=>[(93,.int .i64 y.1)],fun y=>jA s1 sp y.2,fun y=>js.length - y.1⟩)],[],[]⟩ Tryz.func49 (Gy n s sp x t ht ho)
theorem F8 (n:Nat) (hT:ag Tryz.prog 23 (ik fun s sp x t=>cmA n s sp x t)):ag Tryz.prog 49 (ik fun s sp x t=>Hw n s sp x t):=
 kQ GF fun s sp x t ht ho=>zy n s sp x t ht (ho _ rfl) hT
theorem xk:ax Tryz.prog 23:=ee Tryz.func23
theorem xl (n s:Nat) (sp:List Nam) (x:CS) (t:Trm) (ht:Wf (.st .term) t) (ho:CmO (n+1) sp x t) (hT:ag Tryz.prog 23 (ik fun s sp x t=>cmA n s sp x t)) (hW:ag Tryz.prog 50 (FZ fun s sp x nm t=>Hx n s sp x nm t)) (hA:ag Tryz.prog 51 (Ap fun s sp x l=>E5 n s sp x l)) (hC:ag Tryz.prog 48 (ik fun s sp x t=>Hv n s sp x t)) (hF:ag Tryz.prog 47 (ik fun s sp x t=>Hu n s sp x t)) (hM:ag Tryz.prog 49 (ik fun s sp x t=>Hw n s sp x t)):aD Tryz.prog 23 [.ptr 900 0,.cptr (.st .term t)] (jA s sp x) ((cmA (n+1) s sp x t)):=
 g1 nn (fun f=>if Nat.beq f 45 || Nat.beq f 87 then [some 1001] else []) nn nn (fun d=>Nat.beq d 91) (sc (hT) (sc rl (sc CR (sc xi (sc (hW) (sc (hA) (sc (hC) (sc (hF) (sc (hM) sn))))))))) a0 Tryz.func23 (EY n s sp x t ht ho)
theorem fT:∀n:Nat,ag Tryz.prog 23 (ik fun s sp x t=>cmA n s sp x t)
 | 0=>kQ xk fun s sp x t _ ho=>absurd (ho _ rfl).1 (by have:=fA t;omega)
 | n+1=>kQ xk fun s sp x t ht ho=>xl n s sp x t ht (ho _ rfl) (fT n) (sM n (fT n)) (F5 n (fT n)) (F6 n (fT n)) (F7 n (fT n)) (F8 n (fT n))
theorem zA (n:Nat) (t:Trm) (l:List Bndg) (ht:Wf (.st .term) t) (hl:Wf (.lst (.st .bind)) l) (ho:yC n t l) (hT:ag Tryz.prog 23 (ik fun s sp x t=>cmA n s sp x t)):aD Tryz.prog 11 [.st .term t,.lst (.st .bind) l none] [] ((comA n t l)):=
 g1 nn (fun _=>[]) nn (fun d=>Nat.beq d 5017) nn (sc (hT) (sc (zr) sn)) ⟨[(7,fun S0=>⟨Nat,fun i=>i<=l.length,fun i=>[(22,.int .i64 i)],fun i=>[(19,.box (.agg [.glst 0 0 700,.glst i i 701,.ptr 7 0])),(700,.grow (.st .op) 0 []),(701,.grow (.st .nm) i ((l.take i).map nmB))],fun i=>l.length - i⟩)],[(11,[2]),(400012,[700]),(400013,[17])],[]⟩ Tryz.func11 (Gz n t l ht hl ho)
theorem F9:ag Tryz.prog 11 (p2 (.st .term) (.lst (.st .bind)) fun t l=>comA (szT t) t l):=
 fa (ee Tryz.func11) fun t l ht hl ho=>zA (szT t) t l ht hl (ho _ rfl) (fT (szT t))
theorem CT:ag Tryz.prog 9 (p1 (.lst (.st .bind)) fun l=>.ret (.bool (decide (l.length<=100)))):=
 bK (ee Tryz.func9) fun l hl _=>g0 sn a0 Tryz.func9 (EZ l hl)
theorem od:ax Tryz.prog 20:=ee Tryz.func20
theorem rm (n:Nat) (t:Trm) (b:Bndg) (ht:Wf (.st .term) t) (hz:szT t<=n+1) (hA:ag Tryz.prog 20 (p2 (.st .term) (.st .bind) fun t b=>⟨some (szT t<=n),none,.bool (stC b t),[]⟩)):aD Tryz.prog 20 [.st .term t,.st .bind b] [] (⟨some (szT t<=n+1),none,.bool (stC b t),[]⟩):=
 g0 (sc (hA) sn) ⟨[(2,fun S0=>⟨Nat,fun k=>k<=t.parts.length/\stCL b t.parts=stCL b (t.parts.drop k),fun k=>[(5,.int .i64 k)],fun _=>[],fun k=>t.parts.length - k⟩)],[],[]⟩ Tryz.func20 (wT n t b ht hz)
theorem uA:∀n:Nat,ag Tryz.prog 20 (p2 (.st .term) (.st .bind) fun t b=>⟨some (szT t<=n),none,.bool (stC b t),[]⟩):=by
 intro n
 induction n with
 | zero=>exact fa od fun t b _ _ ho=>absurd (ho _ rfl) (by have:=fA t;omega)
 | succ n ih=>exact fa od fun t b ht _ ho=>rm n t b ht (ho _ rfl) ih
theorem sP:ax Tryz.prog 8:=ee Tryz.func8
theorem uB (n:Nat) (s:Trm) (m:Int) (hs:Wf (.st .term) s) (ho:szT s<=n+1/\0<=m/\m<=1000000) (hA:ag Tryz.prog 8 (p2 (.st .term) (.int .i64) fun s m=>⟨some (szT s<=n/\0<=m/\m<=1000000),none,.int .i64 (szcT s m),[]⟩)):aD Tryz.prog 8 [.st .term s,.int .i64 m] [] (⟨some (szT s<=n+1/\0<=m/\m<=1000000),none,.int .i64 (szcT s m),[]⟩):=
 g0 (sc (hA) sn) ⟨[(3,fun S0=>⟨Nat × Int,fun x=>x.1<=s.parts.length/\1<=x.2/\x.2<=m+1/\szcTL (s.parts.drop x.1) x.2 m=szcT s m,fun x=>[(5,.int .i64 x.2),(6,.int .i64 x.1)],fun _=>[],fun x=>s.parts.length - x.1⟩)],[],[]⟩ Tryz.func8 (CH n s m hs ho)
theorem zB:∀n:Nat,ag Tryz.prog 8 (p2 (.st .term) (.int .i64) fun s m=>⟨some (szT s<=n/\0<=m/\m<=1000000),none,.int .i64 (szcT s m),[]⟩):=by
 intro n
 induction n with
 | zero=>exact fa sP fun a m _ _ ho=>absurd (ho _ rfl).1 (by have:=fA a;omega)
 | succ n ih=>exact fa sP fun a m ha _ ho=>uB n a m ha (ho _ rfl) ih
theorem nz (C:Trm→List Bndg→List Chnk × Int) (O:Trm→List Bndg→Prop) (S:List Chnk→List Chnk→Bool) (t:Trm) (l:List Bndg) (b:Bndg) (ht:Wf (.st .term) t) (hS:∀l,S l l=true) (hm:szcT t 500<=500→l.length<=100→stC b t=false→O t l/\O t (b ::l)/\C t (b ::l)=C t l) (hC':ag Tryz.prog 11 (p2 (.st .term) (.lst (.st .bind)) fun t l=>⟨some (O t l),none,.tup [.lst (.st .chunk) (C t l).1 none,.int .i64 (C t l).2],[]⟩)) (hS':ag Tryz.prog 13 (p2 (.lst (.st .chunk)) (.lst (.st .chunk)) fun a b=>.ret (.bool (S a b)))) (hW':ag Tryz.prog 10 (p0 (.ret (.bool true)))):aD Tryz.prog 7 [.st .term t,.lst (.st .bind) l none,.st .bind b] [] (.ret (.bool true)):=
 g0 (sc (hC') (sc (hS') (sc (hW') (sc ((zB (szT t))) (sc ((uA (szT t))) (sc CT sn)))))) a0 Tryz.func7 (rM C O S t l b ht hS hm)
end Go.AL.Seat
end
