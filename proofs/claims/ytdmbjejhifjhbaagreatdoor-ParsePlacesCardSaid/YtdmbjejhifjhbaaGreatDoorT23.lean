/- What the functions' conditions say, proved. The contracts of the functions. Plain facts. No condition. -/
import Derived.Test.YtdmbjejhifjhbaaGreatDoorT22
set_option linter.unusedVariables false
set_option linter.unusedSimpArgs false
set_option linter.unnecessarySimpa false
set_option linter.deprecated false
set_option linter.unusedSectionVars false
set_option maxRecDepth 100000
section
open Go Go.AL Go.Pd
namespace Go.AL.Seat
theorem Cl (s:Str) (ho:s.length<=4096/\0 < s.length) :
  let A:=(0:Int);let B:=A<=A;let C:=(↑(List.length s):Int);let D:=Int.toNat A;let E:=(0:UInt8);let F:=(↑(UInt8.toNat (List.getD s D E)):Int);let G:=(↑(bU s):Int);let H:=List.take (Int.toNat G) s;let I:=List.drop D H;let J:=True;let K:=bM s;let L:=A=K.1.pos;let M:=A=K.2.2.pos/\J;let N:=A=K.2.2.err/\M;let O:=List.drop D H=K.1.text/\L/\G=K.2.1/\N;let P:=(1:Int);let Q:=(2:Int);let R:=(60:Int);let S:=J/\A=K.1.kind/\[]=K.1.text/\L/\A=K.2.1/\R=K.2.2.err/\M;let T:=(B/\A<=G/\G<=C)/\if iQ I=true then J/\(5:Int)=K.1.kind/\O else if aQ I=true then J/\P=K.1.kind/\O else if dq I=true then J/\Q=K.1.kind/\O else S;let U:=A=A;let V:=s=s/\U/\F=F/\false=false/\true=true/\U/\jk UInt8=jk UInt8/\U/\U/\U/\R=R/\U/\J;let W:=(4096:Nat);let X:=(3:Int)=K.1.kind;let Y:=(7:Int)=K.1.kind;let Z:=cw s;let a:=B/\A<=Q/\Q<=C;let b:=List.take (Int.toNat Q) s;let c:=(6:Int)=K.1.kind;let d:=B/\A<=P/\P<=C;let e:=List.take (Int.toNat P) s;let f:=d/\if fG (List.drop D e)=true then d/\J/\c/\List.drop D e=K.1.text/\L/\P=K.2.1/\N else S;(B/\A<C)/\if bq F=true then T else if bw F=true then T else if aK F=true then (∃(x:Nat),(x<=List.length s/\ae aD s A=x+ae aD s (↑x:Int))/\A=(↑x:Int)/\V)/\∀(x:Nat),let g:=(↑x:Int);let h:=A<=g/\g<C;let i:=(↑(UInt8.toNat (List.getD s (Int.toNat g) E)):Int);let j:=inR IntKind.i64 (g+P)/\∃(y:Nat),(y<=List.length s/\ae aD s A=y+ae aD s (↑y:Int))/\List.length s - y<List.length s - x/\g+P=(↑y:Int)/\V;let k:=B/\A<=g/\g<=C;let l:=List.take (Int.toNat g) s;let m:=List.drop D l;let n:=List.drop D l=K.1.text/\L/\g=K.2.1/\N;let o:=k/\List.length m<=W/\k/\if lV m=true then k/\J/\X/\n else if decide ((bQ m).2=A)=true then k/\J/\Y/\n else S;x<=List.length s/\ae aD s A=x+ae aD s g→if decide (g<C)=true then h/\if bq i=true then j else h/\if bw i=true then j else h/\if aK i=true then j else h/\if decide (i=(46:Int))=true then j else h/\if decide (i=(45:Int))=true then j else o else o else if decide (F=(34:Int))=true then (List.length s<=W/\(0:Nat)<List.length s)/\J/\Z.1=K.1/\Z.2.1=K.2.1/\Z.2.2=K.2.2/\J else if decide (Q<=C)=true then a/\if fG (List.drop D b)=true then a/\J/\c/\List.drop D b=K.1.text/\L/\Q=K.2.1/\N else f else f:=by
 conv=>zeta
 obtain ⟨ln,lp⟩:=ho
 have eb:∀b:UInt8,(b.toNat:Int)=bI b:=fun _=>rfl
 have tt1:Int.toNat 1=1:=rfl
 have tt2:Int.toNat 2=2:=rfl
 simp only [eb,tt1,tt2,Int.toNat_natCast,Int.toNat_zero,List.drop_zero]
 have hl:=rc s
 have hF:bM s=if bq (bI (s.getD 0 0))=true∨bw (bI (s.getD 0 0))=true then lx s
  else if aK (bI (s.getD 0 0))=true then ly (s.take (ae aD s 0)) (ae aD s 0)
  else if bI (s.getD 0 0)=34 then cw s
  else nl s:=rfl
 refine ⟨⟨Int.le_refl 0,by omega⟩,a6 (fun h1=>?_) (fun h1=>a6 (fun h2=>?_) (fun h2=>a6 (fun h3=>?_) (fun h3=>a6 (fun h4=>?_) (fun h4=>?_))))⟩
 ·rw [if_pos (.inl h1)] at hF
  unfold lx at hF
  refine ⟨⟨Int.le_refl 0,by omega,by omega⟩,a6 (fun a=>?_) (fun a=>a6 (fun b=>?_) (fun b=>a6 (fun d=>?_) (fun d=>?_)))⟩
  ·rw [if_pos a] at hF;rw [hF];exact ⟨trivial,rfl,rfl,rfl,rfl,rfl,rfl,trivial⟩
  ·rw [if_neg a,if_pos b] at hF;rw [hF];exact ⟨trivial,rfl,rfl,rfl,rfl,rfl,rfl,trivial⟩
  ·rw [if_neg a,if_neg b,if_pos d] at hF;rw [hF];exact ⟨trivial,rfl,rfl,rfl,rfl,rfl,rfl,trivial⟩
  ·rw [if_neg a,if_neg b,if_neg d] at hF;rw [hF];exact ⟨trivial,rfl,rfl,rfl,rfl,rfl,rfl,trivial⟩
 ·rw [if_pos (.inr h2)] at hF
  unfold lx at hF
  refine ⟨⟨Int.le_refl 0,by omega,by omega⟩,a6 (fun a=>?_) (fun a=>a6 (fun b=>?_) (fun b=>a6 (fun d=>?_) (fun d=>?_)))⟩
  ·rw [if_pos a] at hF;rw [hF];exact ⟨trivial,rfl,rfl,rfl,rfl,rfl,rfl,trivial⟩
  ·rw [if_neg a,if_pos b] at hF;rw [hF];exact ⟨trivial,rfl,rfl,rfl,rfl,rfl,rfl,trivial⟩
  ·rw [if_neg a,if_neg b,if_pos d] at hF;rw [hF];exact ⟨trivial,rfl,rfl,rfl,rfl,rfl,rfl,trivial⟩
  ·rw [if_neg a,if_neg b,if_neg d] at hF;rw [hF];exact ⟨trivial,rfl,rfl,rfl,rfl,rfl,rfl,trivial⟩
 ·rw [if_neg (fun e=>e.elim h1 h2),if_pos h3] at hF
  refine ⟨⟨0,⟨Nat.zero_le _,by simp⟩,rfl,?_⟩,?_⟩
  ·exact Xr
  rintro x ⟨k1,k2⟩
  refine a6 (fun h=>?_) (fun h=>?_)
  ·have hk:x < s.length:=by have:=Xo h;omega
   clear h
   have l0:(0:Int)<=(x:Int)/\(x:Int) < (s.length:Int):=⟨by omega,by omega⟩
   refine ⟨l0,a6 (fun a=>?_) (fun a=>⟨l0,a6 (fun b=>?_) (fun b=>⟨l0,a6 (fun c=>?_) (fun c=>⟨l0,a6 (fun d=>?_) (fun d=>⟨l0,a6 (fun e=>?_) (fun e=>?_)⟩)⟩)⟩)⟩)⟩
   ·have hb:aD (bI (s.getD x 0))=true:=by unfold aD;rw [a];simp only [Bool.true_or,Bool.or_true]
    refine ⟨an (by omega) (by omega),x+1,⟨by omega,kV hk hb k2⟩,by omega,rfl,?_⟩
    exact Xr
   ·have hb:aD (bI (s.getD x 0))=true:=by unfold aD;rw [b];simp only [Bool.true_or,Bool.or_true]
    refine ⟨an (by omega) (by omega),x+1,⟨by omega,kV hk hb k2⟩,by omega,rfl,?_⟩
    exact Xr
   ·have hb:aD (bI (s.getD x 0))=true:=by unfold aD;rw [c];simp only [Bool.true_or,Bool.or_true]
    refine ⟨an (by omega) (by omega),x+1,⟨by omega,kV hk hb k2⟩,by omega,rfl,?_⟩
    exact Xr
   ·have hb:aD (bI (s.getD x 0))=true:=by unfold aD;rw [d];simp only [Bool.true_or,Bool.or_true]
    refine ⟨an (by omega) (by omega),x+1,⟨by omega,kV hk hb k2⟩,by omega,rfl,?_⟩
    exact Xr
   ·have hb:aD (bI (s.getD x 0))=true:=by unfold aD;rw [e];simp only [Bool.true_or,Bool.or_true]
    refine ⟨an (by omega) (by omega),x+1,⟨by omega,kV hk hb k2⟩,by omega,rfl,?_⟩
    exact Xr
   have hb:aD (bI (s.getD x 0))=false:=by
    unfold aD
    rw [Bool.eq_false_iff.2 a,Bool.eq_false_iff.2 b,Bool.eq_false_iff.2 c,Bool.eq_false_iff.2 d,Bool.eq_false_iff.2 e]
    rfl
   have hx:=Cb hk hb k2
   clear a b c d e hb l0 k2
   rw [hx] at hF
   unfold ly at hF
   refine ⟨⟨Int.le_refl 0,by omega,by omega⟩,by rw [List.length_take];omega,⟨Int.le_refl 0,by omega,by omega⟩,a6 (fun a=>⟨⟨Int.le_refl 0,by omega,by omega⟩,?_⟩) (fun a=>a6 (fun b=>⟨⟨Int.le_refl 0,by omega,by omega⟩,?_⟩) (fun b=>?_))⟩
   ·rw [if_pos a] at hF;rw [hF];exact ⟨trivial,rfl,rfl,rfl,rfl,rfl,rfl,trivial⟩
   ·rw [if_neg a,if_pos (Xo b)] at hF;rw [hF];exact ⟨trivial,rfl,rfl,rfl,rfl,rfl,rfl,trivial⟩
   ·rw [if_neg a,if_neg (fun e=>b (Xd e))] at hF;rw [hF];exact ⟨trivial,rfl,rfl,rfl,rfl,rfl,rfl,trivial⟩
  ·have hk:s.length<=x:=by
    have:¬(x:Int) < (s.length:Int):=fun e=>h (Xd e)
    omega
   have hx:=EH hk k2
   clear h k2
   rw [hx] at hF
   unfold ly at hF
   refine ⟨⟨Int.le_refl 0,by omega,by omega⟩,by rw [List.length_take];omega,⟨Int.le_refl 0,by omega,by omega⟩,a6 (fun a=>⟨⟨Int.le_refl 0,by omega,by omega⟩,?_⟩) (fun a=>a6 (fun b=>⟨⟨Int.le_refl 0,by omega,by omega⟩,?_⟩) (fun b=>?_))⟩
   ·rw [if_pos a] at hF;rw [hF];exact ⟨trivial,rfl,rfl,rfl,rfl,rfl,rfl,trivial⟩
   ·rw [if_neg a,if_pos (Xo b)] at hF;rw [hF];exact ⟨trivial,rfl,rfl,rfl,rfl,rfl,rfl,trivial⟩
   ·rw [if_neg a,if_neg (fun e=>b (Xd e))] at hF;rw [hF];exact ⟨trivial,rfl,rfl,rfl,rfl,rfl,rfl,trivial⟩
 ·rw [if_neg (fun e=>e.elim h1 h2),if_neg h3,if_pos (Xo h4)] at hF
  rw [hF]
  exact ⟨⟨ln,lp⟩,trivial,rfl,rfl,rfl,trivial⟩
 ·rw [if_neg (fun e=>e.elim h1 h2),if_neg h3,if_neg (fun e=>h4 (Xd e))] at hF
  unfold nl at hF
  refine a6 (fun a=>?_) (fun a=>?_)
  ·have a:=Xo a
   have l2:(0:Int)<=0/\(0:Int)<=2/\(2:Int)<=(s.length:Int):=⟨Int.le_refl 0,by decide,a⟩
   have l1:(0:Int)<=0/\(0:Int)<=1/\(1:Int)<=(s.length:Int):=⟨Int.le_refl 0,by decide,by omega⟩
   refine ⟨l2,a6 (fun b=>⟨l2,?_⟩) (fun b=>⟨l1,a6 (fun c=>⟨l1,?_⟩) (fun c=>?_)⟩)⟩
   ·rw [if_pos ⟨by omega,b⟩] at hF;rw [hF];exact ⟨trivial,rfl,rfl,rfl,rfl,rfl,rfl,trivial⟩
   ·rw [if_neg (fun e=>b e.2),if_pos c] at hF;rw [hF];exact ⟨trivial,rfl,rfl,rfl,rfl,rfl,rfl,trivial⟩
   ·rw [if_neg (fun e=>b e.2),if_neg c] at hF;rw [hF];exact ⟨trivial,rfl,rfl,rfl,rfl,rfl,rfl,trivial⟩
  ·have a:¬(2:Int)<=(s.length:Int):=fun e=>a (Xd e)
   have l1:(0:Int)<=0/\(0:Int)<=1/\(1:Int)<=(s.length:Int):=⟨Int.le_refl 0,by decide,by omega⟩
   refine ⟨l1,a6 (fun c=>⟨l1,?_⟩) (fun c=>?_)⟩
   ·rw [if_neg (fun e=>a (by omega)),if_pos c] at hF;rw [hF];exact ⟨trivial,rfl,rfl,rfl,rfl,rfl,rfl,trivial⟩
   ·rw [if_neg (fun e=>a (by omega)),if_neg c] at hF;rw [hF];exact ⟨trivial,rfl,rfl,rfl,rfl,rfl,rfl,trivial⟩
theorem ET (s:Str) (hs:Wf .str s) :
  let A:=(↑(List.length s):Int);let B:=True;let C:=eR s;let D:=C.1=[];let E:=(0:Int);let F:=false=false;let G:=E=E/\E=E/\B;let H:=List.take (Int.toNat A) s;let I:=(140737488355328:Nat);let J:=[{kind:=E,text:=[],pos:=A:Tokn}];if decide ((4096:Int)<A)=true then B/\D/\(3:Int)=C.2.err/\(4096:Int)=C.2.pos/\B else (∃(x:Nat × Nat × List Tokn),(x.2.1<=List.length s/\List.length x.2.2<=x.2.1/\List.length s<x.2.1+x.1/\eR s=eQ s x.1 x.2.1 x.2.2)/\E=(↑x.2.1:Int)/\x.2.2=[]/\s=s/\F/\List.length x.2.2=(0:Nat)/\G)/\∀(x:Nat × Nat × List Tokn),let K:=(↑x.2.1:Int);let L:=E<=K/\K<=A/\A<=A;let M:=List.drop (Int.toNat K) H;let N:=List.length M<=(4096:Nat);let O:=bL M;let P:=bM M;let Q:=List.length x.2.2=List.length x.2.2;let R:=[{kind:=P.1.kind,text:=P.1.text,pos:=K:Tokn}];x.2.1<=List.length s/\List.length x.2.2<=x.2.1/\List.length s<x.2.1+x.1/\eR s=eQ s x.1 x.2.1 x.2.2→if decide (K<A)=true then L/\N/\if (!decide (O.2.err=E))=true then inR IntKind.i64 (K+O.2.pos)/\B/\D/\O.2.err=C.2.err/\K+O.2.pos=C.2.pos/\B else if decide (E<O.1)=true then inR IntKind.i64 (K+O.1)/\∃(y:Nat × Nat × List Tokn),(y.2.1<=List.length s/\List.length y.2.2<=y.2.1/\List.length s<y.2.1+y.1/\eR s=eQ s y.1 y.2.1 y.2.2)/\y.1<x.1/\K+O.1=(↑y.2.1:Int)/\x.2.2=y.2.2/\s=s/\F/\List.length x.2.2=List.length y.2.2/\G else L/\(N/\(0:Nat)<List.length M)/\if (!decide (P.2.2.err=E))=true then inR IntKind.i64 (K+P.2.2.pos)/\B/\D/\P.2.2.err=C.2.err/\K+P.2.2.pos=C.2.pos/\B else (Q/\(List.length x.2.2+List.length R)*(32:Nat)<=I)/\inR IntKind.i64 (K+P.2.1)/\∃(y:Nat × Nat × List Tokn),(y.2.1<=List.length s/\List.length y.2.2<=y.2.1/\List.length s<y.2.1+y.1/\eR s=eQ s y.1 y.2.1 y.2.2)/\y.1<x.1/\K+P.2.1=(↑y.2.1:Int)/\x.2.2++R=y.2.2/\s=s/\F/\List.length (x.2.2++R)=List.length y.2.2/\G else (Q/\(List.length x.2.2+List.length J)*(32:Nat)<=I)/\B/\x.2.2++J=C.1/\E=C.2.err/\E=C.2.pos/\B:=by
 conv=>zeta
 refine a6 (fun h=>?_) (fun h=>?_)
 ·have h:=Xo h
  have e:eR s=([],⟨3,4096⟩):=by unfold eR;rw [if_pos (by omega)]
  rw [e]
  exact ⟨trivial,rfl,rfl,rfl,trivial⟩
 have ln:s.length<=4096:=by
  have:¬(4096:Int) < (s.length:Int):=fun e=>h (Xd e)
  omega
 have e:eR s=eQ s (s.length+2) 0 []:=by unfold eR;rw [if_neg (by omega)]
 refine ⟨⟨(s.length+2,0,[]),⟨Nat.zero_le _,Nat.le_refl _,by show s.length < 0+(s.length+2);omega,e⟩,rfl,rfl,?_⟩,?_⟩
 ·exact Xr
 clear e h
 rintro ⟨f,a,out⟩ ⟨k1,k2,k3,k4⟩
 simp only [Int.toNat_natCast,List.take_length] at k1 k2 k3 k4 ⊢
 cases f with
 | zero=>omega
 | succ f=>
  have hR:eQ s (f+1) a out=if a < s.length then
    if ¬(bL (s.drop a)).2.err=0 then ([],⟨(bL (s.drop a)).2.err,a+(bL (s.drop a)).2.pos⟩)
    else if 0 < (bL (s.drop a)).1 then eQ s f (a+(bL (s.drop a)).1.toNat) out
    else if ¬(bM (s.drop a)).2.2.err=0 then ([],⟨(bM (s.drop a)).2.2.err,a+(bM (s.drop a)).2.2.pos⟩)
    else eQ s f (a+(bM (s.drop a)).2.1.toNat) (out++[G1 (bM (s.drop a)).1 a])
   else (out++[⟨0,[],(s.length:Int)⟩],⟨0,0⟩):=rfl
  rw [hR] at k4
  clear hR
  refine a6 (fun c=>?_) (fun c=>?_)
  ·have c:=Xo c
   rw [if_pos (by omega)] at k4
   have dl:(s.drop a).length=s.length - a:=List.length_drop
   obtain ⟨p1,p2,p3,p4⟩:=uv (s.drop a)
   obtain ⟨q1,q2,q3⟩:=yY (s:=s.drop a) (by omega)
   rw [dl] at p2 p4 q1 q3 ⊢
   refine ⟨⟨by omega,by omega,by omega⟩,by omega,a6 (fun d=>?_) (fun d=>a6 (fun g=>?_) (fun g=>⟨⟨by omega,by omega,by omega⟩,⟨by omega,by omega⟩,a6 (fun m=>?_) (fun m=>?_)⟩))⟩
   ·have d:¬(bL (s.drop a)).2.err=0:=by simpa using d
    rw [if_pos d] at k4
    rw [k4]
    exact ⟨an (by omega) (by omega),trivial,rfl,rfl,rfl,trivial⟩
   ·have d:(bL (s.drop a)).2.err=0:=by simpa using d
    have g:=Xo g
    rw [if_neg (fun e=>e d),if_pos g] at k4
    refine ⟨an (by omega) (by omega),(f,a+(bL (s.drop a)).1.toNat,out),⟨by show a+(bL (s.drop a)).1.toNat<=s.length;omega,by show out.length<=a+(bL (s.drop a)).1.toNat;omega,by show s.length < a+(bL (s.drop a)).1.toNat+f;omega,k4⟩,by show f < f+1;omega,by show (a:Int)+(bL (s.drop a)).1=((a+(bL (s.drop a)).1.toNat:Nat):Int);omega,rfl,?_⟩
    exact Xr
   ·have d:(bL (s.drop a)).2.err=0:=by simpa using d
    have m:¬(bM (s.drop a)).2.2.err=0:=by simpa using m
    rw [if_neg (fun e=>e d),if_neg (fun e=>g (Xd e)),if_pos m] at k4
    rw [k4]
    exact ⟨an (by omega) (by omega),trivial,rfl,rfl,rfl,trivial⟩
   ·have d:(bL (s.drop a)).2.err=0:=by simpa using d
    have m:(bM (s.drop a)).2.2.err=0:=by simpa using m
    have q1:=q1 m
    rw [if_neg (fun e=>e d),if_neg (fun e=>g (Xd e)),if_neg (fun e=>e m)] at k4
    refine ⟨⟨trivial,by show (out.length+1) *32<=_;omega⟩,an (by omega) (by omega),(f,a+(bM (s.drop a)).2.1.toNat,out++[G1 (bM (s.drop a)).1 a]),⟨by show a+(bM (s.drop a)).2.1.toNat<=s.length;omega,by show (out++[G1 (bM (s.drop a)).1 a]).length<=a+(bM (s.drop a)).2.1.toNat;rw [List.length_append];show out.length+1<=_;omega,by show s.length < a+(bM (s.drop a)).2.1.toNat+f;omega,k4⟩,by show f < f+1;omega,by show (a:Int)+(bM (s.drop a)).2.1=((a+(bM (s.drop a)).2.1.toNat:Nat):Int);omega,rfl,?_⟩
    exact Xr
  ·have c:¬(a:Int) < (s.length:Int):=fun e=>c (Xd e)
   rw [if_neg (by omega)] at k4
   rw [k4]
   exact ⟨⟨trivial,by show (out.length+1) *32<=_;omega⟩,trivial,rfl,rfl,rfl,trivial⟩
end Go.AL.Seat
end
section
open Go Go.AL Go.Proofs Go.Shelf Go.Pd
namespace Go.AL.Seat
open Go.Proofs.Tryz
variable [Tabs]
variable [SeatLaid]
theorem my:ad prog 139 (p1 (.int .u8) fun c=>.ret (.bool (bq c))):=
 be (ee func139) fun c _ _=>g0 sn a0 func139 (Cf c)
theorem mz:ad prog 140 (p1 (.int .u8) fun c=>.ret (.bool (bw c))):=
 be (ee func140) fun c _ _=>g0 sn a0 func140 (Cg c)
theorem mA:ad prog 145 (p1 (.int .u8) fun c=>.ret (.bool (aK c))):=
 be (ee func145) fun c _ _=>g0 sn a0 func145 (Ch c)
theorem od:ad prog 141 (p1 .str fun s=>.ret (.int .i64 (bU s:Int))):=
 be (ee func141) fun s hs _=>g0 (sc my (sc mz (sc mA sn))) ⟨[(2,fun S0=>⟨Nat,fun k=>k<=s.length/\bU s=k+bU (s.drop k),fun k=>[(3,.int .i64 k)],fun _=>[],fun k=>s.length - k⟩)],[],[]⟩ func141 (EL s hs)
theorem sH:ad prog 198 (p2 .str (.lst .str) fun s l=>.ret (.bool (decide (s∈l)))):=
 iA (ee func198) fun s l _ hl _=>g0 sn ⟨[(2,fun S0=>⟨Nat,fun k=>k<=l.length/\decide (s∈l)=decide (s∈l.drop k),fun k=>[(5,.int .i64 k)],fun _=>[],fun k=>l.length - k⟩)],[],[]⟩ func198 (EM s l hl)
theorem sI:ad prog 142 (p1 .str fun s=>.ret (.bool (iQ s))):=
 be (ee func142) fun s _ _=>g0 (sc sH sn) a0 func142 (EN s)
theorem Cm:ad prog 143 (p1 .str fun s=>.ret (.bool (aQ s))):=
 be (ee func143) fun s _ _=>g0 (sc my (sc od (sc sI sn))) a0 func143 (EO s)
theorem zi:ad prog 144 (p1 .str fun s=>.ret (.bool (dq s))):=
 be (ee func144) fun s _ _=>g0 (sc mz (sc od sn)) a0 func144 (Ci s)
theorem uB:ad prog 270 (p1 .str fun s=>.ret (.bool (bG s))):=
 be (ee func270) fun s hs _=>g0 sn ⟨[(2,fun S0=>⟨Nat,fun k=>k<=s.length/\(s.all fun c=>aK (bI c))=(s.drop k).all fun c=>aK (bI c),fun k=>[(3,.int .i64 k)],fun _=>[],fun k=>s.length - k⟩)],[],[]⟩ func270 (wM s hs)
theorem zj:ad prog 252 (p1 .str fun s=>.ret (.bool (cv s))):=
 be (ee func252) fun s hs _=>g0 (sc uB sn) ⟨[(2,fun S0=>⟨Nat,fun k=>k<=s.length/\(s.all fun c=>eV (bI c))=(s.drop k).all fun c=>eV (bI c),fun k=>[(3,.int .i64 k)],fun _=>[],fun k=>s.length - k⟩)],[],[]⟩ func252 (Cj s hs)
theorem uC:ad prog 227 (p1 (.int .i64) fun n=>⟨some (0<=n/\n<=999999),none,.str (bJ n),[]⟩):=
 be (ee func227) fun n _ ho=>g0 sn ⟨[(3,fun S0=>⟨Nat × Nat × Str,fun y=>y.1<=20/\y.2.1 < 10 ^ y.1/\y.2.1<=999999/\y.2.2.length<=21 - y.1/\bJ n=mr y.1 y.2.1 y.2.2,fun y=>[(0,.int .i64 y.2.1),(4,.str y.2.2)],fun _=>[],fun y=>y.1⟩)],[],[]⟩ func227 (wN n (ho _ rfl))
theorem wO:ad prog 226 (p1 (.st .version) fun v=>.ret (.int .i64 (bz v))):=
 be (ee func226) fun v hv _=>g0 (sc (zc) (sc zj sn)) ⟨[(7,fun S0=>⟨Nat,fun k=>k<=(splitB 46 v.pre).length/\(splitB 46 v.pre).all cv=((splitB 46 v.pre).drop k).all cv,fun k=>[(4,.int .i64 k)],fun _=>[],fun k=>(splitB 46 v.pre).length - k⟩)],[],[]⟩ func226 (zd v hv)
theorem zk:ad prog 199 (p1 (.st .version) fun v=>.ret (.tup [.str (cO v).1,.int .i64 (cO v).2])):=
 be (ee func199) fun v hv _=>g0 (sc wO (sc uC sn)) a0 func199 (Ck v hv)
theorem wP:ad prog 146 (p1 .str fun s=>⟨some (s.length<=4096),none,.tup [.st .version (bQ s).1,.int .i64 (bQ s).2],[]⟩):=
 be (ee func146) fun s _ ho=>g1 nn (fun _=>[]) nn (fun d=>Nat.beq d 14) nn (sc zk sn) ⟨[(6,fun S0=>⟨Nat × Nat × Nat × List Int,fun y=>y.2.1<=s.length/\s.length < y.2.1+y.1/\y.2.2.1<=2/\y.2.2.2.length=3/\(∀k,k < 3→0<=y.2.2.2.getD k 0/\y.2.2.2.getD k 0<=99999999)/\er s=fM s (rvL s y.1 y.2.1 y.2.2.1 y.2.2.2),fun y=>[(6,.int .i64 y.2.1),(5,.int .i64 y.2.2.1)],fun y=>[(14,.box (.row (.int .i64) y.2.2.2))],fun y=>y.1⟩)],[],[]⟩ func146 (ze s (ho _ rfl))
theorem Cn:ad prog 196 (p1 (.int .i64) fun p=>.ret (.bool (eP p))):=
 be (ee func196) fun p _ _=>g0 sn a0 func196 (EP p)
theorem Co:ad prog 197 (p1 (.int .i64) fun p=>⟨some (0<=p/\p<=1114111),none,.str (dm p),[]⟩):=
 be (ee func197) fun p _ ho=>g0 sn a0 func197 (EQ p (ho _ rfl))
theorem sJ:ad prog 138 (p1 .str fun s=>.ret (.tup [.int .i64 (iI s).1,.int .i64 (iI s).2])):=
 be (ee func138) fun s hs _=>g0 (sc Cn (sc Co sn)) ⟨[(16,fun S0=>⟨Nat,fun k=>1<=k/\k<=cr s/\(k=1→-300<=aO s k/\aO s k<=300)/\(k=2→-20000<=aO s k/\aO s k<=20000)/\(k=3→-1300000<=aO s k/\aO s k<=1300000)/\(k=4→-90000000<=aO s k/\aO s k<=90000000),fun k=>[(6,.int .i64 k),(5,.int .i64 (aO s k))],fun _=>[],fun k=>cr s - k⟩)],[],[(100013,fun S0=>⟨[(4,.int .i64 (cr s:Int)),(5,.int .i64 (fR s))],[]⟩)]⟩ func138 (ER s hs)
theorem wQ:ad prog 85 (p1 .str fun s=>⟨some (s.length<=4096),none,.tup [.int .i64 (bL s).1,.st .fault (bL s).2],[]⟩):=
 be (ee func85) fun s _ ho=>g0 (sc sJ sn) ⟨[(2,fun S0=>⟨Nat,fun k=>k<=s.length/\ae aE s 0=k+ae aE s (k:Int),fun k=>[(4,.int .i64 k)],fun _=>[],fun k=>s.length - k⟩),(6,fun S0=>⟨Nat × Nat,fun y=>y.1<=s.length/\s.length < y.1+y.2/\bL s=jw s y.2 y.1,fun y=>[(4,.int .i64 y.1)],fun _=>[],fun y=>y.2⟩)],[],[(4,fun S0=>⟨[(54,.bool (decide (s.length<=ae aE s 0+1∨bI (s.getD (ae aE s 0) 0)≠45∨bI (s.getD (ae aE s 0+1) 0)≠45))),(4,.int .i64 (ae aE s 0:Int))],[]⟩)]⟩ func85 (zf s (ho _ rfl))
theorem wR:ad prog 147 (p1 .str fun s=>.ret (.bool (lV s))):=
 be (ee func147) fun s hs _=>g0 (sc mA sn) ⟨[(2,fun S0=>⟨Nat,fun k=>k<=s.length/\s.all dL=(s.drop k).all dL,fun k=>[(3,.int .i64 k)],fun _=>[],fun k=>s.length - k⟩)],[],[]⟩ func147 (zg s hs)
theorem Cp:ad prog 149 (p1 .str fun s=>.ret (.bool (fG s))):=
 be (ee func149) fun s _ _=>g0 (sc sH sn) a0 func149 (ES s)
theorem wS:ad prog 148 (p1 .str fun s=>⟨some (s.length<=4096/\0 < s.length),none,.tup [.st .token (cw s).1,.int .i64 (cw s).2.1,.st .fault (cw s).2.2],[]⟩):=
 be (ee func148) fun s _ ho=>g0 (sc sJ sn) ⟨[(4,fun S0=>⟨Nat × Str × Nat,fun y=>y.2.2<=s.length/\y.2.1.length<=y.2.2/\s.length < y.2.2+y.1/\cw s=b8 s y.1 y.2.1 y.2.2,fun y=>[(6,.lst (.int .u8) (aB y.2.1) (some 701)),(7,.int .i64 y.2.2)],fun y=>[(701,.tail (.int .u8) (aB y.2.1).length)],fun y=>y.1⟩)],[],[]⟩ func148 (zh s (ho _ rfl))
theorem zl:ad prog 86 (p1 .str fun s=>⟨some (s.length<=4096/\0 < s.length),none,.tup [.st .token (bM s).1,.int .i64 (bM s).2.1,.st .fault (bM s).2.2],[]⟩):=
 be (ee func86) fun s _ ho=>g0 (sc my (sc mz (sc mA (sc od (sc sI (sc Cm (sc zi (sc wP (sc wR (sc wS (sc Cp sn))))))))))) ⟨[(15,fun S0=>⟨Nat,fun k=>k<=s.length/\ae aD s 0=k+ae aD s (k:Int),fun k=>[(9,.int .i64 k)],fun _=>[],fun k=>s.length - k⟩)],[],[]⟩ func86 (Cl s (ho _ rfl))
theorem Cq:ad prog 43 (p1 .str fun s=>.ret (.tup [.lst (.st .token) (eR s).1 none,.st .fault (eR s).2])):=
 be (ee func43) fun s hs _=>g0 (sc wQ (sc zl sn)) ⟨[(5,fun S0=>⟨Nat × Nat × List Tokn,fun y=>y.2.1<=s.length/\y.2.2.length<=y.2.1/\s.length < y.2.1+y.1/\eR s=eQ s y.1 y.2.1 y.2.2,fun y=>[(5,.int .i64 y.2.1),(4,.lst (.st .token) y.2.2 (some 701))],fun y=>[(701,.tail (.st .token) y.2.2.length)],fun y=>y.1⟩)],[],[]⟩ func43 (ET s hs)
end Go.AL.Seat
end
section
namespace Go.Pd
open Go.AL
theorem wT {y z:Str} (hy:y≠[]) (hz:∀c z',z=c ::z'→c.toNat / 64≠2):ce (y++z)=ce y:=by
 cases y with
 | nil=>exact absurd rfl hy
 | cons b r=>
  cases z with
  | nil=>rw [List.append_nil]
  | cons c z'=>
   have hc:=hz c z' rfl
   rcases r with _ | ⟨x,_ | ⟨y,_ | ⟨w,t⟩⟩⟩ <;> simp [ce,nd,nU,hc]
theorem uD {p:UInt8→Bool}:∀{l:Str} {c:UInt8} {z:Str},l.dropWhile p=c ::z→p c=false
 | [],_,_,h=>by cases h
 | b ::l,c,z,h=>by
  rw [List.dropWhile_cons] at h
  by_cases hb:p b=true
  ·rw [if_pos hb] at h;exact uD h
  ·rw [if_neg hb] at h;cases h;simpa using hb
theorem zm {p:UInt8→Bool}:∀{l:Str} {c:UInt8},c∈l.takeWhile p→p c=true
 | [],_,h=>by cases h
 | b ::l,c,h=>by
  rw [List.takeWhile_cons] at h
  by_cases hb:p b=true
  ·rw [if_pos hb] at h
   cases h with
   | head=>exact hb
   | tail _ k=>exact zm k
  ·rw [if_neg hb] at h;cases h
theorem nt (s:Str) (a w:Nat):cut s (a:Int) ((a:Int)+(w:Int))=(s.drop a).take w:=by
 unfold cut
 have e1:((a:Int)+(w:Int)).toNat=a+w:=by omega
 rw [e1,Int.toNat_natCast,List.drop_take]
 congr 1;omega
theorem gi (p:Int→Bool) (s:Str) (a:Nat):ae p s (a:Int)=((s.drop a).takeWhile fun b=>p (bI b)).length:=by
 unfold ae;rw [Int.toNat_natCast]
theorem G8 (p:UInt8→Bool) (l:Str):l.take (l.takeWhile p).length=l.takeWhile p:=by
 conv=>lhs;arg 2;rw [←List.takeWhile_append_dropWhile (p:=p) (l:=l)]
 exact List.take_left
theorem sK (p:Int→Bool) (s:Str) (a:Nat):cut s (a:Int) ((a:Int)+(ae p s (a:Int):Int))=(s.drop a).takeWhile fun b=>p (bI b):=by
 rw [nt,gi,G8]
theorem iX (s:Str) (a:Nat):bAt s (a:Int)=if a < s.length then bI (s.getD a 0) else 0:=by
 unfold bAt;rw [Int.toNat_natCast]
 by_cases h:a < s.length
 ·rw [if_pos h,if_pos (by omega)]
 ·rw [if_neg h,if_neg (by omega)]
theorem eE (s:Str) (a i:Nat):(s.drop a).getD i 0=s.getD (a+i) 0:=by
 simp [List.getD_eq_getElem?_getD]
theorem ro {t x z:Str} {n:Nat} (h:t.drop n=x++z) (hx:∀c∈x,bI c≠10) (hz:∀c z',z=c ::z'→bI c=10) (j f:Nat) (hj:j<=x.length) (hf:x.length - j < f) :
  jw t f (n+j)=match fI x j with | none=>(((n+x.length:Nat):Int),⟨0,0⟩) | some k=>(0,⟨30,((n+k:Nat):Int)⟩):=by
 obtain ⟨f,rfl⟩:∃g,f=g+1:=⟨f - 1,by omega⟩
 have hd:t.drop (n+j)=x.drop j++z:=by rw [←List.drop_drop,h,List.drop_append_of_le_length hj]
 have hg:t.getD (n+j) 0=(x.drop j++z).getD 0 0:=by rw [←hd,jR]
 have hlen:t.length - (n+j)=(x.length - j)+z.length:=by
  have:=congrArg List.length hd
  rwa [List.length_drop,List.length_append,List.length_drop] at this
 rw [jw]
 by_cases hjx:j=x.length
 ·subst hjx
  rw [nW (Nat.le_refl _),if_neg]
  rintro ⟨a,b⟩
  cases z with
  | nil=>rw [List.length_nil] at hlen;omega
  | cons c z'=>exact b (by rw [hg,List.drop_length];exact hz c z' rfl)
 ·have hj':j < x.length:=by omega
  obtain ⟨c,y,hy⟩:∃c y,x.drop j=c ::y:=by
   cases e:x.drop j with
   | nil=>have:=congrArg List.length e;rw [List.length_drop,List.length_nil] at this;omega
   | cons c y=>exact ⟨c,y,rfl⟩
  have hc:c∈x:=List.mem_of_mem_drop (by rw [hy];exact List.mem_cons_self)
  have hu:ce (t.drop (n+j))=ce (x.drop j):=by
   rw [hd]
   refine wT (by rw [hy];exact List.cons_ne_nil _ _) (fun c z' e=>?_)
   have:=hz c z' e
   unfold bI at this;omega
  rw [if_pos ⟨by omega,by rw [hg,hy];exact hx c hc⟩,hu]
  by_cases hb:ce (x.drop j)=0
  ·rw [if_pos hb,nX hj' hb]
  ·rw [if_neg hb,jS hj' hb,Nat.add_assoc]
   have hle:=jV (s:=x) hj
   exact ro h hx hz (j+ce (x.drop j)) f hle (by omega)
termination_by x.length - j
decreasing_by omega
theorem rq (c:Int):aI c=true↔32<=c/\c≠34/\c≠92:=by
 unfold aI
 simp only [Bool.and_eq_true,Bool.not_eq_true',decide_eq_true_eq,decide_eq_false_iff_not,and_assoc,ne_eq]
theorem wU {t x z:Str} {i:Nat} (h:t.drop i=x++z) (hx:∀c∈x,aI (bI c)=true) (hz:∀c z',z=c ::z'→aI (bI c)=false) (j f:Nat) (acc:Str) (hj:j<=x.length) (hf:t.length - (i+j) < f) :
  (fI x j=none→∃g,t.length - (i+x.length) < g/\b8 t f acc (i+j)=b8 t g (acc++x.drop j) (i+x.length))/\
  (∀k,fI x j=some k→b8 t f acc (i+j)=(iZ,0,⟨30,((i+k:Nat):Int)⟩)):=by
 by_cases hjx:j=x.length
 ·subst hjx
  rw [nW (Nat.le_refl _)]
  refine ⟨fun _=>⟨f,hf,by rw [List.drop_length,List.append_nil]⟩,fun k e=>by cases e⟩
 ·have hj':j < x.length:=by omega
  obtain ⟨f,rfl⟩:∃g,f=g+1:=⟨f - 1,by omega⟩
  have hd:t.drop (i+j)=x.drop j++z:=by rw [←List.drop_drop,h,List.drop_append_of_le_length hj]
  have hg:t.getD (i+j) 0=(x.drop j++z).getD 0 0:=by rw [←hd,jR]
  have hlen:t.length - (i+j)=(x.length - j)+z.length:=by
   have:=congrArg List.length hd
   rwa [List.length_drop,List.length_append,List.length_drop] at this
  obtain ⟨c,y,hy⟩:∃c y,x.drop j=c ::y:=by
   cases e:x.drop j with
   | nil=>have:=congrArg List.length e;rw [List.length_drop,List.length_nil] at this;omega
   | cons c y=>exact ⟨c,y,rfl⟩
  have hc:c∈x:=List.mem_of_mem_drop (by rw [hy];exact List.mem_cons_self)
  have hg':t.getD (i+j) 0=c:=by rw [hg,hy];rfl
  have hu:ce (t.drop (i+j))=ce (x.drop j):=by
   rw [hd]
   refine wT (by rw [hy];exact List.cons_ne_nil _ _) (fun c z' e=>?_)
   have h2:=hz c z' e
   have h3:=Du c
   have h4:¬(aI (bI c)=true):=by rw [h2];decide
   rw [rq] at h4
   unfold bI at h3 h4;omega
  obtain ⟨p1,p2,p3⟩:=(rq _).1 (hx c hc)
  have step:b8 t (f+1) acc (i+j)=if ce (x.drop j)=0 then (iZ,0,⟨30,((i+j:Nat):Int)⟩) else b8 t f (acc++(x.drop j++z).take (ce (x.drop j))) (i+j+ce (x.drop j)):=by
   rw [b8,if_pos (by omega),hg',if_neg p2,if_neg (by omega),if_neg p3,hu,hd]
  rw [step]
  by_cases hb:ce (x.drop j)=0
  ·rw [if_pos hb,nX hj' hb]
   exact ⟨fun e=>(by cases e),fun k e=>by cases e;rfl⟩
  ·rw [if_neg hb,jS hj' hb,Nat.add_assoc]
   have hle:=jV (s:=x) hj
   have hlx:=Ah (x.drop j)
   obtain ⟨r1,r2⟩:=wU h hx hz (j+ce (x.drop j)) f (acc++(x.drop j++z).take (ce (x.drop j))) hle (by omega)
   refine ⟨fun e=>?_,r2⟩
   obtain ⟨g,g1,g2⟩:=r1 e
   refine ⟨g,g1,?_⟩
   rw [g2,List.append_assoc,List.take_append_of_le_length hlx]
   congr 2
   conv=>rhs;rw [←List.take_append_drop (ce (x.drop j)) (x.drop j)]
   rw [List.drop_drop]
termination_by x.length - j
decreasing_by omega
theorem kY {s:Str} {a:Nat} (i n f:Nat) (acc:Str) (c:SC) (hc:c.pos=((a+i:Nat):Int)) (hi:a+i<=s.length) (hn:s.length - (a+i) < n) (hf:s.length - (a+i) < f) :
  ((bZ s a n acc c).2.1=true→∃w:Nat,(bZ s a n acc c).2.2=bS c (a+w)/\b8 (s.drop a) f acc i=okK 4 (bZ s a n acc c).1 w)/\
  ((bZ s a n acc c).2.1=false→b8 (s.drop a) f acc i=(iZ,0,⟨(bZ s a n acc c).2.2.err,(bZ s a n acc c).2.2.fat - a⟩)):=by
 obtain ⟨n,rfl⟩:∃g,n=g+1:=⟨n - 1,by omega⟩
 have hl:(s.drop a).length=s.length - a:=List.length_drop
 have hb:bAt s c.pos=if i < (s.drop a).length then bI ((s.drop a).getD i 0) else 0:=by
  rw [hc,iX,eE]
  by_cases h:a+i < s.length
  ·rw [if_pos h,if_pos (by omega)]
  ·rw [if_neg h,if_neg (by omega)]
 have bad:∀(c':SC),(iZ,(0:Int),(⟨60,0⟩:Flt))=(iZ,0,⟨(eM 60 (a:Int) c').2.err,(eM 60 (a:Int) c').2.fat - a⟩):=fun c'=>by
  show _=(iZ,(0:Int),(⟨60,(a:Int) - a⟩:Flt));rw [Int.sub_self]
 rw [bZ]
 obtain ⟨g,rfl⟩:∃g,f=g+1:=⟨f - 1,by omega⟩
 by_cases h1:bAt s c.pos < 32
 ·rw [if_pos h1]
  refine ⟨fun e=>(by cases e),fun _=>?_⟩
  rw [b8]
  by_cases k:i < (s.drop a).length
  ·rw [if_pos k] at hb
   rw [if_pos k,←hb,if_neg (by omega),if_pos h1]
   exact bad c
  ·rw [if_neg k]
   exact bad c
 rw [if_neg h1]
 have hlt:i < (s.drop a).length:=by
  rcases Nat.lt_or_ge i (s.drop a).length with k | k
  ·exact k
  ·rw [if_neg (by omega)] at hb;rw [hb] at h1;exact absurd (by decide) h1
 rw [if_pos hlt] at hb
 by_cases h2:bAt s c.pos=34
 ·rw [if_pos h2]
  refine ⟨fun _=>⟨i+1,?_,?_⟩,fun e=>by cases e⟩
  ·show bS c (c.pos+1)=_
   rw [hc];congr 1
  ·rw [b8,if_pos hlt,←hb,if_pos h2]
   rfl
 rw [if_neg h2]
 by_cases h3:bAt s c.pos=92
 ·rw [if_pos h3]
  have hb2:bAt s (c.pos+1)=if i+1 < (s.drop a).length then bI ((s.drop a).getD (i+1) 0) else 0:=by
   have e:c.pos+1=((a+(i+1):Nat):Int):=by omega
   rw [e,iX,eE]
   by_cases h:a+(i+1) < s.length
   ·rw [if_pos h,if_pos (by omega)]
   ·rw [if_neg h,if_neg (by omega)]
  have hr:b8 (s.drop a) (g+1) acc i=if i+1=(s.drop a).length then lG else match gQ (bI ((s.drop a).getD (i+1) 0)) with
     | none=>lG
     | some x=>b8 (s.drop a) g (acc++[UInt8.ofNat x.toNat]) (i+2):=by
   rw [b8,if_pos hlt,←hb,if_neg h2,if_neg h1,if_pos h3]
   rfl
  rw [hr]
  by_cases k:i+1=(s.drop a).length
  ·rw [if_pos k]
   rw [if_neg (by omega)] at hb2
   rw [hb2]
   have e0:gQ 0=none:=by decide
   rw [e0]
   exact ⟨fun e=>(by cases e),fun _=>bad c⟩
  ·rw [if_neg k]
   rw [if_pos (by omega)] at hb2
   rw [←hb2]
   cases he:gQ (bAt s (c.pos+1)) with
   | none=>exact ⟨fun e=>(by cases e),fun _=>bad c⟩
   | some x=>
    exact kY (i+2) n g (acc++[UInt8.ofNat x.toNat]) (bS c (c.pos+2)) (by show c.pos+2=_;omega) (by omega) (by omega) (by omega)
 rw [if_neg h3]
 have hcut:cut s c.pos (c.pos+(ae aI s c.pos:Int))=(s.drop (a+i)).takeWhile fun b=>aI (bI b):=by rw [hc,sK]
 have hw:ae aI s c.pos=((s.drop (a+i)).takeWhile fun b=>aI (bI b)).length:=by rw [hc,gi]
 have hsplit:(s.drop a).drop i=((s.drop (a+i)).takeWhile fun b=>aI (bI b))++((s.drop (a+i)).dropWhile fun b=>aI (bI b)):=by
  rw [List.drop_drop];exact List.takeWhile_append_dropWhile.symm
 have hpos:=(nZ (s:=s) (a:=c.pos) h1 h2 h3).2 (by omega)
 rw [hcut,hw]
 rw [hw] at hpos
 have hle:a+i+((s.drop (a+i)).takeWhile fun b=>aI (bI b)).length<=s.length:=by
  have:=(List.takeWhile_sublist (fun b=>aI (bI b)) (l:=s.drop (a+i))).length_le
  rw [List.length_drop] at this;omega
 have hx:∀c∈((s.drop (a+i)).takeWhile fun b=>aI (bI b)),aI (bI c)=true:=fun c h=>zm (p:=fun b=>aI (bI b)) h
 have hz:∀c z',((s.drop (a+i)).dropWhile fun b=>aI (bI b))=c ::z'→aI (bI c)=false:=fun c z' h=>uD (p:=fun b=>aI (bI b)) h
 generalize ((s.drop (a+i)).takeWhile fun b=>aI (bI b))=x at *
 generalize ((s.drop (a+i)).dropWhile fun b=>aI (bI b))=z at *
 obtain ⟨r1,r2⟩:=wU hsplit hx hz 0 (g+1) acc (Nat.zero_le _) (by omega)
 simp only [qy,Nat.add_zero,List.drop_zero] at r1 r2
 cases he:cu x with
 | some k=>
  refine ⟨fun e=>(by cases e),fun _=>?_⟩
  rw [r2 k he]
  show _=(iZ,(0:Int),(⟨30,c.pos+k - a⟩:Flt))
  have e:c.pos+k - a=((i+k:Nat):Int):=by omega
  rw [e]
 | none=>
  obtain ⟨g',g1,g2⟩:=r1 he
  rw [g2]
  exact kY (i+x.length) n g' (acc++x) (bS c (c.pos+x.length)) (by show c.pos+_=_;omega) (by omega) (by omega) (by omega)
termination_by s.length - (a+i)
decreasing_by all_goals omega
def EU (c:SC) (q:Bool × SC) (r:TK3):Prop:=
 (q.1=true→∃k tx,∃w:Nat,r=okK k tx w/\q.2=⟨c.pos+w,c.out++[⟨k,tx,c.pos⟩],c.err,c.fat⟩)/\(q.1=false→r.2.2=⟨q.2.err,q.2.fat - c.pos⟩)
theorem jZ (c:SC) (k:Int) (t:Str) (w:Nat):EU c (gE k t c.pos (bS c (c.pos+w))) (okK k t w):=⟨fun _=>⟨k,t,w,rfl,rfl⟩,fun e=>by cases e⟩
theorem rr (c:SC) (x:Int):EU c (eM 60 c.pos (bS c x)) lG:=⟨fun e=>(by cases e),fun _=>by
 show (⟨60,0⟩:Flt)=⟨60,c.pos - c.pos⟩;rw [Int.sub_self]⟩
theorem wV:∀s:Str,(s.takeWhile fun b=>bp (bI b)).length=bU s
 | []=>rfl
 | b ::r=>by
  rw [List.takeWhile_cons,bU]
  by_cases h:bp (bI b)=true
  ·rw [if_pos h,if_pos h,List.length_cons,wV r]
  ·rw [if_neg h,if_neg h];rfl
theorem wW {t:Str} (h:1<=t.length):lV t=f7 t:=by
 unfold lV f7 dL
 rw [show decide (1<=t.length)=true from Xd h,Bool.and_true]
 congr 1
 cases t with
 | nil=>exact absurd h (by decide)
 | cons b r=>
  cases r with
  | nil=>
   by_cases hb:b=48
   ·subst hb;rfl
   ·have:¬bI b=48:=fun e=>hb (UInt8.toNat_inj.1 (by unfold bI at e;have:(48:UInt8).toNat=48:=rfl;omega))
    simp [this]
  | cons x y=>simp
theorem zo {s:Str} {a:Nat} (ha:a < s.length) (out:List Tokn) (e fa:Int):EU ⟨a,out,e,fa⟩ (aN s ⟨a,out,e,fa⟩) (bM (s.drop a)):=by
 have hl:(s.drop a).length=s.length - a:=List.length_drop
 have hb:bAt s (a:Int)=bI ((s.drop a).getD 0 0):=by rw [iX,if_pos ha,jR]
 unfold aN bM
 simp only [hb]
 by_cases h1:bq (bI ((s.drop a).getD 0 0))=true∨bw (bI ((s.drop a).getD 0 0))=true
 ·rw [if_pos h1,if_pos h1]
  have hw:ae bp s (a:Int)=bU (s.drop a):=by rw [gi,wV]
  have hcut:cut s (a:Int) ((a:Int)+(bU (s.drop a):Int))=(s.drop a).take (bU (s.drop a)):=nt _ _ _
  simp only [hw,hcut]
  unfold tZ lx
  by_cases x:iQ ((s.drop a).take (bU (s.drop a)))=true
  ·rw [if_pos x,if_pos x];exact jZ ⟨a,out,e,fa⟩ _ _ _
  rw [if_neg x,if_neg x]
  by_cases y:aQ ((s.drop a).take (bU (s.drop a)))=true
  ·rw [if_pos y,if_pos y];exact jZ ⟨a,out,e,fa⟩ _ _ _
  rw [if_neg y,if_neg y]
  by_cases z:dq ((s.drop a).take (bU (s.drop a)))=true
  ·rw [if_pos z,if_pos z];exact jZ ⟨a,out,e,fa⟩ _ _ _
  rw [if_neg z,if_neg z]
  exact rr ⟨a,out,e,fa⟩ _
 rw [if_neg h1,if_neg h1]
 by_cases h2:aK (bI ((s.drop a).getD 0 0))=true
 ·rw [if_pos h2,if_pos h2]
  have hw0:ae aD (s.drop a) 0=ae aD s (a:Int):=by rw [gi];rfl
  rw [hw0]
  have hcut:cut s (a:Int) ((a:Int)+(ae aD s (a:Int):Int))=(s.drop a).take (ae aD s (a:Int)):=nt _ _ _
  simp only [hcut]
  have hp:=bT (pr:=aD) (s:=s) (a:=a) (by omega) (by omega) (by
   have:s.getD (a:Int).toNat 0=(s.drop a).getD 0 0:=by rw [Int.toNat_natCast,jR]
   rw [this];unfold aD;rw [h2,Bool.or_true];rfl)
  have hle:=cQ (pr:=aD) (s:=s) (a:=a) (by omega) (by omega)
  unfold xX ly
  rw [wW (by rw [List.length_take];omega)]
  by_cases x:f7 ((s.drop a).take (ae aD s (a:Int)))=true
  ·rw [if_pos x,if_pos x];exact jZ ⟨a,out,e,fa⟩ _ _ _
  rw [if_neg x,if_neg x]
  by_cases y:(bQ ((s.drop a).take (ae aD s (a:Int)))).2=0
  ·rw [if_pos y,if_pos y];exact jZ ⟨a,out,e,fa⟩ _ _ _
  rw [if_neg y,if_neg y]
  exact rr ⟨a,out,e,fa⟩ _
 rw [if_neg h2,if_neg h2]
 by_cases h3:bI ((s.drop a).getD 0 0)=34
 ·rw [if_pos h3,if_pos h3]
  obtain ⟨q1,q2⟩:=kY (s:=s) (a:=a) 1 (s.length+2) ((s.drop a).length+2) [] (bS ⟨a,out,e,fa⟩ ((a:Int)+1)) rfl (by omega) (by omega) (by omega)
  unfold xY cm cw
  by_cases x:(bZ s a (s.length+2) [] (bS ⟨a,out,e,fa⟩ ((a:Int)+1))).2.1=true
  ·obtain ⟨w,w1,w2⟩:=q1 x
   simp only [x,if_true]
   refine ⟨fun _=>⟨4,(bZ s a (s.length+2) [] (bS ⟨a,out,e,fa⟩ ((a:Int)+1))).1,w,w2,?_⟩,fun e=>by cases e⟩
   rw [w1];rfl
  ·have x':(bZ s a (s.length+2) [] (bS ⟨a,out,e,fa⟩ ((a:Int)+1))).2.1=false:=by simpa using x
   simp only [x',Bool.false_eq_true,if_false]
   refine ⟨fun e=>(by cases e),fun _=>?_⟩
   rw [q2 x']
 rw [if_neg h3,if_neg h3]
 unfold vF nl fH
 have c2:cut s (a:Int) ((a:Int)+2)=(s.drop a).take 2:=nt s a 2
 have c1:cut s (a:Int) ((a:Int)+1)=(s.drop a).take 1:=nt s a 1
 simp only [c2,c1]
 by_cases x:2<=(s.drop a).length/\fG ((s.drop a).take 2)=true
 ·rw [if_pos x,if_pos (by rw [x.2,Bool.and_true];exact Xd (by omega))]
  exact jZ ⟨a,out,e,fa⟩ 6 _ 2
 rw [if_neg x,if_neg (fun h=>x (by simp only [Bool.and_eq_true,decide_eq_true_eq] at h;exact ⟨by omega,h.2⟩))]
 by_cases y:fG ((s.drop a).take 1)=true
 ·rw [if_pos y,if_pos (by rw [y,Bool.and_true];exact Xd (by omega))]
  exact jZ ⟨a,out,e,fa⟩ 6 _ 1
 rw [if_neg y,if_neg (fun h=>y (by simp only [Bool.and_eq_true,decide_eq_true_eq] at h;exact h.2))]
 exact rr ⟨a,out,e,fa⟩ _
theorem nu (s:Str):∀(w a n:Nat) (out:List Tokn) (e fa:Int),(∀i < w,aE (bAt s ((a+i:Nat):Int))=true)→w<=n→
  dK s n ⟨a,out,e,fa⟩=dK s (n - w) ⟨((a+w:Nat):Int),out,e,fa⟩
 | 0,a,n,out,e,fa,_,_=>rfl
 | w+1,a,n,out,e,fa,h,hn=>by
  obtain ⟨n,rfl⟩:∃g,n=g+1:=⟨n - 1,by omega⟩
  have h0:aE (bAt s (a:Int))=true:=h 0 (by omega)
  have hlt:=pn (s:=s) (a:=(a:Int)) (fun k=>by rw [k] at h0;exact absurd h0 (by decide))
  rw [dK,if_neg (by show ¬(a:Int)=_;omega),if_pos h0]
  have:=nu s w (a+1) n out e fa (fun i hi=>by have:=h (i+1) (by omega);rwa [show a+1+i=a+(i+1) by omega]) (by omega)
  rw [show n+1 - (w+1)=n - w by omega,show a+(w+1)=a+1+w by omega,←this]
  rfl
theorem Al {p:UInt8→Bool}:∀{l:Str} {i:Nat},i < (l.takeWhile p).length→p (l.getD i 0)=true
 | [],i,h=>absurd h (Nat.not_lt_zero _)
 | b ::l,i,h=>by
  rw [List.takeWhile_cons] at h
  by_cases hb:p b=true
  ·rw [if_pos hb] at h
   cases i with
   | zero=>exact hb
   | succ i=>exact Al (l:=l) (i:=i) (by rw [List.length_cons] at h;omega)
  ·rw [if_neg hb] at h;exact absurd h (Nat.not_lt_zero _)
theorem lE (s:Str) (a n f:Nat) (out:List Tokn) (e fa:Int) (ha:a<=s.length) (hn:s.length - a < n) (hf:s.length - a < f) :
  dK s n ⟨a,out,e,fa⟩=eQ s f a out:=by
 obtain ⟨f,rfl⟩:∃g,f=g+1:=⟨f - 1,by omega⟩
 by_cases hae:a=s.length
 ·obtain ⟨n,rfl⟩:∃g,n=g+1:=⟨n - 1,by omega⟩
  rw [dK,eQ,if_pos (by show (a:Int)=_;omega),if_neg (by omega)]
 have hlt:a < s.length:=by omega
 have hl:(s.drop a).length=s.length - a:=List.length_drop
 have hw0:ae aE (s.drop a) 0=((s.drop a).takeWhile fun b=>aE (bI b)).length:=gi aE (s.drop a) 0
 have hwle:ae aE (s.drop a) 0<=s.length - a:=by
  rw [hw0,←hl];exact (List.takeWhile_sublist _).length_le
 have hblank:∀i < ae aE (s.drop a) 0,aE (bAt s ((a+i:Nat):Int))=true:=fun i hi=>by
  rw [iX,if_pos (by omega),←eE]
  rw [hw0] at hi
  exact Al (p:=fun b=>aE (bI b)) hi
 have hstop:a+ae aE (s.drop a) 0 < s.length→aE (bAt s ((a+ae aE (s.drop a) 0:Nat):Int))=false:=fun h=>by
  rw [iX,if_pos h,←eE,hw0]
  exact uw (fun b=>aE (bI b)) (s.drop a) (by rw [←hw0,hl];omega)
 have hP:bL (s.drop a)=if (s.drop a).length<=ae aE (s.drop a) 0+1∨bI ((s.drop a).getD (ae aE (s.drop a) 0) 0)≠45∨bI ((s.drop a).getD (ae aE (s.drop a) 0+1) 0)≠45 then ((ae aE (s.drop a) 0:Int),⟨0,0⟩) else jw (s.drop a) ((s.drop a).length+1) (ae aE (s.drop a) 0):=rfl
 rw [nu s _ a n out e fa hblank (by omega),eQ,if_pos hlt]
 generalize ae aE (s.drop a) 0=w at *
 by_cases hr:(s.drop a).length<=w+1∨bI ((s.drop a).getD w 0)≠45∨bI ((s.drop a).getD (w+1) 0)≠45
 ·rw [if_pos hr] at hP
  rw [hP,if_neg (by simp)]
  by_cases hw:0 < w
  ·rw [if_pos (by show (0:Int) < w;omega)]
   exact lE s (a+w) (n - w) f out e fa (by omega) (by omega) (by omega)
  ·obtain rfl:w=0:=by omega
   rw [if_neg (by show ¬(0:Int) < (0:Nat);omega)]
   obtain ⟨n,rfl⟩:∃g,n=g+1:=⟨n - 1,by omega⟩
   have hnb:¬aE (bAt s ((a+0:Nat):Int))=true:=by rw [hstop (by omega)];decide
   have hnr:¬(bAt s ((a+0:Nat):Int)=45/\bAt s (((a+0:Nat):Int)+1)=45):=fun k=>by
    have k1:=k.1
    have k2:=k.2
    rw [show (((a+0:Nat):Int)+1)=((a+1:Nat):Int) by omega] at k2
    have l2:=pn (s:=s) (a:=((a+1:Nat):Int)) (by rw [k2];decide)
    rw [iX,if_pos (by omega),←eE] at k1 k2
    rcases hr with h | h | h
    ·omega
    ·exact h k1
    ·exact h k2
   rw [show n+1 - 0=n+1 from rfl,dK,if_neg (by show ¬((a+0:Nat):Int)=_;omega),if_neg hnb,if_neg hnr]
   have hs:=zo hlt out e fa
   obtain ⟨s1,s2⟩:=hs
   show (if (aN s ⟨(a:Int),out,e,fa⟩).1=true then dK s n (aN s ⟨(a:Int),out,e,fa⟩).2 else _)=_
   by_cases ht:(aN s ⟨(a:Int),out,e,fa⟩).1=true
   ·obtain ⟨k,tx,w,r1,r2⟩:=s1 ht
    obtain ⟨f1,f2,f3⟩:=fJ (s:=s) (c:=⟨a,out,e,fa⟩) (by show (0:Int)<=(a:Int);omega) (by show (a:Int) < _;omega) ht
    rw [if_pos ht,r1,if_neg (by show ¬¬(0:Int)=0;simp)]
    rw [r2] at f1 f2 ⊢
    have f1':(a:Int) < a+w:=f1
    have f2':(a:Int)+w<=(s.length:Int):=f2
    have:=lE s (a+w) n f (out++[⟨k,tx,a⟩]) e fa (by omega) (by omega) (by omega)
    rw [show ((a+w:Nat):Int)=(a:Int)+(w:Int) by omega] at this
    rw [this]
    rfl
   ·have ht':(aN s ⟨(a:Int),out,e,fa⟩).1=false:=by simpa using ht
    have he:=mo (s:=s) (c:=⟨a,out,e,fa⟩) (by show (0:Int)<=(a:Int);omega) (by show (a:Int) < _;omega) ht'
    rw [if_neg ht,s2 ht',if_pos he]
    show _=(([]:List Tokn),(⟨_,(a:Int)+(_ - (a:Int))⟩:Flt))
    rw [show ∀x:Int,(a:Int)+(x - (a:Int))=x from fun x=>by omega]
    rfl
 ·rw [if_neg hr] at hP
  simp only [not_or,Nat.not_le,ne_eq,Decidable.not_not] at hr
  obtain ⟨r1,r2,r3⟩:=hr
  have hb1:bAt s ((a+w:Nat):Int)=45:=by rw [iX,if_pos (by omega),←eE];exact r2
  have hb2:bAt s (((a+w:Nat):Int)+1)=45:=by
   rw [show (((a+w:Nat):Int)+1)=((a+(w+1):Nat):Int) by omega,iX,if_pos (by omega),←eE];exact r3
  obtain ⟨m,hm⟩:∃g,n - w=g+1:=⟨n - w - 1,by omega⟩
  rw [hm,dK,if_neg (by show ¬((a+w:Nat):Int)=_;omega),if_neg (by rw [hb1];decide),if_pos ⟨hb1,hb2⟩]
  have hcut:=sK bE s (a+w)
  have hwn:=gi bE s (a+w)
  have hsplit:(s.drop a).drop w=((s.drop (a+w)).takeWhile fun b=>bE (bI b))++((s.drop (a+w)).dropWhile fun b=>bE (bI b)):=by
   rw [List.drop_drop];exact List.takeWhile_append_dropWhile.symm
  have hx:∀c∈((s.drop (a+w)).takeWhile fun b=>bE (bI b)),bI c≠10:=fun c h=>by
   have:=zm (p:=fun b=>bE (bI b)) h
   simpa [bE] using this
  have hz:∀c z',((s.drop (a+w)).dropWhile fun b=>bE (bI b))=c ::z'→bI c=10:=fun c z' h=>by
   have:=uD (p:=fun b=>bE (bI b)) h
   simpa [bE] using this
  have hone:1<=((s.drop (a+w)).takeWhile fun b=>bE (bI b)).length:=by
   have:=bT (pr:=bE) (s:=s) (a:=((a+w:Nat):Int)) (by omega) (by omega) (by
    have:s.getD (((a+w:Nat):Int)).toNat 0=(s.drop a).getD w 0:=by rw [Int.toNat_natCast,eE]
    rw [this,r2];decide)
   omega
  have hle:a+w+((s.drop (a+w)).takeWhile fun b=>bE (bI b)).length<=s.length:=by
   have:=(List.takeWhile_sublist (fun b=>bE (bI b)) (l:=s.drop (a+w))).length_le
   rw [List.length_drop] at this;omega
  have hmove:∀o e' fa' (y:Nat),bS ⟨((a+w:Nat):Int),o,e',fa'⟩ (((a+w:Nat):Int)+(y:Int))=⟨((a+w+y:Nat):Int),o,e',fa'⟩:=fun o e' fa' y=>by
   unfold bS;congr 1
  show (match cu (cut s ((a+w:Nat):Int) (((a+w:Nat):Int)+(ae bE s ((a+w:Nat):Int):Int))) with
   | some k=>(([]:List Tokn),(⟨30,((a+w:Nat):Int)+(k:Int)⟩:Flt))
   | none=>dK s m (bS ⟨((a+w:Nat):Int),out,e,fa⟩ (((a+w:Nat):Int)+(ae bE s ((a+w:Nat):Int):Int))))=_
  rw [hcut,hwn,hmove]
  generalize ((s.drop (a+w)).takeWhile fun b=>bE (bI b))=x at *
  generalize ((s.drop (a+w)).dropWhile fun b=>bE (bI b))=z at *
  have hrem:=ro hsplit hx hz 0 ((s.drop a).length+1) (Nat.zero_le _) (by omega)
  simp only [Nat.add_zero,qy] at hrem
  rw [←hP] at hrem
  cases he:cu x with
  | some k=>
   rw [he] at hrem
   rw [hrem,if_pos (by show ¬(30:Int)=0;decide)]
   show (([]:List Tokn),(⟨30,((a+w:Nat):Int)+(k:Int)⟩:Flt))=([],⟨30,(a:Int)+((w+k:Nat):Int)⟩)
   congr 2;omega
  | none=>
   rw [he] at hrem
   rw [hrem,if_neg (by show ¬¬(0:Int)=0;simp),if_pos (by show (0:Int) < ((w+x.length:Nat):Int);omega)]
   have:=lE s (a+w+x.length) m f out e fa (by omega) (by omega) (by omega)
   show dK s m ⟨((a+w+x.length:Nat):Int),out,e,fa⟩=eQ s f (a+((w+x.length:Nat):Int).toNat) out
   rw [this,Int.toNat_natCast,Nat.add_assoc]
termination_by s.length - a
decreasing_by all_goals omega
theorem Cr (s:Str):eR s=aU s:=by
 unfold eR aU
 by_cases h:4096 < s.length
 ·rw [if_pos h,if_pos h]
 ·rw [if_neg h,if_neg h]
  exact (lE s 0 (s.length+2) (s.length+2) [] 0 0 (Nat.zero_le _) (by omega) (by omega)).symm
end Go.Pd
end
section
namespace Go.Pd
open Go.AL
def ru (F:Str→Shape × Flt) (G:Str→Trm × Flt):Bool:=
 decide ((F [40,73,110,116,44,32,91,75,101,121,93,41,32,45,62,32,123,97,58,32,113,47,73,100,125]).2.err=0) &&
 decide ((F [40,73,110,116,44,32,91,75,101,121,93,41,32,45,62,32,123,97,58,32,113,47,73,100,125]).1.kind=8) &&
 decide ((F [40,73,110,116,44,32,91,75,101,121,93,41,32,45,62,32,123,97,58,32,113,47,73,100,125]).1.parts.length=3) &&
 decide ((F [123,97,58,32,73,110,116,44,32,97,58,32,73,110,116,125]).2.err=111) &&
 decide ((F [123,97,58,32,73,110,116,44,32,97,58,32,73,110,116,125]).2.pos=9) &&
 decide ((G [102,46,97,40,49,41]).2.err=0) &&
 decide ((G [102,46,97,40,49,41]).1.kind=7) &&
 decide ((G [102,46,97,40,49,41]).1.parts.length=2) &&
 decide (((G [102,46,97,40,49,41]).1.parts.getD 1 (dfl (.st .term))).pos=4) &&
 decide ((G [91,73,110,116]).2.err=90)
set_option maxRecDepth 100000 in
theorem zq:ru o6 iH=true:=by decide+kernel
end Go.Pd
end
section
open Go Go.AL Go.Pd
namespace Go.AL.Seat
theorem Cs (s:Str) (hs:Wf .str s) :
  True/\(eR s).1=(aU s).1/\(!decide ((eR s).2.err=(0:Int)))=!decide ((aU s).2.err=(0:Int))/\True:=by
 rw [Cr]
 exact ⟨trivial,rfl,rfl,trivial⟩
theorem Ct (F:Str→Shape × Flt) (G:Str→Trm × Flt)  :
  let A:=(F ([40,73,110,116,44,32,91,75,101,121,93,41,32,45,62,32,123,97,58,32,113,47,73,100,125]:Str));let B:=(0:Int);let C:=(F ([123,97,58,32,73,110,116,44,32,97,58,32,73,110,116,125]:Str));let D:=(G ([102,46,97,40,49,41]:Str));let E:=(↑(List.length D.1.parts):Int);let H:=(1:Int);let I:=True/\false=ru F G/\True;if decide (A.2.err=B)=true then if decide (A.1.kind=(8:Int))=true then if decide ((↑(List.length A.1.parts):Int)=(3:Int))=true then if (decide (C.2.err=(111:Int)) && (decide (C.2.pos=(9:Int)) && true))=true then if decide (D.2.err=B)=true then if decide (D.1.kind=(7:Int))=true then if decide (E=(2:Int))=true then (B<=H/\H<E)/\if decide ((List.getD D.1.parts (Int.toNat H) (dfl (Ty.st SN.term))).pos=(4:Int))=true then True/\decide ((G ([91,73,110,116]:Str)).2.err=(90:Int))=ru F G/\True else I else I else I else I else I else I else I else I:=by
 conv=>zeta
 unfold ru
 simp only [eq_self,true_and,and_true,Int.toNat_one]
 refine a6 (fun h1=>?_) (fun h1=>?_)
 ·rw [h1]
  refine a6 (fun h2=>?_) (fun h2=>?_)
  ·rw [h2]
   refine a6 (fun h3=>?_) (fun h3=>?_)
   ·have h3n:=Xo h3
    rw [Xd (show _=3 by omega)]
    refine a6 (fun h4=>?_) (fun h4=>?_)
    ·rw [Bool.and_eq_true,Bool.and_true] at h4
     rw [h4.1,h4.2]
     refine a6 (fun h5=>?_) (fun h5=>?_)
     ·rw [h5]
      refine a6 (fun h6=>?_) (fun h6=>?_)
      ·rw [h6]
       refine a6 (fun h7=>?_) (fun h7=>?_)
       ·have h7n:=Xo h7
        rw [Xd (show _=2 by omega)]
        refine ⟨by omega,a6 (fun h8=>?_) (fun h8=>?_)⟩
        ·rw [h8];simp
        ·rw [Bool.not_eq_true] at h8;rw [h8];simp
       ·rw [Xf (fun e=>h7 (Xd (by omega)))];simp
      ·rw [Bool.not_eq_true] at h6;rw [h6];simp
     ·rw [Bool.not_eq_true] at h5;rw [h5];simp
    ·rw [Bool.not_eq_true,Bool.and_true,Bool.and_eq_false_iff] at h4
     rcases h4 with h4 | h4 <;> rw [h4] <;> simp
   ·rw [Xf (fun e=>h3 (Xd (by omega)))];simp
  ·rw [Bool.not_eq_true] at h2;rw [h2];simp
 ·rw [Bool.not_eq_true] at h1;rw [h1];simp
end Go.AL.Seat
end
section
open Go Go.AL Go.Proofs Go.Shelf Go.Pd
namespace Go.AL.Seat
open Go.Proofs.Tryz
variable [Tabs]
variable [SeatLaid]
theorem zr:ad prog 22 (p1 .str fun s=>.ret (.tup [.lst (.st .token) (aU s).1 none,.bool (!decide ((aU s).2.err=0))])):=
 be (ee func22) fun s hs _=>g0 (sc Cq sn) a0 func22 (Cs s hs)
theorem Cu:au prog 11:=ee func11
theorem uE (F:Str→Shape × Flt) (G:Str→Trm × Flt)  (hF:ad prog 18 (p1 .str fun s=>.ret (.tup [.st .shape (F s).1,.st .fault (F s).2]))) (hG:ad prog 20 (p1 .str fun s=>.ret (.tup [.st .term (G s).1,.st .fault (G s).2]))):ar prog 11 [] [] (.ret (.bool (ru F G))):=
 g0 (sc (hF) (sc (hG) sn)) a0 func11 (Ct F G)
theorem zt:ad prog 11 (p0 (.ret (.bool true))):=H4 Cu (zq ▸ uE o6 iH uu nk)
end Go.AL.Seat
end
