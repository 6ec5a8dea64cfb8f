/- What the functions' conditions say, proved. No condition. -/
import Derived.Test.YtdmbjejhifjhbaaGreatDoorT16
set_option linter.unusedVariables false
set_option linter.unusedSimpArgs false
set_option linter.unnecessarySimpa false
set_option linter.deprecated false
set_option linter.unusedSectionVars false
set_option maxRecDepth 100000
section
open Go Go.AL Go.Pd
namespace Go.AL.Seat
theorem E0 (n:Nat) (s:Par) (hi:a8 s) (hn:rem s < n+1) :
  let A:=ao s;let B:=(2:Int);let C:=(1:Int);let D:=inR IntKind.i64 (s.pos+C);let E:=True;let F:=(ag (n+(1:Nat)) s);let G:=(aj ([47]:Str) {toks:=s.toks,pos:=s.pos+C,err:=s.err,fat:=s.fat:Par});let H:=(cl ([91]:Str) s);let I:=ag n H;let J:=[]=F.1.pkg;let K:=[]=F.1.name;let L:=F.1.names=[];let M:=(cl ([123]:Str) H);let N:=ap (ag n);let O:=(ab ([44]:Str) ([125]:Str) N {kind:=(6:Int),pkg:=[],name:=[],names:=[],parts:=[]:Shape} M);let P:=(cl ([60]:Str) M);let Q:=(ab ([124]:Str) ([62]:Str) N {kind:=(7:Int),pkg:=[],name:=[],names:=[],parts:=[]:Shape} P);let R:=(cl ([40]:Str) P);let S:=(ab ([44]:Str) ([41]:Str) (aw (ag n)) {kind:=(8:Int),pkg:=[],name:=[],names:=[],parts:=[]:Shape} R);let T:=(aj ([45,62]:Str) S.2);let U:=List.length S.1.parts=List.length S.1.parts;let V:=(↑(List.length S.1.parts):Int);let W:=a8 s/\if isF ([91]:Str) s=true then (a8 H/\rem H<n)/\a8 I.2/\E/\(5:Int)=F.1.kind/\J/\K/\L/\[I.1]=F.1.parts/\aj ([93]:Str) I.2=F.2/\E else a8 H/\if isF ([123]:Str) H=true then (a8 M/\rem M<=n)/\E/\O.1.kind=F.1.kind/\O.1.pkg=F.1.pkg/\O.1.name=F.1.name/\O.1.names=F.1.names/\O.1.parts=F.1.parts/\O.2=F.2/\E else a8 M/\if isF ([60]:Str) M=true then (a8 P/\rem P<=n)/\E/\Q.1.kind=F.1.kind/\Q.1.pkg=F.1.pkg/\Q.1.name=F.1.name/\Q.1.names=F.1.names/\Q.1.parts=F.1.parts/\Q.2=F.2/\E else a8 P/\if isF ([40]:Str) P=true then (a8 R/\rem R<n)/\a8 S.2/\(a8 T/\rem T<n)/\(U/\(List.length S.1.parts+(1:Nat))*(88:Nat)<=(140737488355328:Nat))/\V=V/\U/\U/\U/\E/\S.1.kind=F.1.kind/\S.1.pkg=F.1.pkg/\S.1.name=F.1.name/\L/\S.1.parts++[(ag n T).1]=F.1.parts/\(ag n T).2=F.2/\E else E/\(0:Int)=F.1.kind/\J/\K/\L/\F.1.parts=[]/\cy (90:Int) A.pos R=F.2/\E;let X:=if decide (A.kind=C)=true then if (!b9 s)=true then D/\a8 {toks:=s.toks,pos:=s.pos+C,err:=s.err,fat:=s.fat:Par}/\(a8 G/\¬B=(0:Int))/\E/\mj A.text (b6 B G).1.text=F.1/\(b6 B G).2=F.2/\E else W else W;a8 s/\if decide (A.kind=B)=true then if (!b9 s)=true then D/\E/\mj [] A.text=F.1/\s.toks=F.2.toks/\s.pos+C=F.2.pos/\s.err=F.2.err/\s.fat=F.2.fat/\E else X else X:=by
 conv=>zeta
 have hG:ag (n+1) s=ml (ag n) s:=rfl
 unfold ml at hG
 dsimp only at hG
 generalize ag (n+1) s=G at hG ⊢
 refine ⟨hi,a6 (fun k2=>a6 (fun b=>?a) (fun b=>a6 (fun k1=>a6 (fun b1=>?x) (fun b1=>?t1)) (fun k1=>?t2))) (fun k2=>a6 (fun k1=>a6 (fun b=>?c) (fun b=>?t3)) (fun k1=>?t4))⟩
 case a=>
  have k2:(ao s).kind=2:=by simpa using k2
  have b:b9 s=false:=by simpa using b
  rw [if_pos ⟨k2,b⟩] at hG
  subst hG
  have hl:=fF (l:=s.toks) (a:=s.pos) (by unfold ao at k2;omega)
  have h1:=hi.1
  have h2:=hi.2.2.1
  refine ⟨an (by omega) (by omega),?_⟩
  exact Xr
 case x=>exact absurd b1 b
 case c=>
  have k2:¬(ao s).kind=2:=by simpa using k2
  have k1:(ao s).kind=1:=by simpa using k1
  have b:b9 s=false:=by simpa using b
  rw [if_neg (fun h=>k2 h.1),if_pos ⟨k1,b⟩] at hG
  subst hG
  have hl:=fF (l:=s.toks) (a:=s.pos) (by unfold ao at k1;omega)
  have h1:=hi.1
  have h2:=hi.2.2.1
  have ga:=vt hi hl
  have gm:=bF (t:=[47]) ga
  refine ⟨an (by omega) (by omega),ga,⟨gm.good,by omega⟩,?_⟩
  exact Xr
 case t1=>
  rw [if_neg (fun h=>by simp [h.2] at b),if_neg (fun h=>by simp [h.2] at b)] at hG
  refine ⟨hi,a6 (fun c=>?_) (fun c=>?_)⟩
  rotate_left
  ·rw [if_neg c] at hG
   have c:isF [91] s=false:=by simpa using c
   rw [aL c]
   refine ⟨hi,a6 (fun c=>?_) (fun c=>?_)⟩
   rotate_left
   ·rw [if_neg c] at hG
    have c:isF [123] s=false:=by simpa using c
    rw [aL c]
    refine ⟨hi,a6 (fun c=>?_) (fun c=>?_)⟩
    rotate_left
    ·rw [if_neg c] at hG
     have c:isF [60] s=false:=by simpa using c
     rw [aL c]
     refine ⟨hi,a6 (fun c=>?_) (fun c=>?_)⟩
     rotate_left
     ·rw [if_neg c] at hG
      have c:isF [40] s=false:=by simpa using c
      rw [aL c]
      subst hG
      exact Xr
     rw [if_pos c] at hG
     subst hG
     have g:=cH hi c
     have r:=aR hi c
     rw [aF c]
     have hP:ek (aw (ag n)) (n - 1):=g9 (by rw [Nat.sub_add_cancel (by omega)];exact b7 n)
     have gl:=aW hP [44] [41] ⟨8,[],[],[],[]⟩ g.good (by omega)
     have ll:=dD (fun x:Shape=>x.parts.length) (one:=aw (ag n)) (fun x s=>by simp [aw]) [44] [41] ⟨8,[],[],[],[]⟩ (aA s)
     have lk:=cx (fun x:Shape=>x.names=[]) (one:=aw (ag n)) (fun x s h=>h) [44] [41] (x:=⟨8,[],[],[],[]⟩) (aA s) rfl
     have ht:(aA s).toks=s.toks:=rfl
     have hl:=hi.2.2.1
     generalize ab [44] [41] (aw (ag n)) ⟨8,[],[],[],[]⟩ (aA s)=L at gl ll lk ⊢
     have gm:=bF (t:=[45,62]) gl.good
     simp only [ht,List.length_nil] at ll
     have hlt:rem (aj [45,62] L.2) < n:=by have:=gm.le;have:=gl.le;omega
     refine ⟨⟨g.good,by omega⟩,gl.good,⟨gm.good,hlt⟩,⟨by trivial,by omega⟩,?_⟩
     exact Xr
    rw [if_pos c] at hG
    subst hG
    have g:=cH hi c
    have r:=aR hi c
    rw [aF c]
    have gl:=aW (cM (b7 n)) [124] [62] ⟨7,[],[],[],[]⟩ g.good (by omega)
    refine ⟨⟨g.good,by omega⟩,?_⟩
    exact Xr
   rw [if_pos c] at hG
   subst hG
   have g:=cH hi c
   have r:=aR hi c
   rw [aF c]
   have gl:=aW (cM (b7 n)) [44] [125] ⟨6,[],[],[],[]⟩ g.good (by omega)
   refine ⟨⟨g.good,by omega⟩,?_⟩
   exact Xr
  rw [if_pos c] at hG
  subst hG
  have g:=cH hi c
  have r:=aR hi c
  rw [aF c]
  obtain ⟨gb,eb⟩:=b7 n _ g.good (by omega)
  refine ⟨⟨g.good,by omega⟩,gb.good,?_⟩
  exact Xr
 case t2=>
  rw [if_neg (fun h=>by simp [h.2] at b),if_neg (fun h=>by simp [h.1] at k1)] at hG
  refine ⟨hi,a6 (fun c=>?_) (fun c=>?_)⟩
  rotate_left
  ·rw [if_neg c] at hG
   have c:isF [91] s=false:=by simpa using c
   rw [aL c]
   refine ⟨hi,a6 (fun c=>?_) (fun c=>?_)⟩
   rotate_left
   ·rw [if_neg c] at hG
    have c:isF [123] s=false:=by simpa using c
    rw [aL c]
    refine ⟨hi,a6 (fun c=>?_) (fun c=>?_)⟩
    rotate_left
    ·rw [if_neg c] at hG
     have c:isF [60] s=false:=by simpa using c
     rw [aL c]
     refine ⟨hi,a6 (fun c=>?_) (fun c=>?_)⟩
     rotate_left
     ·rw [if_neg c] at hG
      have c:isF [40] s=false:=by simpa using c
      rw [aL c]
      subst hG
      exact Xr
     rw [if_pos c] at hG
     subst hG
     have g:=cH hi c
     have r:=aR hi c
     rw [aF c]
     have hP:ek (aw (ag n)) (n - 1):=g9 (by rw [Nat.sub_add_cancel (by omega)];exact b7 n)
     have gl:=aW hP [44] [41] ⟨8,[],[],[],[]⟩ g.good (by omega)
     have ll:=dD (fun x:Shape=>x.parts.length) (one:=aw (ag n)) (fun x s=>by simp [aw]) [44] [41] ⟨8,[],[],[],[]⟩ (aA s)
     have lk:=cx (fun x:Shape=>x.names=[]) (one:=aw (ag n)) (fun x s h=>h) [44] [41] (x:=⟨8,[],[],[],[]⟩) (aA s) rfl
     have ht:(aA s).toks=s.toks:=rfl
     have hl:=hi.2.2.1
     generalize ab [44] [41] (aw (ag n)) ⟨8,[],[],[],[]⟩ (aA s)=L at gl ll lk ⊢
     have gm:=bF (t:=[45,62]) gl.good
     simp only [ht,List.length_nil] at ll
     have hlt:rem (aj [45,62] L.2) < n:=by have:=gm.le;have:=gl.le;omega
     refine ⟨⟨g.good,by omega⟩,gl.good,⟨gm.good,hlt⟩,⟨by trivial,by omega⟩,?_⟩
     exact Xr
    rw [if_pos c] at hG
    subst hG
    have g:=cH hi c
    have r:=aR hi c
    rw [aF c]
    have gl:=aW (cM (b7 n)) [124] [62] ⟨7,[],[],[],[]⟩ g.good (by omega)
    refine ⟨⟨g.good,by omega⟩,?_⟩
    exact Xr
   rw [if_pos c] at hG
   subst hG
   have g:=cH hi c
   have r:=aR hi c
   rw [aF c]
   have gl:=aW (cM (b7 n)) [44] [125] ⟨6,[],[],[],[]⟩ g.good (by omega)
   refine ⟨⟨g.good,by omega⟩,?_⟩
   exact Xr
  rw [if_pos c] at hG
  subst hG
  have g:=cH hi c
  have r:=aR hi c
  rw [aF c]
  obtain ⟨gb,eb⟩:=b7 n _ g.good (by omega)
  refine ⟨⟨g.good,by omega⟩,gb.good,?_⟩
  exact Xr
 case t3=>
  rw [if_neg (fun h=>by simp [h.1] at k2),if_neg (fun h=>by simp [h.2] at b)] at hG
  refine ⟨hi,a6 (fun c=>?_) (fun c=>?_)⟩
  rotate_left
  ·rw [if_neg c] at hG
   have c:isF [91] s=false:=by simpa using c
   rw [aL c]
   refine ⟨hi,a6 (fun c=>?_) (fun c=>?_)⟩
   rotate_left
   ·rw [if_neg c] at hG
    have c:isF [123] s=false:=by simpa using c
    rw [aL c]
    refine ⟨hi,a6 (fun c=>?_) (fun c=>?_)⟩
    rotate_left
    ·rw [if_neg c] at hG
     have c:isF [60] s=false:=by simpa using c
     rw [aL c]
     refine ⟨hi,a6 (fun c=>?_) (fun c=>?_)⟩
     rotate_left
     ·rw [if_neg c] at hG
      have c:isF [40] s=false:=by simpa using c
      rw [aL c]
      subst hG
      exact Xr
     rw [if_pos c] at hG
     subst hG
     have g:=cH hi c
     have r:=aR hi c
     rw [aF c]
     have hP:ek (aw (ag n)) (n - 1):=g9 (by rw [Nat.sub_add_cancel (by omega)];exact b7 n)
     have gl:=aW hP [44] [41] ⟨8,[],[],[],[]⟩ g.good (by omega)
     have ll:=dD (fun x:Shape=>x.parts.length) (one:=aw (ag n)) (fun x s=>by simp [aw]) [44] [41] ⟨8,[],[],[],[]⟩ (aA s)
     have lk:=cx (fun x:Shape=>x.names=[]) (one:=aw (ag n)) (fun x s h=>h) [44] [41] (x:=⟨8,[],[],[],[]⟩) (aA s) rfl
     have ht:(aA s).toks=s.toks:=rfl
     have hl:=hi.2.2.1
     generalize ab [44] [41] (aw (ag n)) ⟨8,[],[],[],[]⟩ (aA s)=L at gl ll lk ⊢
     have gm:=bF (t:=[45,62]) gl.good
     simp only [ht,List.length_nil] at ll
     have hlt:rem (aj [45,62] L.2) < n:=by have:=gm.le;have:=gl.le;omega
     refine ⟨⟨g.good,by omega⟩,gl.good,⟨gm.good,hlt⟩,⟨by trivial,by omega⟩,?_⟩
     exact Xr
    rw [if_pos c] at hG
    subst hG
    have g:=cH hi c
    have r:=aR hi c
    rw [aF c]
    have gl:=aW (cM (b7 n)) [124] [62] ⟨7,[],[],[],[]⟩ g.good (by omega)
    refine ⟨⟨g.good,by omega⟩,?_⟩
    exact Xr
   rw [if_pos c] at hG
   subst hG
   have g:=cH hi c
   have r:=aR hi c
   rw [aF c]
   have gl:=aW (cM (b7 n)) [44] [125] ⟨6,[],[],[],[]⟩ g.good (by omega)
   refine ⟨⟨g.good,by omega⟩,?_⟩
   exact Xr
  rw [if_pos c] at hG
  subst hG
  have g:=cH hi c
  have r:=aR hi c
  rw [aF c]
  obtain ⟨gb,eb⟩:=b7 n _ g.good (by omega)
  refine ⟨⟨g.good,by omega⟩,gb.good,?_⟩
  exact Xr
 case t4=>
  rw [if_neg (fun h=>by simp [h.1] at k2),if_neg (fun h=>by simp [h.1] at k1)] at hG
  refine ⟨hi,a6 (fun c=>?_) (fun c=>?_)⟩
  rotate_left
  ·rw [if_neg c] at hG
   have c:isF [91] s=false:=by simpa using c
   rw [aL c]
   refine ⟨hi,a6 (fun c=>?_) (fun c=>?_)⟩
   rotate_left
   ·rw [if_neg c] at hG
    have c:isF [123] s=false:=by simpa using c
    rw [aL c]
    refine ⟨hi,a6 (fun c=>?_) (fun c=>?_)⟩
    rotate_left
    ·rw [if_neg c] at hG
     have c:isF [60] s=false:=by simpa using c
     rw [aL c]
     refine ⟨hi,a6 (fun c=>?_) (fun c=>?_)⟩
     rotate_left
     ·rw [if_neg c] at hG
      have c:isF [40] s=false:=by simpa using c
      rw [aL c]
      subst hG
      exact Xr
     rw [if_pos c] at hG
     subst hG
     have g:=cH hi c
     have r:=aR hi c
     rw [aF c]
     have hP:ek (aw (ag n)) (n - 1):=g9 (by rw [Nat.sub_add_cancel (by omega)];exact b7 n)
     have gl:=aW hP [44] [41] ⟨8,[],[],[],[]⟩ g.good (by omega)
     have ll:=dD (fun x:Shape=>x.parts.length) (one:=aw (ag n)) (fun x s=>by simp [aw]) [44] [41] ⟨8,[],[],[],[]⟩ (aA s)
     have lk:=cx (fun x:Shape=>x.names=[]) (one:=aw (ag n)) (fun x s h=>h) [44] [41] (x:=⟨8,[],[],[],[]⟩) (aA s) rfl
     have ht:(aA s).toks=s.toks:=rfl
     have hl:=hi.2.2.1
     generalize ab [44] [41] (aw (ag n)) ⟨8,[],[],[],[]⟩ (aA s)=L at gl ll lk ⊢
     have gm:=bF (t:=[45,62]) gl.good
     simp only [ht,List.length_nil] at ll
     have hlt:rem (aj [45,62] L.2) < n:=by have:=gm.le;have:=gl.le;omega
     refine ⟨⟨g.good,by omega⟩,gl.good,⟨gm.good,hlt⟩,⟨by trivial,by omega⟩,?_⟩
     exact Xr
    rw [if_pos c] at hG
    subst hG
    have g:=cH hi c
    have r:=aR hi c
    rw [aF c]
    have gl:=aW (cM (b7 n)) [124] [62] ⟨7,[],[],[],[]⟩ g.good (by omega)
    refine ⟨⟨g.good,by omega⟩,?_⟩
    exact Xr
   rw [if_pos c] at hG
   subst hG
   have g:=cH hi c
   have r:=aR hi c
   rw [aF c]
   have gl:=aW (cM (b7 n)) [44] [125] ⟨6,[],[],[],[]⟩ g.good (by omega)
   refine ⟨⟨g.good,by omega⟩,?_⟩
   exact Xr
  rw [if_pos c] at hG
  subst hG
  have g:=cH hi c
  have r:=aR hi c
  rw [aF c]
  obtain ⟨gb,eb⟩:=b7 n _ g.good (by omega)
  refine ⟨⟨g.good,by omega⟩,gb.good,?_⟩
  exact Xr
theorem E1 (s:Par)  (ho:a8 s) :
  let A:=ag big s;let B:=bW s;let C:=True/\A.1=B.1/\A.2=B.2/\True;a8 s/\(a8 s/\rem s<big)/\if (!b9 A.2)=true then if (!decide (dO A.1=(0:Int)))=true then True/\A.1=B.1/\cy (dO A.1) (ao s).pos A.2=B.2/\True else C else C:=by
 conv=>zeta
 have hb:rem s < big:=by have:=nT ho;unfold big;omega
 have g:=(b7 big s ho hb).1.good
 unfold bW
 dsimp only
 generalize ag big s=y at g ⊢
 refine ⟨ho,⟨ho,hb⟩,a6 (fun c=>?_) (fun c=>?_)⟩
 ·have c:¬b9 y.2=true:=by simpa using c
  rw [if_neg c]
  refine a6 (fun d=>?_) (fun d=>?_)
  ·have d:¬dO y.1=0:=by simpa using d
   rw [if_neg d]
   exact Xr
  ·have d:dO y.1=0:=by simpa using d
   rw [if_pos d]
   exact Xr
 ·have c:b9 y.2=true:=by simpa using c
  rw [if_pos c]
  exact Xr
theorem Bj (n:Nat) (x:Trm) (s:Par) (hi:a8 s) (hn:rem s < n) (zn:x.names=[]) (zv:x.vars=[]) (zs:x.shapes=[]) (zp:x.parts=[]) :
  let A:=([]:List Nat);let B:=List.length A=(0:Nat);let C:=a7 n s;(a8 s/\rem s<n)/\(1:Nat)*(152:Nat)<=(140737488355328:Nat)/\(0:Int)=(↑(List.length A):Int)/\B/\B/\B/\True/\x.kind=x.kind/\x.pkg=x.pkg/\x.name=x.name/\x.n=x.n/\[]++[C.1]=x.parts++[C.1]/\x.pos=x.pos/\C.2=C.2/\(0:Nat)+(1:Nat)=List.length (x.parts++[C.1])/\True:=by
 conv=>zeta
 refine ⟨⟨hi,hn⟩,?_⟩
 repeat (first | exact trivial | refine ⟨by first | rfl | trivial | omega | (simp only [aq,cA,eI,co,az,bu,ai,cK,ah,List.length_append,List.length_singleton];done) | (simp only [zn];done) | (simp only [zv,List.nil_append];done) | (simp only [zs,List.nil_append];done) | (simp only [zp,List.nil_append];done) | (simp [zs];done) | (simp [zp];done),?_⟩)
theorem Bk (n:Nat) (x:Trm) (s:Par) (hi:a8 s) (hn:rem s < n) (zn:x.names=[]) (zv:x.vars=[]) (zs:x.shapes=[]) (hl:x.parts.length<=100000) :
  let A:=List.length x.parts=List.length x.parts;let B:=(↑(List.length x.parts):Int);let C:=a7 n s;(a8 s/\rem s<n)/\(A/\(List.length x.parts+(1:Nat))*(152:Nat)<=(140737488355328:Nat))/\B=B/\A/\A/\A/\True/\x.kind=x.kind/\x.pkg=x.pkg/\x.name=x.name/\x.n=x.n/\x.parts++[C.1]=x.parts++[C.1]/\x.pos=x.pos/\List.length x.parts+(1:Nat)=List.length (x.parts++[C.1])/\C.2=C.2/\True:=by
 conv=>zeta
 refine ⟨⟨hi,hn⟩,⟨by trivial,by omega⟩,?_⟩
 repeat (first | exact trivial | refine ⟨by first | rfl | trivial | omega | (simp only [aq,cA,eI,co,az,bu,ai,cK,ah,List.length_append,List.length_singleton];done) | (simp only [zn];done) | (simp only [zv,List.nil_append];done) | (simp only [zs,List.nil_append];done) | (simp only [zp,List.nil_append];done) | (simp [zs];done) | (simp [zp];done),?_⟩)
theorem yg (n:Nat) (x:Trm) (s:Par) (hi:a8 s) (hn:rem s < n) (zv:x.vars=[]) (zp:x.parts=[]) (hl:x.names.length+x.shapes.length<=100000) :
  let A:=([]:List Nat);let B:=List.length A=(0:Nat);let C:=a7 n s;(a8 s/\rem s<n)/\(1:Nat)*(152:Nat)<=(140737488355328:Nat)/\(0:Int)=(↑(List.length A):Int)/\B/\B/\B/\True/\x.kind=x.kind/\x.pkg=x.pkg/\x.name=x.name/\x.n=x.n/\x.names=x.names/\x.shapes=x.shapes/\[]++[C.1]=x.parts++[C.1]/\x.pos=x.pos/\List.length x.names=List.length x.names/\List.length x.shapes=List.length x.shapes/\C.2=C.2/\(0:Nat)+(1:Nat)=List.length (x.parts++[C.1])/\True:=by
 conv=>zeta
 refine ⟨⟨hi,hn⟩,?_⟩
 repeat (first | exact trivial | refine ⟨by first | rfl | trivial | omega | (simp only [aq,cA,eI,co,az,bu,ai,cK,ah,List.length_append,List.length_singleton];done) | (simp only [zn];done) | (simp only [zv,List.nil_append];done) | (simp only [zs,List.nil_append];done) | (simp only [zp,List.nil_append];done) | (simp [zs];done) | (simp [zp];done),?_⟩)
theorem ub (n:Nat) (x:Trm) (s:Par) (hi:a8 s) (hn:rem s < n) (hl:x.names.length+x.vars.length+x.shapes.length+x.parts.length<=100000) :
  let A:=List.length x.parts=List.length x.parts;let B:=(↑(List.length x.parts):Int);let C:=a7 n s;(a8 s/\rem s<n)/\(A/\(List.length x.parts+(1:Nat))*(152:Nat)<=(140737488355328:Nat))/\B=B/\A/\A/\A/\True/\x.kind=x.kind/\x.pkg=x.pkg/\x.name=x.name/\x.n=x.n/\x.names=x.names/\x.vars=x.vars/\x.shapes=x.shapes/\x.parts++[C.1]=x.parts++[C.1]/\x.pos=x.pos/\List.length x.names=List.length x.names/\List.length x.vars=List.length x.vars/\List.length x.shapes=List.length x.shapes/\List.length x.parts+(1:Nat)=List.length (x.parts++[C.1])/\C.2=C.2/\True:=by
 conv=>zeta
 refine ⟨⟨hi,hn⟩,⟨by trivial,by omega⟩,?_⟩
 repeat (first | exact trivial | refine ⟨by first | rfl | trivial | omega | (simp only [aq,cA,eI,co,az,bu,ai,cK,ah,List.length_append,List.length_singleton];done) | (simp only [zn];done) | (simp only [zv,List.nil_append];done) | (simp only [zs,List.nil_append];done) | (simp only [zp,List.nil_append];done) | (simp [zs];done) | (simp [zp];done),?_⟩)
theorem Bl (n:Nat) (x:Trm) (s:Par) (hi:a8 s) (hn:rem s < n) (zn:x.names=[]) (zv:x.vars=[]) (zs:x.shapes=[]) (hl:x.parts.length<=100000) :
  let A:=List.length x.parts=List.length x.parts;let B:=(↑(List.length x.parts):Int);let C:=a7 n s;(a8 s/\rem s<n)/\(A/\(List.length x.parts+(1:Nat))*(152:Nat)<=(140737488355328:Nat))/\B=B/\A/\A/\A/\True/\x.kind=x.kind/\x.pkg=x.pkg/\x.name=x.name/\x.n=x.n/\x.parts++[C.1]=x.parts++[C.1]/\x.pos=x.pos/\List.length x.parts+(1:Nat)=List.length (x.parts++[C.1])/\C.2=C.2/\True:=by
 conv=>zeta
 refine ⟨⟨hi,hn⟩,⟨by trivial,by omega⟩,?_⟩
 repeat (first | exact trivial | refine ⟨by first | rfl | trivial | omega | (simp only [aq,cA,eI,co,az,bu,ai,cK,ah,List.length_append,List.length_singleton];done) | (simp only [zn];done) | (simp only [zv,List.nil_append];done) | (simp only [zs,List.nil_append];done) | (simp only [zp,List.nil_append];done) | (simp [zs];done) | (simp [zp];done),?_⟩)
theorem Bm (x:Trm) (a:Str) (s:Par) (hi:a8 s) (zv:x.vars=[]) (zp:x.parts=[]) (hl:x.names.length+x.shapes.length<=100000) :
  let A:=List.length x.shapes=List.length x.shapes;let B:=(↑(List.length x.shapes):Int);let C:=bW (aj a s);a8 s/\a8 (aj a s)/\(A/\(List.length x.shapes+(1:Nat))*(88:Nat)<=(140737488355328:Nat))/\B=B/\A/\A/\A/\True/\x.kind=x.kind/\x.pkg=x.pkg/\x.name=x.name/\x.n=x.n/\x.names=x.names/\x.shapes++[C.1]=x.shapes++[C.1]/\x.pos=x.pos/\C.2=C.2/\List.length x.names=List.length x.names/\List.length x.shapes+(1:Nat)=List.length (x.shapes++[C.1])/\True:=by
 conv=>zeta
 refine ⟨hi,(bF hi).good,?_⟩
 repeat (first | exact trivial | refine ⟨by first | rfl | trivial | omega | (simp only [aq,cA,eI,co,az,bu,ai,cK,ah,List.length_append,List.length_singleton];done) | (simp only [zn];done) | (simp only [zv,List.nil_append];done) | (simp only [zs,List.nil_append];done) | (simp only [zp,List.nil_append];done) | (simp [zs];done) | (simp [zp];done),?_⟩)
theorem E2 (x:Trm) (a:Str) (s:Par) (hi:a8 s) (zn:x.names=[]) (zv:x.vars=[]) (zs:x.shapes=[]) (hl:x.parts.length<=100000) :
  let A:=([]:List Nat);let B:=List.length A=(0:Nat);let C:=bW (aj a s);a8 s/\a8 (aj a s)/\(1:Nat)*(88:Nat)<=(140737488355328:Nat)/\(0:Int)=(↑(List.length A):Int)/\B/\B/\B/\True/\x.kind=x.kind/\x.pkg=x.pkg/\x.name=x.name/\x.n=x.n/\[]++[C.1]=x.shapes++[C.1]/\x.parts=x.parts/\x.pos=x.pos/\C.2=C.2/\List.length x.parts=List.length x.parts/\(0:Nat)+(1:Nat)=List.length (x.shapes++[C.1])/\True:=by
 conv=>zeta
 refine ⟨hi,(bF hi).good,?_⟩
 repeat (first | exact trivial | refine ⟨by first | rfl | trivial | omega | (simp only [aq,cA,eI,co,az,bu,ai,cK,ah,List.length_append,List.length_singleton];done) | (simp only [zn];done) | (simp only [zv,List.nil_append];done) | (simp only [zs,List.nil_append];done) | (simp only [zp,List.nil_append];done) | (simp [zs];done) | (simp [zp];done),?_⟩)
theorem vY (x:Trm) (a:Str) (s:Par) (hi:a8 s) (hl:x.names.length+x.vars.length+x.shapes.length+x.parts.length<=100000) :
  let A:=List.length x.shapes=List.length x.shapes;let B:=(↑(List.length x.shapes):Int);let C:=bW (aj a s);a8 s/\a8 (aj a s)/\(A/\(List.length x.shapes+(1:Nat))*(88:Nat)<=(140737488355328:Nat))/\B=B/\A/\A/\A/\True/\x.kind=x.kind/\x.pkg=x.pkg/\x.name=x.name/\x.n=x.n/\x.names=x.names/\x.vars=x.vars/\x.shapes++[C.1]=x.shapes++[C.1]/\x.parts=x.parts/\x.pos=x.pos/\C.2=C.2/\List.length x.names=List.length x.names/\List.length x.vars=List.length x.vars/\List.length x.shapes+(1:Nat)=List.length (x.shapes++[C.1])/\List.length x.parts=List.length x.parts/\True:=by
 conv=>zeta
 refine ⟨hi,(bF hi).good,?_⟩
 repeat (first | exact trivial | refine ⟨by first | rfl | trivial | omega | (simp only [aq,cA,eI,co,az,bu,ai,cK,ah,List.length_append,List.length_singleton];done) | (simp only [zn];done) | (simp only [zv,List.nil_append];done) | (simp only [zs,List.nil_append];done) | (simp only [zp,List.nil_append];done) | (simp [zs];done) | (simp [zp];done),?_⟩)
theorem E3 (n:Nat) (x:Trm) (s:Par) (hi:a8 s) (h0:s.err=0) (hn:rem s<=n) (zv:x.vars=[]) (zs:x.shapes=[]) (hl:x.names.length+x.parts.length<=100000) :
  let A:=bP x.names s;let B:=(140737488355328:Nat);let C:=(aj ([61]:Str) A.2);let D:=List.length x.parts=List.length x.parts;let E:=(↑(List.length x.parts):Int);let F:=ah (a7 n) x s;let G:=[(a7 n C).1];let H:=bu x A.1;a8 s/\(List.length x.names=List.length x.names/\(List.length x.names+List.length [A.1])*(16:Nat)<=B)/\a8 A.2/\(a8 C/\rem C<n)/\(D/\(List.length x.parts+(1:Nat))*(152:Nat)<=B)/\E=E/\D/\D/\D/\True/\x.kind=F.1.kind/\x.pkg=F.1.pkg/\x.name=F.1.name/\x.n=F.1.n/\x.names++[A.1]=F.1.names/\x.parts++G=H.parts++G/\x.pos=F.1.pos/\List.length (x.names++[A.1])=List.length F.1.names/\List.length x.parts+(1:Nat)=List.length (H.parts++G)/\(a7 n C).2=F.2/\True:=by
 conv=>zeta
 have m1:=dE (ns:=x.names) hi
 have m2:=m1.then (ak (t:=[61]) m1.good)
 have hlt:=m2.lt hn h0
 refine ⟨hi,⟨by trivial,by simp only [List.length_singleton];omega⟩,m1.good,⟨m2.good,hlt⟩,⟨by trivial,by omega⟩,?_⟩
 repeat (first | exact trivial | refine ⟨by first | rfl | trivial | omega | (simp only [aq,cA,eI,co,az,bu,ai,cK,ah,List.length_append,List.length_singleton];done) | (simp only [zn];done) | (simp only [zv,List.nil_append];done) | (simp only [zs,List.nil_append];done) | (simp only [zp,List.nil_append];done) | (simp [zs];done) | (simp [zp];done),?_⟩)
theorem GM (x:Trm) (s:Par) (hi:a8 s) (zv:x.vars=[]) (zp:x.parts=[]) (hl:x.names.length+x.shapes.length<=90000) :
  let A:=bP x.names s;let B:=x.names++[A.1];let C:=az x s;let D:=(bW (aj ([58]:Str) A.2));let E:=[D.1];let F:=bu x A.1;a8 s/\(List.length x.names=List.length x.names/\(List.length x.names+List.length [A.1])*(16:Nat)<=(140737488355328:Nat))/\(a8 A.2/\List.length B=List.length B/\List.length x.shapes=List.length x.shapes/\List.length B+List.length x.shapes<=(100000:Nat))/\True/\x.kind=C.1.kind/\x.pkg=C.1.pkg/\x.name=C.1.name/\x.n=C.1.n/\x.names++[A.1]=C.1.names/\x.shapes++E=F.shapes++E/\x.pos=C.1.pos/\List.length B=List.length C.1.names/\List.length (x.shapes++E)=List.length (F.shapes++E)/\D.2=C.2/\True:=by
 conv=>zeta
 have m1:=dE (ns:=x.names) hi
 have m2:=ak (t:=[58]) m1.good
 refine ⟨hi,⟨by trivial,by simp only [List.length_singleton];omega⟩,⟨m1.good,by trivial,by trivial,by simp only [List.length_append,List.length_singleton];omega⟩,?_⟩
 repeat (first | exact trivial | refine ⟨by first | rfl | trivial | omega | (simp only [aq,cA,eI,co,az,bu,ai,cK,ah,List.length_append,List.length_singleton];done) | (simp only [zn];done) | (simp only [zv,List.nil_append];done) | (simp only [zs,List.nil_append];done) | (simp only [zp,List.nil_append];done) | (simp [zs];done) | (simp [zp];done),?_⟩)
theorem GN (n:Nat) (x:Trm) (s:Par) (hi:a8 s) (h0:s.err=0) (hn:rem s<=n) (hl:x.names.length+x.vars.length+x.shapes.length+x.parts.length<=90000) :
  let A:=bP x.names s;let B:=(140737488355328:Nat);let C:=(aj ([40]:Str) A.2);let D:=(b6 (1:Int) C);let E:=[D.1.text];let F:=x.names++[A.1];let G:=List.length F=List.length F;let H:=x.vars++E;let I:=List.length H=List.length H;let J:=List.length x.parts=List.length x.parts;let K:=(100000:Nat);let L:=(bW (aj ([58]:Str) D.2));let M:=(aj ([41]:Str) L.2);let N:=([45,62]:Str);let O:=aj N M;let P:=x.shapes++[L.1];let Q:=ai (a7 n) x s;let R:=[(a7 n O).1];let S:=(eI ([58]:Str) (cK (bu x A.1) D.1.text) D.2);let T:=[(a7 n (aj N (aj ([41]:Str) S.2))).1];a8 s/\(List.length x.names=List.length x.names/\(List.length x.names+List.length [A.1])*(16:Nat)<=B)/\a8 A.2/\(a8 C/\¬(1:Int)=(0:Int))/\(List.length x.vars=List.length x.vars/\(List.length x.vars+List.length E)*(16:Nat)<=B)/\(a8 D.2/\G/\I/\List.length x.shapes=List.length x.shapes/\J/\List.length F+List.length H+List.length x.shapes+List.length x.parts<=K)/\a8 L.2/\a8 M/\(a8 O/\rem O<n/\G/\I/\List.length P=List.length P/\J/\List.length F+List.length H+List.length P+List.length x.parts<=K)/\True/\x.kind=Q.1.kind/\x.pkg=Q.1.pkg/\x.name=Q.1.name/\x.n=Q.1.n/\x.names++[A.1]=Q.1.names/\x.vars++E=Q.1.vars/\x.shapes++[L.1]=Q.1.shapes/\x.parts++R=S.1.parts++T/\x.pos=Q.1.pos/\List.length F=List.length Q.1.names/\List.length H=List.length Q.1.vars/\List.length P=List.length Q.1.shapes/\List.length (x.parts++R)=List.length (S.1.parts++T)/\(a7 n O).2=Q.2/\True:=by
 conv=>zeta
 have m1:=dE (ns:=x.names) hi
 have m2:=m1.then (ak (t:=[40]) m1.good)
 have m3:=m2.then (bY (k:=1) m2.good (by decide))
 have m4:=m3.then ((ak (t:=[58]) m3.good).then (gD (ak (t:=[58]) m3.good).good))
 have m5:=m4.then (ak (t:=[41]) m4.good)
 have m6:=m5.then (ak (t:=[45,62]) m5.good)
 have hlt:=m6.lt hn h0
 refine ⟨hi,⟨by trivial,by simp only [List.length_singleton];omega⟩,m1.good,⟨m2.good,by decide⟩,⟨by trivial,by simp only [List.length_singleton];omega⟩,
  ⟨m3.good,by trivial,by trivial,by trivial,by trivial,by simp only [List.length_append,List.length_singleton];omega⟩,m4.good,m5.good,
  ⟨m6.good,hlt,by trivial,by trivial,by trivial,by trivial,by simp only [List.length_append,List.length_singleton];omega⟩,?_⟩
 repeat (first | exact trivial | refine ⟨by first | rfl | trivial | omega | (simp only [aq,cA,eI,co,az,bu,ai,cK,ah,List.length_append,List.length_singleton];done) | (simp only [zn];done) | (simp only [zv,List.nil_append];done) | (simp only [zs,List.nil_append];done) | (simp only [zp,List.nil_append];done) | (simp [zs];done) | (simp [zp];done),?_⟩)
theorem E4 (n:Nat) (s:Par)  (ho:a8 s/\rem (aj [40] s) < n) :
  let A:=(aj ([40]:Str) s);let B:=a7 n A;let C:=cU (a7 n) s;a8 s/\(a8 A/\rem A<n)/\a8 B.2/\True/\[B.1]=C.1/\aj ([41]:Str) B.2=C.2/\True:=by
 conv=>zeta
 have m1:=ak (t:=[40]) ho.1
 have m2:=dj n _ m1.good ho.2
 refine ⟨ho.1,⟨m1.good,ho.2⟩,m2.1.good,?_⟩
 repeat (first | exact trivial | refine ⟨by first | rfl | trivial | omega | (simp only [aq,cA,eI,co,az,bu,ai,cK,ah,List.length_append,List.length_singleton];done) | (simp only [zn];done) | (simp only [zv,List.nil_append];done) | (simp only [zs,List.nil_append];done) | (simp only [zp,List.nil_append];done) | (simp [zs];done) | (simp [zp];done),?_⟩)
theorem FH (n:Nat) (k pp z:Int) (g q:Str) (b e:Str) (s:Par) (hi:a8 s) (hn:rem s<=n) :
  let A:=True;let B:=(ab b e az {kind:=k,pkg:=g,name:=q,n:=z,names:=[],vars:=[],shapes:=[],parts:=[],pos:=pp:Trm} s);let C:=(0:Nat);let D:=(5000:Nat);let E:=([58]:Str);a8 s/\if isF e s=true then A/\cl e s=B.2/\k=B.1.kind/\g=B.1.pkg/\q=B.1.name/\z=B.1.n/\B.1.names=[]/\B.1.shapes=[]/\pp=B.1.pos/\List.length B.1.names=C/\List.length B.1.shapes=C/\A else (∃(x:Nat × Trm × Par),(a8 x.2.2/\rem x.2.2<x.1/\rem x.2.2<=n/\List.length x.2.1.names+x.1<=D/\List.length x.2.1.shapes+x.1<=D/\x.2.1.vars=[]/\x.2.1.parts=[]/\bc b e az x.1 x.2.1 x.2.2=ab b e az {kind:=k,pkg:=g,name:=q,n:=z,names:=[],vars:=[],shapes:=[],parts:=[],pos:=pp:Trm} s)/\b=b/\e=e/\false=false/\cl e s=x.2.2/\k=x.2.1.kind/\g=x.2.1.pkg/\q=x.2.1.name/\z=x.2.1.n/\x.2.1.names=[]/\x.2.1.shapes=[]/\pp=x.2.1.pos/\List.length x.2.1.names=C/\List.length x.2.1.shapes=C/\A)/\∀(x:Nat × Trm × Par),let F:=a8 x.2.2;let G:=(az {kind:=x.2.1.kind,pkg:=x.2.1.pkg,name:=x.2.1.name,n:=x.2.1.n,names:=x.2.1.names,vars:=[],shapes:=x.2.1.shapes,parts:=[],pos:=x.2.1.pos:Trm} x.2.2);let H:=bP x.2.1.names x.2.2;let I:=(bu {kind:=x.2.1.kind,pkg:=x.2.1.pkg,name:=x.2.1.name,n:=x.2.1.n,names:=x.2.1.names,vars:=[],shapes:=x.2.1.shapes,parts:=[],pos:=x.2.1.pos:Trm} H.1);let J:=[(bW (aj E H.2)).1];let K:=I.shapes++J;let L:=cl e G.2;F/\rem x.2.2<x.1/\rem x.2.2<=n/\List.length x.2.1.names+x.1<=D/\List.length x.2.1.shapes+x.1<=D/\x.2.1.vars=[]/\x.2.1.parts=[]/\bc b e az x.1 x.2.1 x.2.2=ab b e az {kind:=k,pkg:=g,name:=q,n:=z,names:=[],vars:=[],shapes:=[],parts:=[],pos:=pp:Trm} s→if (!b9 x.2.2)=true then (F/\List.length x.2.1.names=List.length x.2.1.names/\List.length x.2.1.shapes=List.length x.2.1.shapes/\List.length x.2.1.names+List.length x.2.1.shapes<=(90000:Nat))/\a8 G.2/\if isF e G.2=true then A/\cl e G.2=B.2/\G.1.kind=B.1.kind/\G.1.pkg=B.1.pkg/\G.1.name=B.1.name/\G.1.n=B.1.n/\G.1.names=B.1.names/\I.shapes++J=B.1.shapes/\G.1.pos=B.1.pos/\List.length G.1.names=List.length B.1.names/\List.length K=List.length B.1.shapes/\A else a8 L/\∃(y:Nat × Trm × Par),(a8 y.2.2/\rem y.2.2<y.1/\rem y.2.2<=n/\List.length y.2.1.names+y.1<=D/\List.length y.2.1.shapes+y.1<=D/\y.2.1.vars=[]/\y.2.1.parts=[]/\bc b e az y.1 y.2.1 y.2.2=ab b e az {kind:=k,pkg:=g,name:=q,n:=z,names:=[],vars:=[],shapes:=[],parts:=[],pos:=pp:Trm} s)/\y.1<x.1/\b=b/\e=e/\false=false/\aj b L=y.2.2/\G.1.kind=y.2.1.kind/\G.1.pkg=y.2.1.pkg/\G.1.name=y.2.1.name/\G.1.n=y.2.1.n/\G.1.names=y.2.1.names/\I.shapes++J=y.2.1.shapes/\G.1.pos=y.2.1.pos/\List.length G.1.names=List.length y.2.1.names/\List.length K=List.length y.2.1.shapes/\A else A/\x.2.2=B.2/\x.2.1.kind=B.1.kind/\x.2.1.pkg=B.1.pkg/\x.2.1.name=B.1.name/\x.2.1.n=B.1.n/\x.2.1.names=B.1.names/\x.2.1.shapes=B.1.shapes/\x.2.1.pos=B.1.pos/\List.length x.2.1.names=List.length B.1.names/\List.length x.2.1.shapes=List.length B.1.shapes/\A:=by
 conv=>zeta
 have hl:=hi.2.2.1
 have hF:ab b e (az) ⟨k,g,q,z,[],[],[],[],pp⟩ s=if isF e s=true then (⟨k,g,q,z,[],[],[],[],pp⟩,aA s) else bc b e (az) (s.toks.length+2) ⟨k,g,q,z,[],[],[],[],pp⟩ s:=rfl
 have hrd:ek (az) n:=jn n
 generalize ab b e (az) ⟨k,g,q,z,[],[],[],[],pp⟩ s=fin at hF ⊢
 refine ⟨hi,a6 (fun h=>?_) (fun h=>?_)⟩
 ·rw [if_pos h] at hF
  subst hF
  refine ⟨trivial,aF h,?_⟩
  exact Xr
 ·rw [if_neg h] at hF
  have h:isF e s=false:=by simpa using h
  rw [aL h]
  refine ⟨⟨(s.toks.length+2,⟨k,g,q,z,[],[],[],[],pp⟩,s),⟨hi,by show rem s < _;have h1:=hi.1;have h2:=hi.2.1;unfold rem;split <;> omega,hn,by show 0+_<=_;omega,by show 0+_<=_;omega,rfl,rfl,hF.symm⟩,?_⟩,?_⟩
  ·exact Xr
  rintro ⟨j,x,s1⟩ ⟨i1,i2,i3,ln,ls,kv,kp,i6⟩
  simp only at i1 i2 i3 ln ls kv kp i6 ⊢
  have ex:(⟨x.kind,x.pkg,x.name,x.n,x.names,[],x.shapes,[],x.pos⟩:Trm)=x:=by cases x;simp_all
  try rw [ex]
  refine a6 (fun hb=>?_) (fun hb=>?_)
  ·have h0:s1.err=0:=dC.1 (by simpa using hb)
   obtain ⟨j,rfl⟩:∃m,j=m+1:=⟨j - 1,by omega⟩
   have hp:=cP h0
   obtain ⟨gg,ea⟩:=hrd x s1 i1 h0 (by omega)
   have hbf:¬b9 s1=true:=by simp [b9,h0]
   simp only [bc,if_neg hbf] at i6
   refine ⟨⟨i1,by trivial,by trivial,by omega⟩,gg.good,a6 (fun c=>?_) (fun c=>?_)⟩
   ·rw [if_pos c] at i6
    subst i6
    refine ⟨trivial,aF c,?_⟩
    exact Xr
   ·have c:isF e (az x s1).2=false:=by simpa using c
    rw [if_neg (by simp [c])] at i6
    rw [aL c]
    obtain ⟨n1,n2,n3,n4⟩:=fe hrd (btw:=b) (en:=e) (x:=x) i1 h0 (by omega) i2
    refine ⟨gg.good,(j,(az x s1).1,aj b (az x s1).2),⟨n1,n4,n3,by show (x.names++[_]).length+j<=5000;simp only [List.length_append,List.length_singleton];omega,by show (x.shapes++[_]).length+j<=5000;simp only [List.length_append,List.length_singleton];omega,kv,kp,i6⟩,by show j < j+1;omega,?_⟩
    exact Xr
  ·have h0:¬s1.err=0:=cb.1 (by simpa using hb)
   have hbf:b9 s1=true:=cb.2 h0
   have:(x,s1)=fin:=by
    rw [←i6]
    cases j with
    | zero=>rfl
    | succ j=>simp only [bc,if_pos hbf]
   subst this
   refine ⟨trivial,rfl,?_⟩
   exact Xr
theorem FI (n:Nat) (k pp z:Int) (g q:Str) (us:List Trm) (b e:Str) (s:Par) (hi:a8 s) (hn:rem s<=n) (hu:us.length<=1) :
  let A:=True;let B:=a7 n;let C:=ai B;let D:=(ab b e C {kind:=k,pkg:=g,name:=q,n:=z,names:=[],vars:=[],shapes:=[],parts:=us,pos:=pp:Trm} s);let E:=(0:Nat);let F:=(5000:Nat);let G:=([58]:Str);let H:=(1:Int);let I:=([40]:Str);let J:=([45,62]:Str);let K:=([41]:Str);a8 s/\if isF e s=true then A/\cl e s=D.2/\k=D.1.kind/\g=D.1.pkg/\q=D.1.name/\z=D.1.n/\D.1.names=[]/\D.1.vars=[]/\D.1.shapes=[]/\us=D.1.parts/\pp=D.1.pos/\List.length us=List.length D.1.parts/\List.length D.1.names=E/\List.length D.1.vars=E/\List.length D.1.shapes=E/\A else (∃(x:Nat × Trm × Par),(a8 x.2.2/\rem x.2.2<x.1/\rem x.2.2<=n/\List.length x.2.1.names+x.1<=F/\List.length x.2.1.vars+x.1<=F/\List.length x.2.1.shapes+x.1<=F/\List.length x.2.1.parts+x.1<=F/\bc b e C x.1 x.2.1 x.2.2=ab b e C {kind:=k,pkg:=g,name:=q,n:=z,names:=[],vars:=[],shapes:=[],parts:=us,pos:=pp:Trm} s)/\b=b/\e=e/\false=false/\cl e s=x.2.2/\k=x.2.1.kind/\g=x.2.1.pkg/\q=x.2.1.name/\z=x.2.1.n/\x.2.1.names=[]/\x.2.1.vars=[]/\x.2.1.shapes=[]/\us=x.2.1.parts/\pp=x.2.1.pos/\List.length x.2.1.names=E/\List.length x.2.1.vars=E/\List.length x.2.1.shapes=E/\List.length us=List.length x.2.1.parts/\A)/\∀(x:Nat × Trm × Par),let L:=a8 x.2.2;let M:=rem x.2.2<=n;let N:=ai B x.2.1 x.2.2;let O:=bP x.2.1.names x.2.2;let P:=b6 H (aj I O.2);let Q:=eI G (cK (bu x.2.1 O.1) P.1.text) P.2;let R:=[(a7 n (aj J (aj K Q.2))).1];let S:=Q.1.parts++R;let T:=cl e N.2;L/\rem x.2.2<x.1/\M/\List.length x.2.1.names+x.1<=F/\List.length x.2.1.vars+x.1<=F/\List.length x.2.1.shapes+x.1<=F/\List.length x.2.1.parts+x.1<=F/\bc b e C x.1 x.2.1 x.2.2=ab b e C {kind:=k,pkg:=g,name:=q,n:=z,names:=[],vars:=[],shapes:=[],parts:=us,pos:=pp:Trm} s→if (!b9 x.2.2)=true then (L/\x.2.2.err=(0:Int)/\M/\List.length x.2.1.names=List.length x.2.1.names/\List.length x.2.1.vars=List.length x.2.1.vars/\List.length x.2.1.shapes=List.length x.2.1.shapes/\List.length x.2.1.parts=List.length x.2.1.parts/\List.length x.2.1.names+List.length x.2.1.vars+List.length x.2.1.shapes+List.length x.2.1.parts<=(90000:Nat))/\a8 N.2/\if isF e N.2=true then A/\cl e N.2=D.2/\N.1.kind=D.1.kind/\N.1.pkg=D.1.pkg/\N.1.name=D.1.name/\N.1.n=D.1.n/\N.1.names=D.1.names/\N.1.vars=D.1.vars/\N.1.shapes=D.1.shapes/\Q.1.parts++R=D.1.parts/\N.1.pos=D.1.pos/\List.length S=List.length D.1.parts/\List.length N.1.names=List.length D.1.names/\List.length N.1.vars=List.length D.1.vars/\List.length N.1.shapes=List.length D.1.shapes/\A else a8 T/\∃(y:Nat × Trm × Par),(a8 y.2.2/\rem y.2.2<y.1/\rem y.2.2<=n/\List.length y.2.1.names+y.1<=F/\List.length y.2.1.vars+y.1<=F/\List.length y.2.1.shapes+y.1<=F/\List.length y.2.1.parts+y.1<=F/\bc b e C y.1 y.2.1 y.2.2=ab b e C {kind:=k,pkg:=g,name:=q,n:=z,names:=[],vars:=[],shapes:=[],parts:=us,pos:=pp:Trm} s)/\y.1<x.1/\b=b/\e=e/\false=false/\aj b T=y.2.2/\N.1.kind=y.2.1.kind/\N.1.pkg=y.2.1.pkg/\N.1.name=y.2.1.name/\N.1.n=y.2.1.n/\N.1.names=y.2.1.names/\N.1.vars=y.2.1.vars/\N.1.shapes=y.2.1.shapes/\Q.1.parts++R=y.2.1.parts/\N.1.pos=y.2.1.pos/\List.length N.1.names=List.length y.2.1.names/\List.length N.1.vars=List.length y.2.1.vars/\List.length N.1.shapes=List.length y.2.1.shapes/\List.length S=List.length y.2.1.parts/\A else A/\x.2.2=D.2/\x.2.1.kind=D.1.kind/\x.2.1.pkg=D.1.pkg/\x.2.1.name=D.1.name/\x.2.1.n=D.1.n/\x.2.1.names=D.1.names/\x.2.1.vars=D.1.vars/\x.2.1.shapes=D.1.shapes/\x.2.1.parts=D.1.parts/\x.2.1.pos=D.1.pos/\List.length x.2.1.parts=List.length D.1.parts/\List.length x.2.1.names=List.length D.1.names/\List.length x.2.1.vars=List.length D.1.vars/\List.length x.2.1.shapes=List.length D.1.shapes/\A:=by
 conv=>zeta
 have hl:=hi.2.2.1
 have hF:ab b e (ai (a7 n)) ⟨k,g,q,z,[],[],[],us,pp⟩ s=if isF e s=true then (⟨k,g,q,z,[],[],[],us,pp⟩,aA s) else bc b e (ai (a7 n)) (s.toks.length+2) ⟨k,g,q,z,[],[],[],us,pp⟩ s:=rfl
 have hrd:ek (ai (a7 n)) n:=jo (dj n)
 generalize ab b e (ai (a7 n)) ⟨k,g,q,z,[],[],[],us,pp⟩ s=fin at hF ⊢
 refine ⟨hi,a6 (fun h=>?_) (fun h=>?_)⟩
 ·rw [if_pos h] at hF
  subst hF
  refine ⟨trivial,aF h,?_⟩
  exact Xr
 ·rw [if_neg h] at hF
  have h:isF e s=false:=by simpa using h
  rw [aL h]
  refine ⟨⟨(s.toks.length+2,⟨k,g,q,z,[],[],[],us,pp⟩,s),⟨hi,by show rem s < _;have h1:=hi.1;have h2:=hi.2.1;unfold rem;split <;> omega,hn,by show 0+_<=_;omega,by show 0+_<=_;omega,by show 0+_<=_;omega,by show us.length+_<=_;omega,hF.symm⟩,?_⟩,?_⟩
  ·exact Xr
  rintro ⟨j,x,s1⟩ ⟨i1,i2,i3,ln,lv,ls,lp,i6⟩
  simp only at i1 i2 i3 ln lv ls lp i6 ⊢
  have ex:(⟨x.kind,x.pkg,x.name,x.n,x.names,x.vars,x.shapes,x.parts,x.pos⟩:Trm)=x:=by cases x;simp_all
  try rw [ex]
  refine a6 (fun hb=>?_) (fun hb=>?_)
  ·have h0:s1.err=0:=dC.1 (by simpa using hb)
   obtain ⟨j,rfl⟩:∃m,j=m+1:=⟨j - 1,by omega⟩
   have hp:=cP h0
   obtain ⟨gg,ea⟩:=hrd x s1 i1 h0 (by omega)
   have hbf:¬b9 s1=true:=by simp [b9,h0]
   simp only [bc,if_neg hbf] at i6
   refine ⟨⟨i1,h0,i3,by trivial,by trivial,by trivial,by trivial,by omega⟩,gg.good,a6 (fun c=>?_) (fun c=>?_)⟩
   ·rw [if_pos c] at i6
    subst i6
    refine ⟨trivial,aF c,?_⟩
    exact Xr
   ·have c:isF e (ai (a7 n) x s1).2=false:=by simpa using c
    rw [if_neg (by simp [c])] at i6
    rw [aL c]
    obtain ⟨n1,n2,n3,n4⟩:=fe hrd (btw:=b) (en:=e) (x:=x) i1 h0 (by omega) i2
    refine ⟨gg.good,(j,(ai (a7 n) x s1).1,aj b (ai (a7 n) x s1).2),⟨n1,n4,n3,by show (x.names++[_]).length+j<=5000;simp only [List.length_append,List.length_singleton];omega,by show (x.vars++[_]).length+j<=5000;simp only [List.length_append,List.length_singleton];omega,by show (x.shapes++[_]).length+j<=5000;simp only [List.length_append,List.length_singleton];omega,by show (x.parts++[_]).length+j<=5000;simp only [List.length_append,List.length_singleton];omega,i6⟩,by show j < j+1;omega,?_⟩
    exact Xr
  ·have h0:¬s1.err=0:=cb.1 (by simpa using hb)
   have hbf:b9 s1=true:=cb.2 h0
   have:(x,s1)=fin:=by
    rw [←i6]
    cases j with
    | zero=>rfl
    | succ j=>simp only [bc,if_pos hbf]
   subst this
   refine ⟨trivial,rfl,?_⟩
   exact Xr
theorem E5 (n:Nat) (k pp z:Int) (g q:Str) (b e:Str) (s:Par) (hi:a8 s) (hn:rem s < n) :
  let A:=True;let B:=aq (a7 n);let C:=(ab b e B {kind:=k,pkg:=g,name:=q,n:=z,names:=[],vars:=[],shapes:=[],parts:=[],pos:=pp:Trm} s);let D:=(5000:Nat);a8 s/\if isF e s=true then A/\cl e s=C.2/\k=C.1.kind/\g=C.1.pkg/\q=C.1.name/\z=C.1.n/\C.1.parts=[]/\pp=C.1.pos/\List.length C.1.parts=(0:Nat)/\A else (∃(x:Nat × Trm × Par),(a8 x.2.2/\rem x.2.2<x.1/\rem x.2.2<n/\List.length x.2.1.parts+x.1<=D/\x.2.1.names=[]/\x.2.1.vars=[]/\x.2.1.shapes=[]/\bc b e B x.1 x.2.1 x.2.2=ab b e B {kind:=k,pkg:=g,name:=q,n:=z,names:=[],vars:=[],shapes:=[],parts:=[],pos:=pp:Trm} s)/\b=b/\e=e/\false=false/\cl e s=x.2.2/\k=x.2.1.kind/\g=x.2.1.pkg/\q=x.2.1.name/\z=x.2.1.n/\x.2.1.parts=[]/\pp=x.2.1.pos/\List.length x.2.1.parts=(0:Nat)/\A)/\∀(x:Nat × Trm × Par),let E:=a8 x.2.2;let F:=rem x.2.2<n;let G:=a7 n x.2.2;let H:=x.2.1.kind=C.1.kind;let I:=x.2.1.pkg=C.1.pkg;let J:=x.2.1.name=C.1.name;let K:=x.2.1.n=C.1.n;let L:=x.2.1.pos=C.1.pos;let M:=x.2.1.parts++[G.1];let N:=cl e G.2;E/\rem x.2.2<x.1/\F/\List.length x.2.1.parts+x.1<=D/\x.2.1.names=[]/\x.2.1.vars=[]/\x.2.1.shapes=[]/\bc b e B x.1 x.2.1 x.2.2=ab b e B {kind:=k,pkg:=g,name:=q,n:=z,names:=[],vars:=[],shapes:=[],parts:=[],pos:=pp:Trm} s→if (!b9 x.2.2)=true then (E/\F/\List.length x.2.1.parts=List.length x.2.1.parts/\List.length x.2.1.parts<=(100000:Nat))/\a8 G.2/\if isF e G.2=true then A/\cl e G.2=C.2/\H/\I/\J/\K/\x.2.1.parts++[G.1]=C.1.parts/\L/\List.length M=List.length C.1.parts/\A else a8 N/\∃(y:Nat × Trm × Par),(a8 y.2.2/\rem y.2.2<y.1/\rem y.2.2<n/\List.length y.2.1.parts+y.1<=D/\y.2.1.names=[]/\y.2.1.vars=[]/\y.2.1.shapes=[]/\bc b e B y.1 y.2.1 y.2.2=ab b e B {kind:=k,pkg:=g,name:=q,n:=z,names:=[],vars:=[],shapes:=[],parts:=[],pos:=pp:Trm} s)/\y.1<x.1/\b=b/\e=e/\false=false/\aj b N=y.2.2/\x.2.1.kind=y.2.1.kind/\x.2.1.pkg=y.2.1.pkg/\x.2.1.name=y.2.1.name/\x.2.1.n=y.2.1.n/\x.2.1.parts++[G.1]=y.2.1.parts/\x.2.1.pos=y.2.1.pos/\List.length M=List.length y.2.1.parts/\A else A/\x.2.2=C.2/\H/\I/\J/\K/\x.2.1.parts=C.1.parts/\L/\List.length x.2.1.parts=List.length C.1.parts/\A:=by
 conv=>zeta
 have hl:=hi.2.2.1
 have hF:ab b e (aq (a7 n)) ⟨k,g,q,z,[],[],[],[],pp⟩ s=if isF e s=true then (⟨k,g,q,z,[],[],[],[],pp⟩,aA s) else bc b e (aq (a7 n)) (s.toks.length+2) ⟨k,g,q,z,[],[],[],[],pp⟩ s:=rfl
 have hrd:ek (aq (a7 n)) (n - 1):=df (by rw [Nat.sub_add_cancel (by omega)];exact dj n)
 generalize ab b e (aq (a7 n)) ⟨k,g,q,z,[],[],[],[],pp⟩ s=fin at hF ⊢
 refine ⟨hi,a6 (fun h=>?_) (fun h=>?_)⟩
 ·rw [if_pos h] at hF
  subst hF
  refine ⟨trivial,aF h,?_⟩
  exact Xr
 ·rw [if_neg h] at hF
  have h:isF e s=false:=by simpa using h
  rw [aL h]
  refine ⟨⟨(s.toks.length+2,⟨k,g,q,z,[],[],[],[],pp⟩,s),⟨hi,by show rem s < _;have h1:=hi.1;have h2:=hi.2.1;unfold rem;split <;> omega,hn,by show 0+_<=_;omega,rfl,rfl,rfl,hF.symm⟩,?_⟩,?_⟩
  ·exact Xr
  rintro ⟨j,x,s1⟩ ⟨i1,i2,i3,lp,kn,kv,ks,i6⟩
  simp only at i1 i2 i3 lp kn kv ks i6 ⊢
  have ex:(⟨x.kind,x.pkg,x.name,x.n,[],[],[],x.parts,x.pos⟩:Trm)=x:=by cases x;simp_all
  try rw [ex]
  rw [show (a7 n s1).2=(aq (a7 n) x s1).2 from rfl]
  refine a6 (fun hb=>?_) (fun hb=>?_)
  ·have h0:s1.err=0:=dC.1 (by simpa using hb)
   obtain ⟨j,rfl⟩:∃m,j=m+1:=⟨j - 1,by omega⟩
   have hp:=cP h0
   obtain ⟨gg,ea⟩:=hrd x s1 i1 h0 (by omega)
   have hbf:¬b9 s1=true:=by simp [b9,h0]
   simp only [bc,if_neg hbf] at i6
   refine ⟨⟨i1,i3,by trivial,by omega⟩,gg.good,a6 (fun c=>?_) (fun c=>?_)⟩
   ·rw [if_pos c] at i6
    subst i6
    refine ⟨trivial,aF c,?_⟩
    exact Xr
   ·have c:isF e (aq (a7 n) x s1).2=false:=by simpa using c
    rw [if_neg (by simp [c])] at i6
    rw [aL c]
    obtain ⟨n1,n2,n3,n4⟩:=fe hrd (btw:=b) (en:=e) (x:=x) i1 h0 (by omega) i2
    refine ⟨gg.good,(j,(aq (a7 n) x s1).1,aj b (aq (a7 n) x s1).2),⟨n1,n4,by show rem (aj b _) < n;omega,by show (x.parts++[_]).length+j<=5000;simp only [List.length_append,List.length_singleton];omega,kn,kv,ks,i6⟩,by show j < j+1;omega,?_⟩
    exact Xr
  ·have h0:¬s1.err=0:=cb.1 (by simpa using hb)
   have hbf:b9 s1=true:=cb.2 h0
   have:(x,s1)=fin:=by
    rw [←i6]
    cases j with
    | zero=>rfl
    | succ j=>simp only [bc,if_pos hbf]
   subst this
   refine ⟨trivial,rfl,?_⟩
   exact Xr
theorem Bn (n:Nat) (k pp z:Int) (g q:Str) (b e:Str) (s:Par) (hi:a8 s) (hn:rem s<=n) :
  let A:=True;let B:=a7 n;let C:=ah B;let D:=(ab b e C {kind:=k,pkg:=g,name:=q,n:=z,names:=[],vars:=[],shapes:=[],parts:=[],pos:=pp:Trm} s);let E:=(0:Nat);let F:=(5000:Nat);let G:=([61]:Str);a8 s/\if isF e s=true then A/\cl e s=D.2/\k=D.1.kind/\g=D.1.pkg/\q=D.1.name/\z=D.1.n/\D.1.names=[]/\D.1.parts=[]/\pp=D.1.pos/\List.length D.1.names=E/\List.length D.1.parts=E/\A else (∃(x:Nat × Trm × Par),(a8 x.2.2/\rem x.2.2<x.1/\rem x.2.2<=n/\List.length x.2.1.names+x.1<=F/\List.length x.2.1.parts+x.1<=F/\x.2.1.vars=[]/\x.2.1.shapes=[]/\bc b e C x.1 x.2.1 x.2.2=ab b e C {kind:=k,pkg:=g,name:=q,n:=z,names:=[],vars:=[],shapes:=[],parts:=[],pos:=pp:Trm} s)/\b=b/\e=e/\false=false/\cl e s=x.2.2/\k=x.2.1.kind/\g=x.2.1.pkg/\q=x.2.1.name/\z=x.2.1.n/\x.2.1.names=[]/\x.2.1.parts=[]/\pp=x.2.1.pos/\List.length x.2.1.names=E/\List.length x.2.1.parts=E/\A)/\∀(x:Nat × Trm × Par),let H:=a8 x.2.2;let I:=rem x.2.2<=n;let J:=(ah B {kind:=x.2.1.kind,pkg:=x.2.1.pkg,name:=x.2.1.name,n:=x.2.1.n,names:=x.2.1.names,vars:=[],shapes:=[],parts:=x.2.1.parts,pos:=x.2.1.pos:Trm} x.2.2);let K:=bP x.2.1.names x.2.2;let L:=(bu {kind:=x.2.1.kind,pkg:=x.2.1.pkg,name:=x.2.1.name,n:=x.2.1.n,names:=x.2.1.names,vars:=[],shapes:=[],parts:=x.2.1.parts,pos:=x.2.1.pos:Trm} K.1);let M:=[(a7 n (aj G K.2)).1];let N:=L.parts++M;let O:=cl e J.2;H/\rem x.2.2<x.1/\I/\List.length x.2.1.names+x.1<=F/\List.length x.2.1.parts+x.1<=F/\x.2.1.vars=[]/\x.2.1.shapes=[]/\bc b e C x.1 x.2.1 x.2.2=ab b e C {kind:=k,pkg:=g,name:=q,n:=z,names:=[],vars:=[],shapes:=[],parts:=[],pos:=pp:Trm} s→if (!b9 x.2.2)=true then (H/\x.2.2.err=(0:Int)/\I/\List.length x.2.1.names=List.length x.2.1.names/\List.length x.2.1.parts=List.length x.2.1.parts/\List.length x.2.1.names+List.length x.2.1.parts<=(100000:Nat))/\a8 J.2/\if isF e J.2=true then A/\cl e J.2=D.2/\J.1.kind=D.1.kind/\J.1.pkg=D.1.pkg/\J.1.name=D.1.name/\J.1.n=D.1.n/\J.1.names=D.1.names/\L.parts++M=D.1.parts/\J.1.pos=D.1.pos/\List.length J.1.names=List.length D.1.names/\List.length N=List.length D.1.parts/\A else a8 O/\∃(y:Nat × Trm × Par),(a8 y.2.2/\rem y.2.2<y.1/\rem y.2.2<=n/\List.length y.2.1.names+y.1<=F/\List.length y.2.1.parts+y.1<=F/\y.2.1.vars=[]/\y.2.1.shapes=[]/\bc b e C y.1 y.2.1 y.2.2=ab b e C {kind:=k,pkg:=g,name:=q,n:=z,names:=[],vars:=[],shapes:=[],parts:=[],pos:=pp:Trm} s)/\y.1<x.1/\b=b/\e=e/\false=false/\aj b O=y.2.2/\J.1.kind=y.2.1.kind/\J.1.pkg=y.2.1.pkg/\J.1.name=y.2.1.name/\J.1.n=y.2.1.n/\J.1.names=y.2.1.names/\L.parts++M=y.2.1.parts/\J.1.pos=y.2.1.pos/\List.length J.1.names=List.length y.2.1.names/\List.length N=List.length y.2.1.parts/\A else A/\x.2.2=D.2/\x.2.1.kind=D.1.kind/\x.2.1.pkg=D.1.pkg/\x.2.1.name=D.1.name/\x.2.1.n=D.1.n/\x.2.1.names=D.1.names/\x.2.1.parts=D.1.parts/\x.2.1.pos=D.1.pos/\List.length x.2.1.names=List.length D.1.names/\List.length x.2.1.parts=List.length D.1.parts/\A:=by
 conv=>zeta
 have hl:=hi.2.2.1
 have hF:ab b e (ah (a7 n)) ⟨k,g,q,z,[],[],[],[],pp⟩ s=if isF e s=true then (⟨k,g,q,z,[],[],[],[],pp⟩,aA s) else bc b e (ah (a7 n)) (s.toks.length+2) ⟨k,g,q,z,[],[],[],[],pp⟩ s:=rfl
 have hrd:ek (ah (a7 n)) n:=iR (dj n)
 generalize ab b e (ah (a7 n)) ⟨k,g,q,z,[],[],[],[],pp⟩ s=fin at hF ⊢
 refine ⟨hi,a6 (fun h=>?_) (fun h=>?_)⟩
 ·rw [if_pos h] at hF
  subst hF
  refine ⟨trivial,aF h,?_⟩
  exact Xr
 ·rw [if_neg h] at hF
  have h:isF e s=false:=by simpa using h
  rw [aL h]
  refine ⟨⟨(s.toks.length+2,⟨k,g,q,z,[],[],[],[],pp⟩,s),⟨hi,by show rem s < _;have h1:=hi.1;have h2:=hi.2.1;unfold rem;split <;> omega,hn,by show 0+_<=_;omega,by show 0+_<=_;omega,rfl,rfl,hF.symm⟩,?_⟩,?_⟩
  ·exact Xr
  rintro ⟨j,x,s1⟩ ⟨i1,i2,i3,ln,lp,kv,ks,i6⟩
  simp only at i1 i2 i3 ln lp kv ks i6 ⊢
  have ex:(⟨x.kind,x.pkg,x.name,x.n,x.names,[],[],x.parts,x.pos⟩:Trm)=x:=by cases x;simp_all
  try rw [ex]
  refine a6 (fun hb=>?_) (fun hb=>?_)
  ·have h0:s1.err=0:=dC.1 (by simpa using hb)
   obtain ⟨j,rfl⟩:∃m,j=m+1:=⟨j - 1,by omega⟩
   have hp:=cP h0
   obtain ⟨gg,ea⟩:=hrd x s1 i1 h0 (by omega)
   have hbf:¬b9 s1=true:=by simp [b9,h0]
   simp only [bc,if_neg hbf] at i6
   refine ⟨⟨i1,h0,i3,by trivial,by trivial,by omega⟩,gg.good,a6 (fun c=>?_) (fun c=>?_)⟩
   ·rw [if_pos c] at i6
    subst i6
    refine ⟨trivial,aF c,?_⟩
    exact Xr
   ·have c:isF e (ah (a7 n) x s1).2=false:=by simpa using c
    rw [if_neg (by simp [c])] at i6
    rw [aL c]
    obtain ⟨n1,n2,n3,n4⟩:=fe hrd (btw:=b) (en:=e) (x:=x) i1 h0 (by omega) i2
    refine ⟨gg.good,(j,(ah (a7 n) x s1).1,aj b (ah (a7 n) x s1).2),⟨n1,n4,n3,by show (x.names++[_]).length+j<=5000;simp only [List.length_append,List.length_singleton];omega,by show (x.parts++[_]).length+j<=5000;simp only [List.length_append,List.length_singleton];omega,kv,ks,i6⟩,by show j < j+1;omega,?_⟩
    exact Xr
  ·have h0:¬s1.err=0:=cb.1 (by simpa using hb)
   have hbf:b9 s1=true:=cb.2 h0
   have:(x,s1)=fin:=by
    rw [←i6]
    cases j with
    | zero=>rfl
    | succ j=>simp only [bc,if_pos hbf]
   subst this
   refine ⟨trivial,rfl,?_⟩
   exact Xr
theorem E6 (n:Nat) (k pp z:Int) (g q:Str) (us:List Trm) (b e:Str) (s:Par) (hi:a8 s) (hn:rem s < n) (hu:us.length<=1) :
  let A:=True;let B:=aq (a7 n);let C:=(ab b e B {kind:=k,pkg:=g,name:=q,n:=z,names:=[],vars:=[],shapes:=[],parts:=us,pos:=pp:Trm} s);let D:=(5000:Nat);a8 s/\if isF e s=true then A/\cl e s=C.2/\k=C.1.kind/\g=C.1.pkg/\q=C.1.name/\z=C.1.n/\us=C.1.parts/\pp=C.1.pos/\List.length us=List.length C.1.parts/\A else (∃(x:Nat × Trm × Par),(a8 x.2.2/\rem x.2.2<x.1/\rem x.2.2<n/\List.length x.2.1.parts+x.1<=D/\x.2.1.names=[]/\x.2.1.vars=[]/\x.2.1.shapes=[]/\bc b e B x.1 x.2.1 x.2.2=ab b e B {kind:=k,pkg:=g,name:=q,n:=z,names:=[],vars:=[],shapes:=[],parts:=us,pos:=pp:Trm} s)/\b=b/\e=e/\false=false/\cl e s=x.2.2/\k=x.2.1.kind/\g=x.2.1.pkg/\q=x.2.1.name/\z=x.2.1.n/\us=x.2.1.parts/\pp=x.2.1.pos/\List.length us=List.length x.2.1.parts/\A)/\∀(x:Nat × Trm × Par),let E:=a8 x.2.2;let F:=rem x.2.2<n;let G:=a7 n x.2.2;let H:=x.2.1.kind=C.1.kind;let I:=x.2.1.pkg=C.1.pkg;let J:=x.2.1.name=C.1.name;let K:=x.2.1.n=C.1.n;let L:=x.2.1.pos=C.1.pos;let M:=x.2.1.parts++[G.1];let N:=cl e G.2;E/\rem x.2.2<x.1/\F/\List.length x.2.1.parts+x.1<=D/\x.2.1.names=[]/\x.2.1.vars=[]/\x.2.1.shapes=[]/\bc b e B x.1 x.2.1 x.2.2=ab b e B {kind:=k,pkg:=g,name:=q,n:=z,names:=[],vars:=[],shapes:=[],parts:=us,pos:=pp:Trm} s→if (!b9 x.2.2)=true then (E/\F/\List.length x.2.1.parts=List.length x.2.1.parts/\List.length x.2.1.parts<=(100000:Nat))/\a8 G.2/\if isF e G.2=true then A/\cl e G.2=C.2/\H/\I/\J/\K/\x.2.1.parts++[G.1]=C.1.parts/\L/\List.length M=List.length C.1.parts/\A else a8 N/\∃(y:Nat × Trm × Par),(a8 y.2.2/\rem y.2.2<y.1/\rem y.2.2<n/\List.length y.2.1.parts+y.1<=D/\y.2.1.names=[]/\y.2.1.vars=[]/\y.2.1.shapes=[]/\bc b e B y.1 y.2.1 y.2.2=ab b e B {kind:=k,pkg:=g,name:=q,n:=z,names:=[],vars:=[],shapes:=[],parts:=us,pos:=pp:Trm} s)/\y.1<x.1/\b=b/\e=e/\false=false/\aj b N=y.2.2/\x.2.1.kind=y.2.1.kind/\x.2.1.pkg=y.2.1.pkg/\x.2.1.name=y.2.1.name/\x.2.1.n=y.2.1.n/\x.2.1.parts++[G.1]=y.2.1.parts/\x.2.1.pos=y.2.1.pos/\List.length M=List.length y.2.1.parts/\A else A/\x.2.2=C.2/\H/\I/\J/\K/\x.2.1.parts=C.1.parts/\L/\List.length x.2.1.parts=List.length C.1.parts/\A:=by
 conv=>zeta
 have hl:=hi.2.2.1
 have hF:ab b e (aq (a7 n)) ⟨k,g,q,z,[],[],[],us,pp⟩ s=if isF e s=true then (⟨k,g,q,z,[],[],[],us,pp⟩,aA s) else bc b e (aq (a7 n)) (s.toks.length+2) ⟨k,g,q,z,[],[],[],us,pp⟩ s:=rfl
 have hrd:ek (aq (a7 n)) (n - 1):=df (by rw [Nat.sub_add_cancel (by omega)];exact dj n)
 generalize ab b e (aq (a7 n)) ⟨k,g,q,z,[],[],[],us,pp⟩ s=fin at hF ⊢
 refine ⟨hi,a6 (fun h=>?_) (fun h=>?_)⟩
 ·rw [if_pos h] at hF
  subst hF
  refine ⟨trivial,aF h,?_⟩
  exact Xr
 ·rw [if_neg h] at hF
  have h:isF e s=false:=by simpa using h
  rw [aL h]
  refine ⟨⟨(s.toks.length+2,⟨k,g,q,z,[],[],[],us,pp⟩,s),⟨hi,by show rem s < _;have h1:=hi.1;have h2:=hi.2.1;unfold rem;split <;> omega,hn,by show us.length+_<=_;omega,rfl,rfl,rfl,hF.symm⟩,?_⟩,?_⟩
  ·exact Xr
  rintro ⟨j,x,s1⟩ ⟨i1,i2,i3,lp,kn,kv,ks,i6⟩
  simp only at i1 i2 i3 lp kn kv ks i6 ⊢
  have ex:(⟨x.kind,x.pkg,x.name,x.n,[],[],[],x.parts,x.pos⟩:Trm)=x:=by cases x;simp_all
  try rw [ex]
  rw [show (a7 n s1).2=(aq (a7 n) x s1).2 from rfl]
  refine a6 (fun hb=>?_) (fun hb=>?_)
  ·have h0:s1.err=0:=dC.1 (by simpa using hb)
   obtain ⟨j,rfl⟩:∃m,j=m+1:=⟨j - 1,by omega⟩
   have hp:=cP h0
   obtain ⟨gg,ea⟩:=hrd x s1 i1 h0 (by omega)
   have hbf:¬b9 s1=true:=by simp [b9,h0]
   simp only [bc,if_neg hbf] at i6
   refine ⟨⟨i1,i3,by trivial,by omega⟩,gg.good,a6 (fun c=>?_) (fun c=>?_)⟩
   ·rw [if_pos c] at i6
    subst i6
    refine ⟨trivial,aF c,?_⟩
    exact Xr
   ·have c:isF e (aq (a7 n) x s1).2=false:=by simpa using c
    rw [if_neg (by simp [c])] at i6
    rw [aL c]
    obtain ⟨n1,n2,n3,n4⟩:=fe hrd (btw:=b) (en:=e) (x:=x) i1 h0 (by omega) i2
    refine ⟨gg.good,(j,(aq (a7 n) x s1).1,aj b (aq (a7 n) x s1).2),⟨n1,n4,by show rem (aj b _) < n;omega,by show (x.parts++[_]).length+j<=5000;simp only [List.length_append,List.length_singleton];omega,kn,kv,ks,i6⟩,by show j < j+1;omega,?_⟩
    exact Xr
  ·have h0:¬s1.err=0:=cb.1 (by simpa using hb)
   have hbf:b9 s1=true:=cb.2 h0
   have:(x,s1)=fin:=by
    rw [←i6]
    cases j with
    | zero=>rfl
    | succ j=>simp only [bc,if_pos hbf]
   subst this
   refine ⟨trivial,rfl,?_⟩
   exact Xr
theorem FJ (n:Nat) (s:Par)  (ho:a8 s/\rem s < n+1) :
  let A:=(1:Nat);let B:=a7 n;let C:=ao s;let D:=C.pos=C.pos;let E:=(0:Int);let F:=jk UInt8=jk UInt8;let G:=E=E/\F/\F/\E=E/\E=E/\True;let H:=([40]:Str);let I:=([44]:Str);let J:=([41]:Str);let K:=aq B;let L:=([46]:Str);let M:=(1:Int);let N:=fE B s;a8 s/\(a8 s/\rem s<n+A)/\(∃(x:Nat × Trm × Par),(a8 x.2.2/\rem x.2.2<x.1/\rem x.2.2<n+A/\fQ B C.pos x.1 x.2.1 x.2.2=fE B s)/\D/\(dB B s).2=x.2.2/\(dB B s).1=x.2.1/\G)/\∀(x:Nat × Trm × Par),let O:=a8 x.2.2;let P:=cl H x.2.2;let Q:=[x.2.1];let R:=(ab I J K {kind:=(7:Int),pkg:=[],name:=[],n:=E,names:=[],vars:=[],shapes:=[],parts:=Q,pos:=C.pos:Trm} P);let S:=b6 M (cl L P);let T:=x.2.1=N.1;O/\rem x.2.2<x.1/\rem x.2.2<n+A/\fQ B C.pos x.1 x.2.1 x.2.2=fE B s→if (!b9 x.2.2)=true then O/\if isF H x.2.2=true then (a8 P/\rem P<n/\List.length Q=List.length Q/\List.length Q<=A)/\∃(y:Nat × Trm × Par),(a8 y.2.2/\rem y.2.2<y.1/\rem y.2.2<n+A/\fQ B C.pos y.1 y.2.1 y.2.2=fE B s)/\y.1<x.1/\D/\R.2=y.2.2/\R.1.kind=y.2.1.kind/\R.1.pkg=y.2.1.pkg/\R.1.name=y.2.1.name/\R.1.n=y.2.1.n/\y.2.1.names=[]/\y.2.1.vars=[]/\y.2.1.shapes=[]/\R.1.parts=y.2.1.parts/\R.1.pos=y.2.1.pos/\G else a8 P/\if isF L P=true then (a8 (cl L P)/\¬M=E)/\∃(y:Nat × Trm × Par),(a8 y.2.2/\rem y.2.2<y.1/\rem y.2.2<n+A/\fQ B C.pos y.1 y.2.1 y.2.2=fE B s)/\y.1<x.1/\D/\S.2=y.2.2/\(9:Int)=y.2.1.kind/\[]=y.2.1.pkg/\S.1.text=y.2.1.name/\E=y.2.1.n/\y.2.1.names=[]/\y.2.1.vars=[]/\y.2.1.shapes=[]/\Q=y.2.1.parts/\C.pos=y.2.1.pos/\G else True/\T/\cl L P=N.2/\True else True/\T/\x.2.2=N.2/\True:=by
 conv=>zeta
 have hR:=dj n
 have hr4:=nT ho.1
 have ha:=jP hR ho.1 ho.2
 have hpF:fE (a7 n) s=fQ (a7 n) (ao s).pos (s.toks.length+2) (dB (a7 n) s).1 (dB (a7 n) s).2:=rfl
 generalize fE (a7 n) s=fin at hpF ⊢
 generalize (ao s).pos=p at hpF ⊢
 have hq:rem (dB (a7 n) s).2 < s.toks.length+2:=by
  have h1:=ha.good.1;have h2:=ha.good.2.1;have h3:=ha.goes.toks
  rw [h3] at h2
  unfold rem;rw [h3];split <;> omega
 have hq2:=ha.goes.le
 have hg:=ha.good
 have ho2:=ho.2
 refine ⟨ho.1,ho,⟨(s.toks.length+2,(dB (a7 n) s).1,(dB (a7 n) s).2),⟨hg,hq,by show rem (dB (a7 n) s).2 < _;omega,hpF.symm⟩,?_⟩,?_⟩
 ·exact Xr
 rintro ⟨j,t,s1⟩ ⟨i1,i2,i3,i4⟩
 simp only at i1 i2 i3 i4 ⊢
 refine a6 (fun hb=>?_) (fun hb=>?_)
 ·have hbf:b9 s1=false:=by simpa using hb
  obtain ⟨j,rfl⟩:∃m,j=m+1:=⟨j - 1,by omega⟩
  simp only [fQ,hbf,Bool.false_eq_true,if_false] at i4
  refine ⟨i1,a6 (fun c=>?_) (fun c=>?_)⟩
  ·rw [if_pos c] at i4
   rw [aF c]
   have m:=aJ i1 c
   have r:=aR i1 c
   have hp:=cP (dP c).2
   have hRp:ek (aq (a7 n)) (n - 1):=df (by
    by_cases h:n=0
    ·subst h;omega
    ·rw [Nat.sub_add_cancel (by omega)];exact hR)
   have hn1:rem (aA s1) < n:=by omega
   have g:=aW hRp [44] [41] (⟨7,[],[],0,[],[],[],[t],p⟩:Trm) m.good (by omega)
   have kn:=cx (fun x:Trm=>x.names=[]) (one:=aq (a7 n)) (fun x s h=>h) [44] [41] (x:=⟨7,[],[],0,[],[],[],[t],p⟩) (aA s1) rfl
   have kv:=cx (fun x:Trm=>x.vars=[]) (one:=aq (a7 n)) (fun x s h=>h) [44] [41] (x:=⟨7,[],[],0,[],[],[],[t],p⟩) (aA s1) rfl
   have ks:=cx (fun x:Trm=>x.shapes=[]) (one:=aq (a7 n)) (fun x s h=>h) [44] [41] (x:=⟨7,[],[],0,[],[],[],[t],p⟩) (aA s1) rfl
   generalize ab [44] [41] (aq (a7 n)) (⟨7,[],[],0,[],[],[],[t],p⟩:Trm) (aA s1)=L at i4 g kn kv ks ⊢
   have gl:=g.le
   refine ⟨⟨m.good,hn1,by trivial,by simp⟩,(j,L.1,L.2),⟨g.good,by show rem L.2 < j;omega,by show rem L.2 < n+1;omega,i4⟩,by show j < j+1;omega,?_⟩
   repeat (first | exact trivial | refine ⟨by first | rfl | trivial | exact kn | exact kv | exact ks,?_⟩)
  ·rw [if_neg c] at i4
   have c:isF [40] s1=false:=by simpa using c
   rw [aL c]
   refine ⟨i1,a6 (fun d=>?_) (fun d=>?_)⟩
   ·rw [if_pos d] at i4
    rw [aF d]
    have m:=aJ i1 d
    have r:=aR i1 d
    have k:=bY (k:=1) m.good (by decide)
    have kl:=k.goes.le
    refine ⟨⟨m.good,by decide⟩,(j,_,_),⟨k.good,by show rem (b6 1 (aA s1)).2 < j;omega,by show rem (b6 1 (aA s1)).2 < n+1;omega,i4⟩,by show j < j+1;omega,?_⟩
    exact Xr
   ·rw [if_neg d] at i4
    have d:isF [46] s1=false:=by simpa using d
    rw [aL d]
    subst i4
    exact Xr
 ·have hbf:b9 s1=true:=by simpa using hb
  have:(t,s1)=fin:=by
   rw [←i4]
   cases j with
   | zero=>rfl
   | succ j=>simp only [fQ,if_pos hbf]
  subst this
  exact Xr
end Go.AL.Seat
end
