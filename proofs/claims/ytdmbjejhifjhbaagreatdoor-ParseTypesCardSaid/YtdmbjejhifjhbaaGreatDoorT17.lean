/- What the functions' conditions say, proved. No condition. -/
import Derived.Test.YtdmbjejhifjhbaaGreatDoorT16
set_option linter.unusedVariables false
set_option linter.unusedSimpArgs false
set_option linter.unnecessarySimpa false
set_option linter.deprecated false
set_option linter.unusedSectionVars false
set_option maxRecDepth 100000
section
open Go Go.AL Go.Pd
namespace Go.AL.Seat
namespace C0y
def A0 (b:Str)(e:Str)(n:Nat)(k:Int)(s:Par):=(ad b e (aw (ag n)) {kind:=k,pkg:=[],name:=[],names:=[],parts:=[]:Shape} s)
def B0 (b:Str)(e:Str)(n:Nat)(x:Nat × Shape × Par)(k:Int)(s:Par):=bS b e (aw (ag n)) x.1 x.2.1 x.2.2=ad b e (aw (ag n)) {kind:=k,pkg:=[],name:=[],names:=[],parts:=[]:Shape} s
def C0 (x:Nat × Shape × Par)(n:Nat)(b:Str)(e:Str)(k:Int)(s:Par):=(a8 x.2.2/\rem x.2.2<x.1/\rem x.2.2<n/\List.length x.2.1.parts+x.1<=(5000:Nat)/\x.2.1.names=[]/\(B0 b e n x k s))
def D0 (n:Nat)(x:Nat × Shape × Par):=(aw (ag n) {kind:=x.2.1.kind,pkg:=x.2.1.pkg,name:=x.2.1.name,names:=[],parts:=x.2.1.parts:Shape} x.2.2)
end C0y
open C0y in
theorem Fy (n:Nat) (b e:Str) (k:Int) (s:Par) (hi:a8 s) (hn:rem s < n) :
  a8 s/\if isF e s=true then True/\bF e s=(A0 b e n k s).2/\k=(A0 b e n k s).1.kind/\[]=(A0 b e n k s).1.pkg/\[]=(A0 b e n k s).1.name/\(A0 b e n k s).1.parts=[]/\List.length (A0 b e n k s).1.parts=(0:Nat)/\True else (∃(x:Nat × Shape × Par),(C0 x n b e k s)/\b=b/\e=e/\false=false/\bF e s=x.2.2/\k=x.2.1.kind/\[]=x.2.1.pkg/\[]=x.2.1.name/\x.2.1.parts=[]/\List.length x.2.1.parts=(0:Nat)/\True)/\∀(x:Nat × Shape × Par),a8 x.2.2/\rem x.2.2<x.1/\rem x.2.2<n/\List.length x.2.1.parts+x.1<=(5000:Nat)/\x.2.1.names=[]/\(B0 b e n x k s)→if (!aV x.2.2)=true then (a8 x.2.2/\rem x.2.2<n/\List.length x.2.1.parts=List.length x.2.1.parts/\List.length x.2.1.parts<=(100000:Nat))/\a8 (D0 n x).2/\if isF e (D0 n x).2=true then True/\bF e (D0 n x).2=(A0 b e n k s).2/\(D0 n x).1.kind=(A0 b e n k s).1.kind/\(D0 n x).1.pkg=(A0 b e n k s).1.pkg/\(D0 n x).1.name=(A0 b e n k s).1.name/\(D0 n x).1.parts=(A0 b e n k s).1.parts/\List.length (D0 n x).1.parts=List.length (A0 b e n k s).1.parts/\True else a8 (bF e (D0 n x).2)/\∃(y:Nat × Shape × Par),(C0 y n b e k s)/\y.1<x.1/\b=b/\e=e/\false=false/\aj b (bF e (D0 n x).2)=y.2.2/\(D0 n x).1.kind=y.2.1.kind/\(D0 n x).1.pkg=y.2.1.pkg/\(D0 n x).1.name=y.2.1.name/\(D0 n x).1.parts=y.2.1.parts/\List.length (D0 n x).1.parts=List.length y.2.1.parts/\True else True/\x.2.2=(A0 b e n k s).2/\x.2.1.kind=(A0 b e n k s).1.kind/\x.2.1.pkg=(A0 b e n k s).1.pkg/\x.2.1.name=(A0 b e n k s).1.name/\x.2.1.parts=(A0 b e n k s).1.parts/\List.length x.2.1.parts=List.length (A0 b e n k s).1.parts/\True:=by
 delta D0 C0 B0 A0
 have hl:=hi.2.2.1
 have hF:ad b e (aw (ag n)) ⟨k,[],[],[],[]⟩ s=if isF e s=true then (⟨k,[],[],[],[]⟩,aC s) else bS b e (aw (ag n)) (s.toks.length+2) ⟨k,[],[],[],[]⟩ s:=rfl
 have hrd:fc (aw (ag n)) (n - 1):=gz (by rw [Nat.sub_add_cancel (by omega)];exact ba n)
 generalize ad b e (aw (ag n)) ⟨k,[],[],[],[]⟩ s=fin at hF ⊢
 refine ⟨hi,a6 (fun h=>?_) (fun h=>?_)⟩
 ·rw [if_pos h] at hF
  subst hF
  refine ⟨trivial,aI h,?_⟩
  exact Xr
 ·rw [if_neg h] at hF
  have h:isF e s=false:=by simpa using h
  rw [aP h]
  refine ⟨⟨(s.toks.length+2,⟨k,[],[],[],[]⟩,s),⟨hi,by show rem s < _;have h1:=hi.1;have h2:=hi.2.1;unfold rem;split <;> omega,hn,by show 0+_<=_;omega,rfl,hF.symm⟩,by trivial,by trivial,by trivial,by trivial,?_⟩,?_⟩
  ·exact Xr
  rintro ⟨j,x,s1⟩ ⟨i1,i2,i3,l0,ik,i6⟩
  simp only at i1 i2 i3 l0 ik i6 ⊢
  have ex:(⟨x.kind,x.pkg,x.name,[],x.parts⟩:Shape)=x:=by cases x;simp_all
  try rw [ex]
  refine a6 (fun hb=>?_) (fun hb=>?_)
  ·have h0:s1.err=0:=eE.1 (by simpa using hb)
   obtain ⟨j,rfl⟩:∃m,j=m+1:=⟨j - 1,by omega⟩
   have hp:=ez h0
   obtain ⟨g,ea⟩:=hrd x s1 i1 h0 (by omega)
   have hbf:¬aV s1=true:=by simp [aV,h0]
   simp only [bS,if_neg hbf] at i6
   refine ⟨⟨i1,i3,by trivial,by omega⟩,g.good,a6 (fun c=>?_) (fun c=>?_)⟩
   ·rw [if_pos c] at i6
    subst i6
    refine ⟨trivial,aI c,?_⟩
    exact Xr
   ·have c:isF e (aw (ag n) x s1).2=false:=by simpa using c
    rw [if_neg (by simp [c])] at i6
    rw [aP c]
    obtain ⟨n1,n2,n3,n4⟩:=fx hrd (btw:=b) (en:=e) (x:=x) i1 h0 (by omega) i2
    refine ⟨g.good,(j,(aw (ag n) x s1).1,aj b (aw (ag n) x s1).2),⟨n1,n4,by show rem (aj b _) < n;omega,by show (x.parts++[_]).length+j<=5000;simp only [List.length_append,List.length_singleton];omega,ik,i6⟩,by show j < j+1;omega,by trivial,by trivial,by trivial,by trivial,?_⟩
    exact Xr
  ·have h0:¬s1.err=0:=cG.1 (by simpa using hb)
   have hbf:aV s1=true:=cG.2 h0
   have:(x,s1)=fin:=by
    rw [←i6]
    cases j with
    | zero=>rfl
    | succ j=>simp only [bS,if_pos hbf]
   subst this
   refine ⟨trivial,rfl,?_⟩
   exact Xr
end Go.AL.Seat
end
section
open Go Go.AL Go.Pd
namespace Go.AL.Seat
namespace C0z
def A0:=True
def B0 (n:Nat)(s:Par):=(ag (n+(1:Nat)) s)
def C0 (s:Par):=(aj ([47]:Str) {toks:=s.toks,pos:=s.pos+(1:Int),err:=s.err,fat:=s.fat:Par})
def D0 (s:Par):=(bF ([91]:Str) s)
def E0 (s:Par):=(bF ([123]:Str) (D0 s))
def H0 (n:Nat)(s:Par):=(ad ([44]:Str) ([125]:Str) (ap (ag n)) {kind:=(6:Int),pkg:=[],name:=[],names:=[],parts:=[]:Shape} (E0 s))
def I0 (s:Par):=(bF ([60]:Str) (E0 s))
def J0 (n:Nat)(s:Par):=(ad ([124]:Str) ([62]:Str) (ap (ag n)) {kind:=(7:Int),pkg:=[],name:=[],names:=[],parts:=[]:Shape} (I0 s))
def K0 (s:Par):=(bF ([40]:Str) (I0 s))
def L0 (n:Nat)(s:Par):=(ad ([44]:Str) ([41]:Str) (aw (ag n)) {kind:=(8:Int),pkg:=[],name:=[],names:=[],parts:=[]:Shape} (K0 s))
def M0 (n:Nat)(s:Par):=(aj ([45,62]:Str) (L0 n s).2)
def N0 (n:Nat)(s:Par):=List.length (L0 n s).1.parts=List.length (L0 n s).1.parts
def O0 (s:Par)(n:Nat):=a8 s/\if isF ([91]:Str) s=true then (a8 (D0 s)/\rem (D0 s)<n)/\a8 (ag n (D0 s)).2/\A0/\(5:Int)=(B0 n s).1.kind/\[]=(B0 n s).1.pkg/\[]=(B0 n s).1.name/\(B0 n s).1.names=[]/\[(ag n (D0 s)).1]=(B0 n s).1.parts/\aj ([93]:Str) (ag n (D0 s)).2=(B0 n s).2/\A0 else a8 (D0 s)/\if isF ([123]:Str) (D0 s)=true then (a8 (E0 s)/\rem (E0 s)<=n)/\A0/\(H0 n s).1.kind=(B0 n s).1.kind/\(H0 n s).1.pkg=(B0 n s).1.pkg/\(H0 n s).1.name=(B0 n s).1.name/\(H0 n s).1.names=(B0 n s).1.names/\(H0 n s).1.parts=(B0 n s).1.parts/\(H0 n s).2=(B0 n s).2/\A0 else a8 (E0 s)/\if isF ([60]:Str) (E0 s)=true then (a8 (I0 s)/\rem (I0 s)<=n)/\A0/\(J0 n s).1.kind=(B0 n s).1.kind/\(J0 n s).1.pkg=(B0 n s).1.pkg/\(J0 n s).1.name=(B0 n s).1.name/\(J0 n s).1.names=(B0 n s).1.names/\(J0 n s).1.parts=(B0 n s).1.parts/\(J0 n s).2=(B0 n s).2/\A0 else a8 (I0 s)/\if isF ([40]:Str) (I0 s)=true then (a8 (K0 s)/\rem (K0 s)<n)/\a8 (L0 n s).2/\(a8 (M0 n s)/\rem (M0 n s)<n)/\((N0 n s)/\(List.length (L0 n s).1.parts+(1:Nat))*(88:Nat)<=(140737488355328:Nat))/\(↑(List.length (L0 n s).1.parts):Int)=(↑(List.length (L0 n s).1.parts):Int)/\(N0 n s)/\(N0 n s)/\(N0 n s)/\A0/\(L0 n s).1.kind=(B0 n s).1.kind/\(L0 n s).1.pkg=(B0 n s).1.pkg/\(L0 n s).1.name=(B0 n s).1.name/\(B0 n s).1.names=[]/\(L0 n s).1.parts++[(ag n (M0 n s)).1]=(B0 n s).1.parts/\(ag n (M0 n s)).2=(B0 n s).2/\A0 else A0/\(0:Int)=(B0 n s).1.kind/\[]=(B0 n s).1.pkg/\[]=(B0 n s).1.name/\(B0 n s).1.names=[]/\(B0 n s).1.parts=[]/\cv (90:Int) (ao s).pos (K0 s)=(B0 n s).2/\A0
def P0 (s:Par)(n:Nat):=if decide ((ao s).kind=(1:Int))=true then if (!aV s)=true then inR IntKind.i64 (s.pos+(1:Int))/\a8 {toks:=s.toks,pos:=s.pos+(1:Int),err:=s.err,fat:=s.fat:Par}/\(a8 (C0 s)/\¬(2:Int)=(0:Int))/\A0/\co (ao s).text (aS (2:Int) (C0 s)).1.text=(B0 n s).1/\(aS (2:Int) (C0 s)).2=(B0 n s).2/\A0 else (O0 s n) else (O0 s n)
end C0z
open C0z in
theorem Fz (n:Nat) (s:Par) (hi:a8 s) (hn:rem s < n+1) :
  a8 s/\if decide ((ao s).kind=(2:Int))=true then if (!aV s)=true then inR IntKind.i64 (s.pos+(1:Int))/\A0/\co [] (ao s).text=(B0 n s).1/\s.toks=(B0 n s).2.toks/\s.pos+(1:Int)=(B0 n s).2.pos/\s.err=(B0 n s).2.err/\s.fat=(B0 n s).2.fat/\A0 else (P0 s n) else (P0 s n):=by
 delta P0 O0 N0 M0 L0 K0 J0 I0 H0 E0 D0 C0 B0 A0
 have hG:ag (n+1) s=iT (ag n) s:=rfl
 unfold iT at hG
 dsimp only at hG
 generalize ag (n+1) s=G at hG ⊢
 refine ⟨hi,a6 (fun k2=>a6 (fun b=>?a) (fun b=>a6 (fun k1=>a6 (fun b1=>?x) (fun b1=>?t1)) (fun k1=>?t2))) (fun k2=>a6 (fun k1=>a6 (fun b=>?c) (fun b=>?t3)) (fun k1=>?t4))⟩
 case a=>
  have k2:(ao s).kind=2:=by simpa using k2
  have b:aV s=false:=by simpa using b
  rw [if_pos ⟨k2,b⟩] at hG
  subst hG
  have hl:=f7 (l:=s.toks) (a:=s.pos) (by unfold ao at k2;omega)
  have h1:=hi.1
  have h2:=hi.2.2.1
  refine ⟨ak (by omega) (by omega),?_⟩
  exact Xr
 case x=>exact absurd b1 b
 case c=>
  have k2:¬(ao s).kind=2:=by simpa using k2
  have k1:(ao s).kind=1:=by simpa using k1
  have b:aV s=false:=by simpa using b
  rw [if_neg (fun h=>k2 h.1),if_pos ⟨k1,b⟩] at hG
  subst hG
  have hl:=f7 (l:=s.toks) (a:=s.pos) (by unfold ao at k1;omega)
  have h1:=hi.1
  have h2:=hi.2.2.1
  have ga:=wu hi hl
  have gm:=cq (t:=[47]) ga
  refine ⟨ak (by omega) (by omega),ga,⟨gm.good,by omega⟩,?_⟩
  exact Xr
 case t1=>
  rw [if_neg (fun h=>by simp [h.2] at b),if_neg (fun h=>by simp [h.2] at b)] at hG
  refine ⟨hi,a6 (fun c=>?_) (fun c=>?_)⟩
  rotate_left
  ·rw [if_neg c] at hG
   have c:isF [91] s=false:=by simpa using c
   rw [aP c]
   refine ⟨hi,a6 (fun c=>?_) (fun c=>?_)⟩
   rotate_left
   ·rw [if_neg c] at hG
    have c:isF [123] s=false:=by simpa using c
    rw [aP c]
    refine ⟨hi,a6 (fun c=>?_) (fun c=>?_)⟩
    rotate_left
    ·rw [if_neg c] at hG
     have c:isF [60] s=false:=by simpa using c
     rw [aP c]
     refine ⟨hi,a6 (fun c=>?_) (fun c=>?_)⟩
     rotate_left
     ·rw [if_neg c] at hG
      have c:isF [40] s=false:=by simpa using c
      rw [aP c]
      subst hG
      exact Xr
     rw [if_pos c] at hG
     subst hG
     have g:=cX hi c
     have r:=bq hi c
     rw [aI c]
     have hP:fc (aw (ag n)) (n - 1):=gz (by rw [Nat.sub_add_cancel (by omega)];exact ba n)
     have gl:=bz hP [44] [41] ⟨8,[],[],[],[]⟩ g.good (by omega)
     have ll:=dP (fun x:Shape=>x.parts.length) (one:=aw (ag n)) (fun x s=>by simp [aw]) [44] [41] ⟨8,[],[],[],[]⟩ (aC s)
     have lk:=cJ (fun x:Shape=>x.names=[]) (one:=aw (ag n)) (fun x s h=>h) [44] [41] (x:=⟨8,[],[],[],[]⟩) (aC s) rfl
     have ht:(aC s).toks=s.toks:=rfl
     have hl:=hi.2.2.1
     generalize ad [44] [41] (aw (ag n)) ⟨8,[],[],[],[]⟩ (aC s)=L at gl ll lk ⊢
     have gm:=cq (t:=[45,62]) gl.good
     simp only [ht,List.length_nil] at ll
     have hlt:rem (aj [45,62] L.2) < n:=by have:=gm.le;have:=gl.le;omega
     refine ⟨⟨g.good,by omega⟩,gl.good,⟨gm.good,hlt⟩,⟨by trivial,by omega⟩,?_⟩
     exact Xr
    rw [if_pos c] at hG
    subst hG
    have g:=cX hi c
    have r:=bq hi c
    rw [aI c]
    have gl:=bz (de (ba n)) [124] [62] ⟨7,[],[],[],[]⟩ g.good (by omega)
    refine ⟨⟨g.good,by omega⟩,?_⟩
    exact Xr
   rw [if_pos c] at hG
   subst hG
   have g:=cX hi c
   have r:=bq hi c
   rw [aI c]
   have gl:=bz (de (ba n)) [44] [125] ⟨6,[],[],[],[]⟩ g.good (by omega)
   refine ⟨⟨g.good,by omega⟩,?_⟩
   exact Xr
  rw [if_pos c] at hG
  subst hG
  have g:=cX hi c
  have r:=bq hi c
  rw [aI c]
  obtain ⟨gb,eb⟩:=ba n _ g.good (by omega)
  refine ⟨⟨g.good,by omega⟩,gb.good,?_⟩
  exact Xr
 case t2=>
  rw [if_neg (fun h=>by simp [h.2] at b),if_neg (fun h=>by simp [h.1] at k1)] at hG
  refine ⟨hi,a6 (fun c=>?_) (fun c=>?_)⟩
  rotate_left
  ·rw [if_neg c] at hG
   have c:isF [91] s=false:=by simpa using c
   rw [aP c]
   refine ⟨hi,a6 (fun c=>?_) (fun c=>?_)⟩
   rotate_left
   ·rw [if_neg c] at hG
    have c:isF [123] s=false:=by simpa using c
    rw [aP c]
    refine ⟨hi,a6 (fun c=>?_) (fun c=>?_)⟩
    rotate_left
    ·rw [if_neg c] at hG
     have c:isF [60] s=false:=by simpa using c
     rw [aP c]
     refine ⟨hi,a6 (fun c=>?_) (fun c=>?_)⟩
     rotate_left
     ·rw [if_neg c] at hG
      have c:isF [40] s=false:=by simpa using c
      rw [aP c]
      subst hG
      exact Xr
     rw [if_pos c] at hG
     subst hG
     have g:=cX hi c
     have r:=bq hi c
     rw [aI c]
     have hP:fc (aw (ag n)) (n - 1):=gz (by rw [Nat.sub_add_cancel (by omega)];exact ba n)
     have gl:=bz hP [44] [41] ⟨8,[],[],[],[]⟩ g.good (by omega)
     have ll:=dP (fun x:Shape=>x.parts.length) (one:=aw (ag n)) (fun x s=>by simp [aw]) [44] [41] ⟨8,[],[],[],[]⟩ (aC s)
     have lk:=cJ (fun x:Shape=>x.names=[]) (one:=aw (ag n)) (fun x s h=>h) [44] [41] (x:=⟨8,[],[],[],[]⟩) (aC s) rfl
     have ht:(aC s).toks=s.toks:=rfl
     have hl:=hi.2.2.1
     generalize ad [44] [41] (aw (ag n)) ⟨8,[],[],[],[]⟩ (aC s)=L at gl ll lk ⊢
     have gm:=cq (t:=[45,62]) gl.good
     simp only [ht,List.length_nil] at ll
     have hlt:rem (aj [45,62] L.2) < n:=by have:=gm.le;have:=gl.le;omega
     refine ⟨⟨g.good,by omega⟩,gl.good,⟨gm.good,hlt⟩,⟨by trivial,by omega⟩,?_⟩
     exact Xr
    rw [if_pos c] at hG
    subst hG
    have g:=cX hi c
    have r:=bq hi c
    rw [aI c]
    have gl:=bz (de (ba n)) [124] [62] ⟨7,[],[],[],[]⟩ g.good (by omega)
    refine ⟨⟨g.good,by omega⟩,?_⟩
    exact Xr
   rw [if_pos c] at hG
   subst hG
   have g:=cX hi c
   have r:=bq hi c
   rw [aI c]
   have gl:=bz (de (ba n)) [44] [125] ⟨6,[],[],[],[]⟩ g.good (by omega)
   refine ⟨⟨g.good,by omega⟩,?_⟩
   exact Xr
  rw [if_pos c] at hG
  subst hG
  have g:=cX hi c
  have r:=bq hi c
  rw [aI c]
  obtain ⟨gb,eb⟩:=ba n _ g.good (by omega)
  refine ⟨⟨g.good,by omega⟩,gb.good,?_⟩
  exact Xr
 case t3=>
  rw [if_neg (fun h=>by simp [h.1] at k2),if_neg (fun h=>by simp [h.2] at b)] at hG
  refine ⟨hi,a6 (fun c=>?_) (fun c=>?_)⟩
  rotate_left
  ·rw [if_neg c] at hG
   have c:isF [91] s=false:=by simpa using c
   rw [aP c]
   refine ⟨hi,a6 (fun c=>?_) (fun c=>?_)⟩
   rotate_left
   ·rw [if_neg c] at hG
    have c:isF [123] s=false:=by simpa using c
    rw [aP c]
    refine ⟨hi,a6 (fun c=>?_) (fun c=>?_)⟩
    rotate_left
    ·rw [if_neg c] at hG
     have c:isF [60] s=false:=by simpa using c
     rw [aP c]
     refine ⟨hi,a6 (fun c=>?_) (fun c=>?_)⟩
     rotate_left
     ·rw [if_neg c] at hG
      have c:isF [40] s=false:=by simpa using c
      rw [aP c]
      subst hG
      exact Xr
     rw [if_pos c] at hG
     subst hG
     have g:=cX hi c
     have r:=bq hi c
     rw [aI c]
     have hP:fc (aw (ag n)) (n - 1):=gz (by rw [Nat.sub_add_cancel (by omega)];exact ba n)
     have gl:=bz hP [44] [41] ⟨8,[],[],[],[]⟩ g.good (by omega)
     have ll:=dP (fun x:Shape=>x.parts.length) (one:=aw (ag n)) (fun x s=>by simp [aw]) [44] [41] ⟨8,[],[],[],[]⟩ (aC s)
     have lk:=cJ (fun x:Shape=>x.names=[]) (one:=aw (ag n)) (fun x s h=>h) [44] [41] (x:=⟨8,[],[],[],[]⟩) (aC s) rfl
     have ht:(aC s).toks=s.toks:=rfl
     have hl:=hi.2.2.1
     generalize ad [44] [41] (aw (ag n)) ⟨8,[],[],[],[]⟩ (aC s)=L at gl ll lk ⊢
     have gm:=cq (t:=[45,62]) gl.good
     simp only [ht,List.length_nil] at ll
     have hlt:rem (aj [45,62] L.2) < n:=by have:=gm.le;have:=gl.le;omega
     refine ⟨⟨g.good,by omega⟩,gl.good,⟨gm.good,hlt⟩,⟨by trivial,by omega⟩,?_⟩
     exact Xr
    rw [if_pos c] at hG
    subst hG
    have g:=cX hi c
    have r:=bq hi c
    rw [aI c]
    have gl:=bz (de (ba n)) [124] [62] ⟨7,[],[],[],[]⟩ g.good (by omega)
    refine ⟨⟨g.good,by omega⟩,?_⟩
    exact Xr
   rw [if_pos c] at hG
   subst hG
   have g:=cX hi c
   have r:=bq hi c
   rw [aI c]
   have gl:=bz (de (ba n)) [44] [125] ⟨6,[],[],[],[]⟩ g.good (by omega)
   refine ⟨⟨g.good,by omega⟩,?_⟩
   exact Xr
  rw [if_pos c] at hG
  subst hG
  have g:=cX hi c
  have r:=bq hi c
  rw [aI c]
  obtain ⟨gb,eb⟩:=ba n _ g.good (by omega)
  refine ⟨⟨g.good,by omega⟩,gb.good,?_⟩
  exact Xr
 case t4=>
  rw [if_neg (fun h=>by simp [h.1] at k2),if_neg (fun h=>by simp [h.1] at k1)] at hG
  refine ⟨hi,a6 (fun c=>?_) (fun c=>?_)⟩
  rotate_left
  ·rw [if_neg c] at hG
   have c:isF [91] s=false:=by simpa using c
   rw [aP c]
   refine ⟨hi,a6 (fun c=>?_) (fun c=>?_)⟩
   rotate_left
   ·rw [if_neg c] at hG
    have c:isF [123] s=false:=by simpa using c
    rw [aP c]
    refine ⟨hi,a6 (fun c=>?_) (fun c=>?_)⟩
    rotate_left
    ·rw [if_neg c] at hG
     have c:isF [60] s=false:=by simpa using c
     rw [aP c]
     refine ⟨hi,a6 (fun c=>?_) (fun c=>?_)⟩
     rotate_left
     ·rw [if_neg c] at hG
      have c:isF [40] s=false:=by simpa using c
      rw [aP c]
      subst hG
      exact Xr
     rw [if_pos c] at hG
     subst hG
     have g:=cX hi c
     have r:=bq hi c
     rw [aI c]
     have hP:fc (aw (ag n)) (n - 1):=gz (by rw [Nat.sub_add_cancel (by omega)];exact ba n)
     have gl:=bz hP [44] [41] ⟨8,[],[],[],[]⟩ g.good (by omega)
     have ll:=dP (fun x:Shape=>x.parts.length) (one:=aw (ag n)) (fun x s=>by simp [aw]) [44] [41] ⟨8,[],[],[],[]⟩ (aC s)
     have lk:=cJ (fun x:Shape=>x.names=[]) (one:=aw (ag n)) (fun x s h=>h) [44] [41] (x:=⟨8,[],[],[],[]⟩) (aC s) rfl
     have ht:(aC s).toks=s.toks:=rfl
     have hl:=hi.2.2.1
     generalize ad [44] [41] (aw (ag n)) ⟨8,[],[],[],[]⟩ (aC s)=L at gl ll lk ⊢
     have gm:=cq (t:=[45,62]) gl.good
     simp only [ht,List.length_nil] at ll
     have hlt:rem (aj [45,62] L.2) < n:=by have:=gm.le;have:=gl.le;omega
     refine ⟨⟨g.good,by omega⟩,gl.good,⟨gm.good,hlt⟩,⟨by trivial,by omega⟩,?_⟩
     exact Xr
    rw [if_pos c] at hG
    subst hG
    have g:=cX hi c
    have r:=bq hi c
    rw [aI c]
    have gl:=bz (de (ba n)) [124] [62] ⟨7,[],[],[],[]⟩ g.good (by omega)
    refine ⟨⟨g.good,by omega⟩,?_⟩
    exact Xr
   rw [if_pos c] at hG
   subst hG
   have g:=cX hi c
   have r:=bq hi c
   rw [aI c]
   have gl:=bz (de (ba n)) [44] [125] ⟨6,[],[],[],[]⟩ g.good (by omega)
   refine ⟨⟨g.good,by omega⟩,?_⟩
   exact Xr
  rw [if_pos c] at hG
  subst hG
  have g:=cX hi c
  have r:=bq hi c
  rw [aI c]
  obtain ⟨gb,eb⟩:=ba n _ g.good (by omega)
  refine ⟨⟨g.good,by omega⟩,gb.good,?_⟩
  exact Xr
end Go.AL.Seat
end
section
open Go Go.AL Go.Pd
namespace Go.AL.Seat
namespace C10
def A0 (s:Par):=(ag big s)
def B0 (s:Par):=True/\(A0 s).1=(aW s).1/\(A0 s).2=(aW s).2/\True
end C10
open C10 in
theorem FA (s:Par)  (ho:a8 s) :
  a8 s/\(a8 s/\rem s<big)/\if (!aV (A0 s).2)=true then if (!decide (bK (A0 s).1=(0:Int)))=true then True/\(A0 s).1=(aW s).1/\cv (bK (A0 s).1) (ao s).pos (A0 s).2=(aW s).2/\True else (B0 s) else (B0 s):=by
 delta B0 A0
 have hb:rem s < big:=by have:=qN ho;unfold big;omega
 have g:=(ba big s ho hb).1.good
 unfold aW
 dsimp only
 generalize ag big s=y at g ⊢
 refine ⟨ho,⟨ho,hb⟩,a6 (fun c=>?_) (fun c=>?_)⟩
 ·have c:¬aV y.2=true:=by simpa using c
  rw [if_neg c]
  refine a6 (fun d=>?_) (fun d=>?_)
  ·have d:¬bK y.1=0:=by simpa using d
   rw [if_neg d]
   exact Xr
  ·have d:bK y.1=0:=by simpa using d
   rw [if_pos d]
   exact Xr
 ·have c:aV y.2=true:=by simpa using c
  rw [if_pos c]
  exact Xr
end Go.AL.Seat
end
section
open Go Go.AL Go.Pd
namespace Go.AL.Seat
namespace C11
def A0:=List.length ([]:List Nat)=(0:Nat)
end C11
open C11 in
theorem CA (n:Nat) (x:Trm) (s:Par) (hi:a8 s) (hn:rem s < n) (zn:x.names=[]) (zv:x.vars=[]) (zs:x.shapes=[]) (zp:x.parts=[]) :
  (a8 s/\rem s<n)/\(1:Nat)*(152:Nat)<=(140737488355328:Nat)/\(0:Int)=(↑(List.length ([]:List Nat)):Int)/\A0/\A0/\A0/\True/\x.kind=x.kind/\x.pkg=x.pkg/\x.name=x.name/\x.n=x.n/\[]++[(a7 n s).1]=x.parts++[(a7 n s).1]/\x.pos=x.pos/\(a7 n s).2=(a7 n s).2/\(0:Nat)+(1:Nat)=List.length (x.parts++[(a7 n s).1])/\True:=by
 delta A0
 refine ⟨⟨hi,hn⟩,?_⟩
 repeat (first | exact trivial | refine ⟨by first | rfl | trivial | omega | (simp only [au,cW,fw,cC,ay,bG,am,dq,ah,List.length_append,List.length_singleton];done) | (simp only [zn];done) | (simp only [zv,List.nil_append];done) | (simp only [zs,List.nil_append];done) | (simp only [zp,List.nil_append];done) | (simp [zs];done) | (simp [zp];done),?_⟩)
end Go.AL.Seat
end
section
open Go Go.AL Go.Pd
namespace Go.AL.Seat
namespace C12
def A0 (x:Trm):=List.length x.parts=List.length x.parts
end C12
open C12 in
theorem CB (n:Nat) (x:Trm) (s:Par) (hi:a8 s) (hn:rem s < n) (zn:x.names=[]) (zv:x.vars=[]) (zs:x.shapes=[]) (hl:x.parts.length<=100000) :
  (a8 s/\rem s<n)/\((A0 x)/\(List.length x.parts+(1:Nat))*(152:Nat)<=(140737488355328:Nat))/\(↑(List.length x.parts):Int)=(↑(List.length x.parts):Int)/\(A0 x)/\(A0 x)/\(A0 x)/\True/\x.kind=x.kind/\x.pkg=x.pkg/\x.name=x.name/\x.n=x.n/\x.parts++[(a7 n s).1]=x.parts++[(a7 n s).1]/\x.pos=x.pos/\List.length x.parts+(1:Nat)=List.length (x.parts++[(a7 n s).1])/\(a7 n s).2=(a7 n s).2/\True:=by
 delta A0
 refine ⟨⟨hi,hn⟩,⟨by trivial,by omega⟩,?_⟩
 repeat (first | exact trivial | refine ⟨by first | rfl | trivial | omega | (simp only [au,cW,fw,cC,ay,bG,am,dq,ah,List.length_append,List.length_singleton];done) | (simp only [zn];done) | (simp only [zv,List.nil_append];done) | (simp only [zs,List.nil_append];done) | (simp only [zp,List.nil_append];done) | (simp [zs];done) | (simp [zp];done),?_⟩)
end Go.AL.Seat
end
section
open Go Go.AL Go.Pd
namespace Go.AL.Seat
namespace C13
def A0:=List.length ([]:List Nat)=(0:Nat)
end C13
open C13 in
theorem zx (n:Nat) (x:Trm) (s:Par) (hi:a8 s) (hn:rem s < n) (zv:x.vars=[]) (zp:x.parts=[]) (hl:x.names.length+x.shapes.length<=100000) :
  (a8 s/\rem s<n)/\(1:Nat)*(152:Nat)<=(140737488355328:Nat)/\(0:Int)=(↑(List.length ([]:List Nat)):Int)/\A0/\A0/\A0/\True/\x.kind=x.kind/\x.pkg=x.pkg/\x.name=x.name/\x.n=x.n/\x.names=x.names/\x.shapes=x.shapes/\[]++[(a7 n s).1]=x.parts++[(a7 n s).1]/\x.pos=x.pos/\List.length x.names=List.length x.names/\List.length x.shapes=List.length x.shapes/\(a7 n s).2=(a7 n s).2/\(0:Nat)+(1:Nat)=List.length (x.parts++[(a7 n s).1])/\True:=by
 delta A0
 refine ⟨⟨hi,hn⟩,?_⟩
 repeat (first | exact trivial | refine ⟨by first | rfl | trivial | omega | (simp only [au,cW,fw,cC,ay,bG,am,dq,ah,List.length_append,List.length_singleton];done) | (simp only [zn];done) | (simp only [zv,List.nil_append];done) | (simp only [zs,List.nil_append];done) | (simp only [zp,List.nil_append];done) | (simp [zs];done) | (simp [zp];done),?_⟩)
end Go.AL.Seat
end
section
open Go Go.AL Go.Pd
namespace Go.AL.Seat
namespace C14
def A0 (x:Trm):=List.length x.parts=List.length x.parts
end C14
open C14 in
theorem uT (n:Nat) (x:Trm) (s:Par) (hi:a8 s) (hn:rem s < n) (hl:x.names.length+x.vars.length+x.shapes.length+x.parts.length<=100000) :
  (a8 s/\rem s<n)/\((A0 x)/\(List.length x.parts+(1:Nat))*(152:Nat)<=(140737488355328:Nat))/\(↑(List.length x.parts):Int)=(↑(List.length x.parts):Int)/\(A0 x)/\(A0 x)/\(A0 x)/\True/\x.kind=x.kind/\x.pkg=x.pkg/\x.name=x.name/\x.n=x.n/\x.names=x.names/\x.vars=x.vars/\x.shapes=x.shapes/\x.parts++[(a7 n s).1]=x.parts++[(a7 n s).1]/\x.pos=x.pos/\List.length x.names=List.length x.names/\List.length x.vars=List.length x.vars/\List.length x.shapes=List.length x.shapes/\List.length x.parts+(1:Nat)=List.length (x.parts++[(a7 n s).1])/\(a7 n s).2=(a7 n s).2/\True:=by
 delta A0
 refine ⟨⟨hi,hn⟩,⟨by trivial,by omega⟩,?_⟩
 repeat (first | exact trivial | refine ⟨by first | rfl | trivial | omega | (simp only [au,cW,fw,cC,ay,bG,am,dq,ah,List.length_append,List.length_singleton];done) | (simp only [zn];done) | (simp only [zv,List.nil_append];done) | (simp only [zs,List.nil_append];done) | (simp only [zp,List.nil_append];done) | (simp [zs];done) | (simp [zp];done),?_⟩)
end Go.AL.Seat
end
section
open Go Go.AL Go.Pd
namespace Go.AL.Seat
namespace C15
def A0 (x:Trm):=List.length x.parts=List.length x.parts
end C15
open C15 in
theorem CC (n:Nat) (x:Trm) (s:Par) (hi:a8 s) (hn:rem s < n) (zn:x.names=[]) (zv:x.vars=[]) (zs:x.shapes=[]) (hl:x.parts.length<=100000) :
  (a8 s/\rem s<n)/\((A0 x)/\(List.length x.parts+(1:Nat))*(152:Nat)<=(140737488355328:Nat))/\(↑(List.length x.parts):Int)=(↑(List.length x.parts):Int)/\(A0 x)/\(A0 x)/\(A0 x)/\True/\x.kind=x.kind/\x.pkg=x.pkg/\x.name=x.name/\x.n=x.n/\x.parts++[(a7 n s).1]=x.parts++[(a7 n s).1]/\x.pos=x.pos/\List.length x.parts+(1:Nat)=List.length (x.parts++[(a7 n s).1])/\(a7 n s).2=(a7 n s).2/\True:=by
 delta A0
 refine ⟨⟨hi,hn⟩,⟨by trivial,by omega⟩,?_⟩
 repeat (first | exact trivial | refine ⟨by first | rfl | trivial | omega | (simp only [au,cW,fw,cC,ay,bG,am,dq,ah,List.length_append,List.length_singleton];done) | (simp only [zn];done) | (simp only [zv,List.nil_append];done) | (simp only [zs,List.nil_append];done) | (simp only [zp,List.nil_append];done) | (simp [zs];done) | (simp [zp];done),?_⟩)
end Go.AL.Seat
end
section
open Go Go.AL Go.Pd
namespace Go.AL.Seat
namespace C16
def A0 (x:Trm):=List.length x.shapes=List.length x.shapes
end C16
open C16 in
theorem CD (x:Trm) (a:Str) (s:Par) (hi:a8 s) (zv:x.vars=[]) (zp:x.parts=[]) (hl:x.names.length+x.shapes.length<=100000) :
  a8 s/\a8 (aj a s)/\((A0 x)/\(List.length x.shapes+(1:Nat))*(88:Nat)<=(140737488355328:Nat))/\(↑(List.length x.shapes):Int)=(↑(List.length x.shapes):Int)/\(A0 x)/\(A0 x)/\(A0 x)/\True/\x.kind=x.kind/\x.pkg=x.pkg/\x.name=x.name/\x.n=x.n/\x.names=x.names/\x.shapes++[(aW (aj a s)).1]=x.shapes++[(aW (aj a s)).1]/\x.pos=x.pos/\(aW (aj a s)).2=(aW (aj a s)).2/\List.length x.names=List.length x.names/\List.length x.shapes+(1:Nat)=List.length (x.shapes++[(aW (aj a s)).1])/\True:=by
 delta A0
 refine ⟨hi,(cq hi).good,?_⟩
 repeat (first | exact trivial | refine ⟨by first | rfl | trivial | omega | (simp only [au,cW,fw,cC,ay,bG,am,dq,ah,List.length_append,List.length_singleton];done) | (simp only [zn];done) | (simp only [zv,List.nil_append];done) | (simp only [zs,List.nil_append];done) | (simp only [zp,List.nil_append];done) | (simp [zs];done) | (simp [zp];done),?_⟩)
end Go.AL.Seat
end
section
open Go Go.AL Go.Pd
namespace Go.AL.Seat
namespace C17
def A0:=List.length ([]:List Nat)=(0:Nat)
end C17
open C17 in
theorem FB (x:Trm) (a:Str) (s:Par) (hi:a8 s) (zn:x.names=[]) (zv:x.vars=[]) (zs:x.shapes=[]) (hl:x.parts.length<=100000) :
  a8 s/\a8 (aj a s)/\(1:Nat)*(88:Nat)<=(140737488355328:Nat)/\(0:Int)=(↑(List.length ([]:List Nat)):Int)/\A0/\A0/\A0/\True/\x.kind=x.kind/\x.pkg=x.pkg/\x.name=x.name/\x.n=x.n/\[]++[(aW (aj a s)).1]=x.shapes++[(aW (aj a s)).1]/\x.parts=x.parts/\x.pos=x.pos/\(aW (aj a s)).2=(aW (aj a s)).2/\List.length x.parts=List.length x.parts/\(0:Nat)+(1:Nat)=List.length (x.shapes++[(aW (aj a s)).1])/\True:=by
 delta A0
 refine ⟨hi,(cq hi).good,?_⟩
 repeat (first | exact trivial | refine ⟨by first | rfl | trivial | omega | (simp only [au,cW,fw,cC,ay,bG,am,dq,ah,List.length_append,List.length_singleton];done) | (simp only [zn];done) | (simp only [zv,List.nil_append];done) | (simp only [zs,List.nil_append];done) | (simp only [zp,List.nil_append];done) | (simp [zs];done) | (simp [zp];done),?_⟩)
end Go.AL.Seat
end
section
open Go Go.AL Go.Pd
namespace Go.AL.Seat
namespace C18
def A0 (x:Trm):=List.length x.shapes=List.length x.shapes
end C18
open C18 in
theorem wX (x:Trm) (a:Str) (s:Par) (hi:a8 s) (hl:x.names.length+x.vars.length+x.shapes.length+x.parts.length<=100000) :
  a8 s/\a8 (aj a s)/\((A0 x)/\(List.length x.shapes+(1:Nat))*(88:Nat)<=(140737488355328:Nat))/\(↑(List.length x.shapes):Int)=(↑(List.length x.shapes):Int)/\(A0 x)/\(A0 x)/\(A0 x)/\True/\x.kind=x.kind/\x.pkg=x.pkg/\x.name=x.name/\x.n=x.n/\x.names=x.names/\x.vars=x.vars/\x.shapes++[(aW (aj a s)).1]=x.shapes++[(aW (aj a s)).1]/\x.parts=x.parts/\x.pos=x.pos/\(aW (aj a s)).2=(aW (aj a s)).2/\List.length x.names=List.length x.names/\List.length x.vars=List.length x.vars/\List.length x.shapes+(1:Nat)=List.length (x.shapes++[(aW (aj a s)).1])/\List.length x.parts=List.length x.parts/\True:=by
 delta A0
 refine ⟨hi,(cq hi).good,?_⟩
 repeat (first | exact trivial | refine ⟨by first | rfl | trivial | omega | (simp only [au,cW,fw,cC,ay,bG,am,dq,ah,List.length_append,List.length_singleton];done) | (simp only [zn];done) | (simp only [zv,List.nil_append];done) | (simp only [zs,List.nil_append];done) | (simp only [zp,List.nil_append];done) | (simp [zs];done) | (simp [zp];done),?_⟩)
end Go.AL.Seat
end
section
open Go Go.AL Go.Pd
namespace Go.AL.Seat
namespace C19
def A0 (x:Trm)(s:Par):=(aj ([61]:Str) (aO x.names s).2)
def B0 (x:Trm):=List.length x.parts=List.length x.parts
def C0 (n:Nat)(x:Trm)(s:Par):=(ah (a7 n) x s)
end C19
open C19 in
theorem FC (n:Nat) (x:Trm) (s:Par) (hi:a8 s) (h0:s.err=0) (hn:rem s<=n) (zv:x.vars=[]) (zs:x.shapes=[]) (hl:x.names.length+x.parts.length<=100000) :
  a8 s/\(List.length x.names=List.length x.names/\(List.length x.names+List.length [(aO x.names s).1])*(16:Nat)<=(140737488355328:Nat))/\a8 (aO x.names s).2/\(a8 (A0 x s)/\rem (A0 x s)<n)/\((B0 x)/\(List.length x.parts+(1:Nat))*(152:Nat)<=(140737488355328:Nat))/\(↑(List.length x.parts):Int)=(↑(List.length x.parts):Int)/\(B0 x)/\(B0 x)/\(B0 x)/\True/\x.kind=(C0 n x s).1.kind/\x.pkg=(C0 n x s).1.pkg/\x.name=(C0 n x s).1.name/\x.n=(C0 n x s).1.n/\x.names++[(aO x.names s).1]=(C0 n x s).1.names/\x.parts++[(a7 n (A0 x s)).1]=(bG x (aO x.names s).1).parts++[(a7 n (A0 x s)).1]/\x.pos=(C0 n x s).1.pos/\List.length (x.names++[(aO x.names s).1])=List.length (C0 n x s).1.names/\List.length x.parts+(1:Nat)=List.length ((bG x (aO x.names s).1).parts++[(a7 n (A0 x s)).1])/\(a7 n (A0 x s)).2=(C0 n x s).2/\True:=by
 delta C0 B0 A0
 have m1:=eP (ns:=x.names) hi
 have m2:=m1.then (aA (t:=[61]) m1.good)
 have hlt:=m2.lt hn h0
 refine ⟨hi,⟨by trivial,by simp only [List.length_singleton];omega⟩,m1.good,⟨m2.good,hlt⟩,⟨by trivial,by omega⟩,?_⟩
 repeat (first | exact trivial | refine ⟨by first | rfl | trivial | omega | (simp only [au,cW,fw,cC,ay,bG,am,dq,ah,List.length_append,List.length_singleton];done) | (simp only [zn];done) | (simp only [zv,List.nil_append];done) | (simp only [zs,List.nil_append];done) | (simp only [zp,List.nil_append];done) | (simp [zs];done) | (simp [zp];done),?_⟩)
end Go.AL.Seat
end
section
open Go Go.AL Go.Pd
namespace Go.AL.Seat
namespace C1a
def A0 (x:Trm)(s:Par):=(x.names++[(aO x.names s).1])
def B0 (x:Trm)(s:Par):=(aW (aj ([58]:Str) (aO x.names s).2))
end C1a
open C1a in
theorem IW (x:Trm) (s:Par) (hi:a8 s) (zv:x.vars=[]) (zp:x.parts=[]) (hl:x.names.length+x.shapes.length<=90000) :
  a8 s/\(List.length x.names=List.length x.names/\(List.length x.names+List.length [(aO x.names s).1])*(16:Nat)<=(140737488355328:Nat))/\(a8 (aO x.names s).2/\List.length (A0 x s)=List.length (A0 x s)/\List.length x.shapes=List.length x.shapes/\List.length (A0 x s)+List.length x.shapes<=(100000:Nat))/\True/\x.kind=(ay x s).1.kind/\x.pkg=(ay x s).1.pkg/\x.name=(ay x s).1.name/\x.n=(ay x s).1.n/\x.names++[(aO x.names s).1]=(ay x s).1.names/\x.shapes++[(B0 x s).1]=(bG x (aO x.names s).1).shapes++[(B0 x s).1]/\x.pos=(ay x s).1.pos/\List.length (A0 x s)=List.length (ay x s).1.names/\List.length (x.shapes++[(B0 x s).1])=List.length ((bG x (aO x.names s).1).shapes++[(B0 x s).1])/\(B0 x s).2=(ay x s).2/\True:=by
 delta B0 A0
 have m1:=eP (ns:=x.names) hi
 have m2:=aA (t:=[58]) m1.good
 refine ⟨hi,⟨by trivial,by simp only [List.length_singleton];omega⟩,⟨m1.good,by trivial,by trivial,by simp only [List.length_append,List.length_singleton];omega⟩,?_⟩
 repeat (first | exact trivial | refine ⟨by first | rfl | trivial | omega | (simp only [au,cW,fw,cC,ay,bG,am,dq,ah,List.length_append,List.length_singleton];done) | (simp only [zn];done) | (simp only [zv,List.nil_append];done) | (simp only [zs,List.nil_append];done) | (simp only [zp,List.nil_append];done) | (simp [zs];done) | (simp [zp];done),?_⟩)
end Go.AL.Seat
end
section
open Go Go.AL Go.Pd
namespace Go.AL.Seat
namespace C1b
def A0 (x:Trm)(s:Par):=(aS (1:Int) (aj ([40]:Str) (aO x.names s).2))
def B0 (x:Trm)(s:Par):=(x.names++[(aO x.names s).1])
def C0 (x:Trm)(s:Par):=(x.vars++[(A0 x s).1.text])
def D0 (x:Trm):=List.length x.parts=List.length x.parts
def E0 (x:Trm)(s:Par):=(aW (aj ([58]:Str) (A0 x s).2))
def H0 (x:Trm)(s:Par):=(aj ([45,62]:Str) (aj ([41]:Str) (E0 x s).2))
def I0 (x:Trm)(s:Par):=(x.shapes++[(E0 x s).1])
def J0 (n:Nat)(x:Trm)(s:Par):=(am (a7 n) x s)
def K0 (x:Trm)(s:Par):=(fw ([58]:Str) (dq (bG x (aO x.names s).1) (A0 x s).1.text) (A0 x s).2)
def L0 (n:Nat)(x:Trm)(s:Par):=[(a7 n (aj ([45,62]:Str) (aj ([41]:Str) (K0 x s).2))).1]
end C1b
open C1b in
theorem IX (n:Nat) (x:Trm) (s:Par) (hi:a8 s) (h0:s.err=0) (hn:rem s<=n) (hl:x.names.length+x.vars.length+x.shapes.length+x.parts.length<=90000) :
  a8 s/\(List.length x.names=List.length x.names/\(List.length x.names+List.length [(aO x.names s).1])*(16:Nat)<=(140737488355328:Nat))/\a8 (aO x.names s).2/\(a8 (aj ([40]:Str) (aO x.names s).2)/\¬(1:Int)=(0:Int))/\(List.length x.vars=List.length x.vars/\(List.length x.vars+List.length [(A0 x s).1.text])*(16:Nat)<=(140737488355328:Nat))/\(a8 (A0 x s).2/\List.length (B0 x s)=List.length (B0 x s)/\List.length (C0 x s)=List.length (C0 x s)/\List.length x.shapes=List.length x.shapes/\(D0 x)/\List.length (B0 x s)+List.length (C0 x s)+List.length x.shapes+List.length x.parts<=(100000:Nat))/\a8 (E0 x s).2/\a8 (aj ([41]:Str) (E0 x s).2)/\(a8 (H0 x s)/\rem (H0 x s)<n/\List.length (B0 x s)=List.length (B0 x s)/\List.length (C0 x s)=List.length (C0 x s)/\List.length (I0 x s)=List.length (I0 x s)/\(D0 x)/\List.length (B0 x s)+List.length (C0 x s)+List.length (I0 x s)+List.length x.parts<=(100000:Nat))/\True/\x.kind=(J0 n x s).1.kind/\x.pkg=(J0 n x s).1.pkg/\x.name=(J0 n x s).1.name/\x.n=(J0 n x s).1.n/\x.names++[(aO x.names s).1]=(J0 n x s).1.names/\x.vars++[(A0 x s).1.text]=(J0 n x s).1.vars/\x.shapes++[(E0 x s).1]=(J0 n x s).1.shapes/\x.parts++[(a7 n (H0 x s)).1]=(K0 x s).1.parts++(L0 n x s)/\x.pos=(J0 n x s).1.pos/\List.length (B0 x s)=List.length (J0 n x s).1.names/\List.length (C0 x s)=List.length (J0 n x s).1.vars/\List.length (I0 x s)=List.length (J0 n x s).1.shapes/\List.length (x.parts++[(a7 n (H0 x s)).1])=List.length ((K0 x s).1.parts++(L0 n x s))/\(a7 n (H0 x s)).2=(J0 n x s).2/\True:=by
 delta L0 K0 J0 I0 H0 E0 D0 C0 B0 A0
 have m1:=eP (ns:=x.names) hi
 have m2:=m1.then (aA (t:=[40]) m1.good)
 have m3:=m2.then (dz (k:=1) m2.good (by decide))
 have m4:=m3.then ((aA (t:=[58]) m3.good).then (jb (aA (t:=[58]) m3.good).good))
 have m5:=m4.then (aA (t:=[41]) m4.good)
 have m6:=m5.then (aA (t:=[45,62]) m5.good)
 have hlt:=m6.lt hn h0
 refine ⟨hi,⟨by trivial,by simp only [List.length_singleton];omega⟩,m1.good,⟨m2.good,by decide⟩,⟨by trivial,by simp only [List.length_singleton];omega⟩,
  ⟨m3.good,by trivial,by trivial,by trivial,by trivial,by simp only [List.length_append,List.length_singleton];omega⟩,m4.good,m5.good,
  ⟨m6.good,hlt,by trivial,by trivial,by trivial,by trivial,by simp only [List.length_append,List.length_singleton];omega⟩,?_⟩
 repeat (first | exact trivial | refine ⟨by first | rfl | trivial | omega | (simp only [au,cW,fw,cC,ay,bG,am,dq,ah,List.length_append,List.length_singleton];done) | (simp only [zn];done) | (simp only [zv,List.nil_append];done) | (simp only [zs,List.nil_append];done) | (simp only [zp,List.nil_append];done) | (simp [zs];done) | (simp [zp];done),?_⟩)
end Go.AL.Seat
end
section
open Go Go.AL Go.Pd
namespace Go.AL.Seat
namespace C1c
def A0 (n:Nat)(s:Par):=(a7 n (aj ([40]:Str) s))
end C1c
open C1c in
theorem FD (n:Nat) (s:Par)  (ho:a8 s/\rem (aj [40] s) < n) :
  a8 s/\(a8 (aj ([40]:Str) s)/\rem (aj ([40]:Str) s)<n)/\a8 (A0 n s).2/\True/\[(A0 n s).1]=(dj (a7 n) s).1/\aj ([41]:Str) (A0 n s).2=(dj (a7 n) s).2/\True:=by
 delta A0
 have m1:=aA (t:=[40]) ho.1
 have m2:=dU n _ m1.good ho.2
 refine ⟨ho.1,⟨m1.good,ho.2⟩,m2.1.good,?_⟩
 repeat (first | exact trivial | refine ⟨by first | rfl | trivial | omega | (simp only [au,cW,fw,cC,ay,bG,am,dq,ah,List.length_append,List.length_singleton];done) | (simp only [zn];done) | (simp only [zv,List.nil_append];done) | (simp only [zs,List.nil_append];done) | (simp only [zp,List.nil_append];done) | (simp [zs];done) | (simp [zp];done),?_⟩)
end Go.AL.Seat
end
section
open Go Go.AL Go.Pd
namespace Go.AL.Seat
namespace C1d
def A0 (b:Str)(e:Str)(k:Int)(g:Str)(q:Str)(n:Nat)(z:Int)(pp:Int)(s:Par):=(ad b e ay {kind:=k,pkg:=g,name:=q,n:=z,names:=[],vars:=[],shapes:=[],parts:=[],pos:=pp:Trm} s)
def B0 (b:Str)(e:Str)(x:Nat × Trm × Par)(k:Int)(g:Str)(q:Str)(n:Nat)(z:Int)(pp:Int)(s:Par):=bS b e ay x.1 x.2.1 x.2.2=ad b e ay {kind:=k,pkg:=g,name:=q,n:=z,names:=[],vars:=[],shapes:=[],parts:=[],pos:=pp:Trm} s
def C0 (x:Nat × Trm × Par)(n:Nat)(b:Str)(e:Str)(k:Int)(g:Str)(q:Str)(z:Int)(pp:Int)(s:Par):=(a8 x.2.2/\rem x.2.2<x.1/\rem x.2.2<=n/\List.length x.2.1.names+x.1<=(5000:Nat)/\List.length x.2.1.shapes+x.1<=(5000:Nat)/\x.2.1.vars=[]/\x.2.1.parts=[]/\(B0 b e x k g q n z pp s))
def D0 (x:Nat × Trm × Par)(n:Nat):=(ay {kind:=x.2.1.kind,pkg:=x.2.1.pkg,name:=x.2.1.name,n:=x.2.1.n,names:=x.2.1.names,vars:=[],shapes:=x.2.1.shapes,parts:=[],pos:=x.2.1.pos:Trm} x.2.2)
def E0 (x:Nat × Trm × Par)(n:Nat):=(bG {kind:=x.2.1.kind,pkg:=x.2.1.pkg,name:=x.2.1.name,n:=x.2.1.n,names:=x.2.1.names,vars:=[],shapes:=x.2.1.shapes,parts:=[],pos:=x.2.1.pos:Trm} (aO x.2.1.names x.2.2).1)
def H0 (x:Nat × Trm × Par):=[(aW (aj ([58]:Str) (aO x.2.1.names x.2.2).2)).1]
end C1d
open C1d in
theorem HC (n:Nat) (k pp z:Int) (g q:Str) (b e:Str) (s:Par) (hi:a8 s) (hn:rem s<=n) :
  a8 s/\if isF e s=true then True/\bF e s=(A0 b e k g q n z pp s).2/\k=(A0 b e k g q n z pp s).1.kind/\g=(A0 b e k g q n z pp s).1.pkg/\q=(A0 b e k g q n z pp s).1.name/\z=(A0 b e k g q n z pp s).1.n/\(A0 b e k g q n z pp s).1.names=[]/\(A0 b e k g q n z pp s).1.shapes=[]/\pp=(A0 b e k g q n z pp s).1.pos/\List.length (A0 b e k g q n z pp s).1.names=(0:Nat)/\List.length (A0 b e k g q n z pp s).1.shapes=(0:Nat)/\True else (∃(x:Nat × Trm × Par),(C0 x n b e k g q z pp s)/\b=b/\e=e/\false=false/\bF e s=x.2.2/\k=x.2.1.kind/\g=x.2.1.pkg/\q=x.2.1.name/\z=x.2.1.n/\x.2.1.names=[]/\x.2.1.shapes=[]/\pp=x.2.1.pos/\List.length x.2.1.names=(0:Nat)/\List.length x.2.1.shapes=(0:Nat)/\True)/\∀(x:Nat × Trm × Par),a8 x.2.2/\rem x.2.2<x.1/\rem x.2.2<=n/\List.length x.2.1.names+x.1<=(5000:Nat)/\List.length x.2.1.shapes+x.1<=(5000:Nat)/\x.2.1.vars=[]/\x.2.1.parts=[]/\(B0 b e x k g q n z pp s)→if (!aV x.2.2)=true then (a8 x.2.2/\List.length x.2.1.names=List.length x.2.1.names/\List.length x.2.1.shapes=List.length x.2.1.shapes/\List.length x.2.1.names+List.length x.2.1.shapes<=(90000:Nat))/\a8 (D0 x n).2/\if isF e (D0 x n).2=true then True/\bF e (D0 x n).2=(A0 b e k g q n z pp s).2/\(D0 x n).1.kind=(A0 b e k g q n z pp s).1.kind/\(D0 x n).1.pkg=(A0 b e k g q n z pp s).1.pkg/\(D0 x n).1.name=(A0 b e k g q n z pp s).1.name/\(D0 x n).1.n=(A0 b e k g q n z pp s).1.n/\(D0 x n).1.names=(A0 b e k g q n z pp s).1.names/\(E0 x n).shapes++(H0 x)=(A0 b e k g q n z pp s).1.shapes/\(D0 x n).1.pos=(A0 b e k g q n z pp s).1.pos/\List.length (D0 x n).1.names=List.length (A0 b e k g q n z pp s).1.names/\List.length ((E0 x n).shapes++(H0 x))=List.length (A0 b e k g q n z pp s).1.shapes/\True else a8 (bF e (D0 x n).2)/\∃(y:Nat × Trm × Par),(C0 y n b e k g q z pp s)/\y.1<x.1/\b=b/\e=e/\false=false/\aj b (bF e (D0 x n).2)=y.2.2/\(D0 x n).1.kind=y.2.1.kind/\(D0 x n).1.pkg=y.2.1.pkg/\(D0 x n).1.name=y.2.1.name/\(D0 x n).1.n=y.2.1.n/\(D0 x n).1.names=y.2.1.names/\(E0 x n).shapes++(H0 x)=y.2.1.shapes/\(D0 x n).1.pos=y.2.1.pos/\List.length (D0 x n).1.names=List.length y.2.1.names/\List.length ((E0 x n).shapes++(H0 x))=List.length y.2.1.shapes/\True else True/\x.2.2=(A0 b e k g q n z pp s).2/\x.2.1.kind=(A0 b e k g q n z pp s).1.kind/\x.2.1.pkg=(A0 b e k g q n z pp s).1.pkg/\x.2.1.name=(A0 b e k g q n z pp s).1.name/\x.2.1.n=(A0 b e k g q n z pp s).1.n/\x.2.1.names=(A0 b e k g q n z pp s).1.names/\x.2.1.shapes=(A0 b e k g q n z pp s).1.shapes/\x.2.1.pos=(A0 b e k g q n z pp s).1.pos/\List.length x.2.1.names=List.length (A0 b e k g q n z pp s).1.names/\List.length x.2.1.shapes=List.length (A0 b e k g q n z pp s).1.shapes/\True:=by
 delta H0 E0 D0 C0 B0 A0
 have hl:=hi.2.2.1
 have hF:ad b e (ay) ⟨k,g,q,z,[],[],[],[],pp⟩ s=if isF e s=true then (⟨k,g,q,z,[],[],[],[],pp⟩,aC s) else bS b e (ay) (s.toks.length+2) ⟨k,g,q,z,[],[],[],[],pp⟩ s:=rfl
 have hrd:fc (ay) n:=og n
 generalize ad b e (ay) ⟨k,g,q,z,[],[],[],[],pp⟩ s=fin at hF ⊢
 refine ⟨hi,a6 (fun h=>?_) (fun h=>?_)⟩
 ·rw [if_pos h] at hF
  subst hF
  refine ⟨trivial,aI h,?_⟩
  exact Xr
 ·rw [if_neg h] at hF
  have h:isF e s=false:=by simpa using h
  rw [aP h]
  refine ⟨⟨(s.toks.length+2,⟨k,g,q,z,[],[],[],[],pp⟩,s),⟨hi,by show rem s < _;have h1:=hi.1;have h2:=hi.2.1;unfold rem;split <;> omega,hn,by show 0+_<=_;omega,by show 0+_<=_;omega,rfl,rfl,hF.symm⟩,?_⟩,?_⟩
  ·exact Xr
  rintro ⟨j,x,s1⟩ ⟨i1,i2,i3,ln,ls,kv,kp,i6⟩
  simp only at i1 i2 i3 ln ls kv kp i6 ⊢
  have ex:(⟨x.kind,x.pkg,x.name,x.n,x.names,[],x.shapes,[],x.pos⟩:Trm)=x:=by cases x;simp_all
  try rw [ex]
  refine a6 (fun hb=>?_) (fun hb=>?_)
  ·have h0:s1.err=0:=eE.1 (by simpa using hb)
   obtain ⟨j,rfl⟩:∃m,j=m+1:=⟨j - 1,by omega⟩
   have hp:=ez h0
   obtain ⟨gg,ea⟩:=hrd x s1 i1 h0 (by omega)
   have hbf:¬aV s1=true:=by simp [aV,h0]
   simp only [bS,if_neg hbf] at i6
   refine ⟨⟨i1,by trivial,by trivial,by omega⟩,gg.good,a6 (fun c=>?_) (fun c=>?_)⟩
   ·rw [if_pos c] at i6
    subst i6
    refine ⟨trivial,aI c,?_⟩
    exact Xr
   ·have c:isF e (ay x s1).2=false:=by simpa using c
    rw [if_neg (by simp [c])] at i6
    rw [aP c]
    obtain ⟨n1,n2,n3,n4⟩:=fx hrd (btw:=b) (en:=e) (x:=x) i1 h0 (by omega) i2
    refine ⟨gg.good,(j,(ay x s1).1,aj b (ay x s1).2),⟨n1,n4,n3,by show (x.names++[_]).length+j<=5000;simp only [List.length_append,List.length_singleton];omega,by show (x.shapes++[_]).length+j<=5000;simp only [List.length_append,List.length_singleton];omega,kv,kp,i6⟩,by show j < j+1;omega,?_⟩
    exact Xr
  ·have h0:¬s1.err=0:=cG.1 (by simpa using hb)
   have hbf:aV s1=true:=cG.2 h0
   have:(x,s1)=fin:=by
    rw [←i6]
    cases j with
    | zero=>rfl
    | succ j=>simp only [bS,if_pos hbf]
   subst this
   refine ⟨trivial,rfl,?_⟩
   exact Xr
end Go.AL.Seat
end
section
open Go Go.AL Go.Pd
namespace Go.AL.Seat
namespace C1e
def A0 (b:Str)(e:Str)(n:Nat)(k:Int)(g:Str)(q:Str)(z:Int)(us:List Trm)(pp:Int)(s:Par):=(ad b e (am (a7 n)) {kind:=k,pkg:=g,name:=q,n:=z,names:=[],vars:=[],shapes:=[],parts:=us,pos:=pp:Trm} s)
def B0:=(0:Nat)
def C0:=(5000:Nat)
def D0 (b:Str)(e:Str)(n:Nat)(x:Nat × Trm × Par)(k:Int)(g:Str)(q:Str)(z:Int)(us:List Trm)(pp:Int)(s:Par):=bS b e (am (a7 n)) x.1 x.2.1 x.2.2=ad b e (am (a7 n)) {kind:=k,pkg:=g,name:=q,n:=z,names:=[],vars:=[],shapes:=[],parts:=us,pos:=pp:Trm} s
def E0 (x:Nat × Trm × Par)(n:Nat)(b:Str)(e:Str)(k:Int)(g:Str)(q:Str)(z:Int)(us:List Trm)(pp:Int)(s:Par):=(a8 x.2.2/\rem x.2.2<x.1/\rem x.2.2<=n/\List.length x.2.1.names+x.1<=C0/\List.length x.2.1.vars+x.1<=C0/\List.length x.2.1.shapes+x.1<=C0/\List.length x.2.1.parts+x.1<=C0/\(D0 b e n x k g q z us pp s))
def H0 (n:Nat)(x:Nat × Trm × Par):=(am (a7 n) x.2.1 x.2.2)
def I0 (x:Nat × Trm × Par):=(aS (1:Int) (aj ([40]:Str) (aO x.2.1.names x.2.2).2))
def J0 (x:Nat × Trm × Par):=(fw ([58]:Str) (dq (bG x.2.1 (aO x.2.1.names x.2.2).1) (I0 x).1.text) (I0 x).2)
def K0 (n:Nat)(x:Nat × Trm × Par):=[(a7 n (aj ([45,62]:Str) (aj ([41]:Str) (J0 x).2))).1]
end C1e
open C1e in
theorem HD (n:Nat) (k pp z:Int) (g q:Str) (us:List Trm) (b e:Str) (s:Par) (hi:a8 s) (hn:rem s<=n) (hu:us.length<=1) :
  a8 s/\if isF e s=true then True/\bF e s=(A0 b e n k g q z us pp s).2/\k=(A0 b e n k g q z us pp s).1.kind/\g=(A0 b e n k g q z us pp s).1.pkg/\q=(A0 b e n k g q z us pp s).1.name/\z=(A0 b e n k g q z us pp s).1.n/\(A0 b e n k g q z us pp s).1.names=[]/\(A0 b e n k g q z us pp s).1.vars=[]/\(A0 b e n k g q z us pp s).1.shapes=[]/\us=(A0 b e n k g q z us pp s).1.parts/\pp=(A0 b e n k g q z us pp s).1.pos/\List.length us=List.length (A0 b e n k g q z us pp s).1.parts/\List.length (A0 b e n k g q z us pp s).1.names=B0/\List.length (A0 b e n k g q z us pp s).1.vars=B0/\List.length (A0 b e n k g q z us pp s).1.shapes=B0/\True else (∃(x:Nat × Trm × Par),(E0 x n b e k g q z us pp s)/\b=b/\e=e/\false=false/\bF e s=x.2.2/\k=x.2.1.kind/\g=x.2.1.pkg/\q=x.2.1.name/\z=x.2.1.n/\x.2.1.names=[]/\x.2.1.vars=[]/\x.2.1.shapes=[]/\us=x.2.1.parts/\pp=x.2.1.pos/\List.length x.2.1.names=B0/\List.length x.2.1.vars=B0/\List.length x.2.1.shapes=B0/\List.length us=List.length x.2.1.parts/\True)/\∀(x:Nat × Trm × Par),a8 x.2.2/\rem x.2.2<x.1/\rem x.2.2<=n/\List.length x.2.1.names+x.1<=C0/\List.length x.2.1.vars+x.1<=C0/\List.length x.2.1.shapes+x.1<=C0/\List.length x.2.1.parts+x.1<=C0/\(D0 b e n x k g q z us pp s)→if (!aV x.2.2)=true then (a8 x.2.2/\x.2.2.err=(0:Int)/\rem x.2.2<=n/\List.length x.2.1.names=List.length x.2.1.names/\List.length x.2.1.vars=List.length x.2.1.vars/\List.length x.2.1.shapes=List.length x.2.1.shapes/\List.length x.2.1.parts=List.length x.2.1.parts/\List.length x.2.1.names+List.length x.2.1.vars+List.length x.2.1.shapes+List.length x.2.1.parts<=(90000:Nat))/\a8 (H0 n x).2/\if isF e (H0 n x).2=true then True/\bF e (H0 n x).2=(A0 b e n k g q z us pp s).2/\(H0 n x).1.kind=(A0 b e n k g q z us pp s).1.kind/\(H0 n x).1.pkg=(A0 b e n k g q z us pp s).1.pkg/\(H0 n x).1.name=(A0 b e n k g q z us pp s).1.name/\(H0 n x).1.n=(A0 b e n k g q z us pp s).1.n/\(H0 n x).1.names=(A0 b e n k g q z us pp s).1.names/\(H0 n x).1.vars=(A0 b e n k g q z us pp s).1.vars/\(H0 n x).1.shapes=(A0 b e n k g q z us pp s).1.shapes/\(J0 x).1.parts++(K0 n x)=(A0 b e n k g q z us pp s).1.parts/\(H0 n x).1.pos=(A0 b e n k g q z us pp s).1.pos/\List.length ((J0 x).1.parts++(K0 n x))=List.length (A0 b e n k g q z us pp s).1.parts/\List.length (H0 n x).1.names=List.length (A0 b e n k g q z us pp s).1.names/\List.length (H0 n x).1.vars=List.length (A0 b e n k g q z us pp s).1.vars/\List.length (H0 n x).1.shapes=List.length (A0 b e n k g q z us pp s).1.shapes/\True else a8 (bF e (H0 n x).2)/\∃(y:Nat × Trm × Par),(E0 y n b e k g q z us pp s)/\y.1<x.1/\b=b/\e=e/\false=false/\aj b (bF e (H0 n x).2)=y.2.2/\(H0 n x).1.kind=y.2.1.kind/\(H0 n x).1.pkg=y.2.1.pkg/\(H0 n x).1.name=y.2.1.name/\(H0 n x).1.n=y.2.1.n/\(H0 n x).1.names=y.2.1.names/\(H0 n x).1.vars=y.2.1.vars/\(H0 n x).1.shapes=y.2.1.shapes/\(J0 x).1.parts++(K0 n x)=y.2.1.parts/\(H0 n x).1.pos=y.2.1.pos/\List.length (H0 n x).1.names=List.length y.2.1.names/\List.length (H0 n x).1.vars=List.length y.2.1.vars/\List.length (H0 n x).1.shapes=List.length y.2.1.shapes/\List.length ((J0 x).1.parts++(K0 n x))=List.length y.2.1.parts/\True else True/\x.2.2=(A0 b e n k g q z us pp s).2/\x.2.1.kind=(A0 b e n k g q z us pp s).1.kind/\x.2.1.pkg=(A0 b e n k g q z us pp s).1.pkg/\x.2.1.name=(A0 b e n k g q z us pp s).1.name/\x.2.1.n=(A0 b e n k g q z us pp s).1.n/\x.2.1.names=(A0 b e n k g q z us pp s).1.names/\x.2.1.vars=(A0 b e n k g q z us pp s).1.vars/\x.2.1.shapes=(A0 b e n k g q z us pp s).1.shapes/\x.2.1.parts=(A0 b e n k g q z us pp s).1.parts/\x.2.1.pos=(A0 b e n k g q z us pp s).1.pos/\List.length x.2.1.parts=List.length (A0 b e n k g q z us pp s).1.parts/\List.length x.2.1.names=List.length (A0 b e n k g q z us pp s).1.names/\List.length x.2.1.vars=List.length (A0 b e n k g q z us pp s).1.vars/\List.length x.2.1.shapes=List.length (A0 b e n k g q z us pp s).1.shapes/\True:=by
 delta K0 J0 I0 H0 E0 D0 C0 B0 A0
 have hl:=hi.2.2.1
 have hF:ad b e (am (a7 n)) ⟨k,g,q,z,[],[],[],us,pp⟩ s=if isF e s=true then (⟨k,g,q,z,[],[],[],us,pp⟩,aC s) else bS b e (am (a7 n)) (s.toks.length+2) ⟨k,g,q,z,[],[],[],us,pp⟩ s:=rfl
 have hrd:fc (am (a7 n)) n:=oh (dU n)
 generalize ad b e (am (a7 n)) ⟨k,g,q,z,[],[],[],us,pp⟩ s=fin at hF ⊢
 refine ⟨hi,a6 (fun h=>?_) (fun h=>?_)⟩
 ·rw [if_pos h] at hF
  subst hF
  refine ⟨trivial,aI h,?_⟩
  exact Xr
 ·rw [if_neg h] at hF
  have h:isF e s=false:=by simpa using h
  rw [aP h]
  refine ⟨⟨(s.toks.length+2,⟨k,g,q,z,[],[],[],us,pp⟩,s),⟨hi,by show rem s < _;have h1:=hi.1;have h2:=hi.2.1;unfold rem;split <;> omega,hn,by show 0+_<=_;omega,by show 0+_<=_;omega,by show 0+_<=_;omega,by show us.length+_<=_;omega,hF.symm⟩,?_⟩,?_⟩
  ·exact Xr
  rintro ⟨j,x,s1⟩ ⟨i1,i2,i3,ln,lv,ls,lp,i6⟩
  simp only at i1 i2 i3 ln lv ls lp i6 ⊢
  have ex:(⟨x.kind,x.pkg,x.name,x.n,x.names,x.vars,x.shapes,x.parts,x.pos⟩:Trm)=x:=by cases x;simp_all
  try rw [ex]
  refine a6 (fun hb=>?_) (fun hb=>?_)
  ·have h0:s1.err=0:=eE.1 (by simpa using hb)
   obtain ⟨j,rfl⟩:∃m,j=m+1:=⟨j - 1,by omega⟩
   have hp:=ez h0
   obtain ⟨gg,ea⟩:=hrd x s1 i1 h0 (by omega)
   have hbf:¬aV s1=true:=by simp [aV,h0]
   simp only [bS,if_neg hbf] at i6
   refine ⟨⟨i1,h0,i3,by trivial,by trivial,by trivial,by trivial,by omega⟩,gg.good,a6 (fun c=>?_) (fun c=>?_)⟩
   ·rw [if_pos c] at i6
    subst i6
    refine ⟨trivial,aI c,?_⟩
    exact Xr
   ·have c:isF e (am (a7 n) x s1).2=false:=by simpa using c
    rw [if_neg (by simp [c])] at i6
    rw [aP c]
    obtain ⟨n1,n2,n3,n4⟩:=fx hrd (btw:=b) (en:=e) (x:=x) i1 h0 (by omega) i2
    refine ⟨gg.good,(j,(am (a7 n) x s1).1,aj b (am (a7 n) x s1).2),⟨n1,n4,n3,by show (x.names++[_]).length+j<=5000;simp only [List.length_append,List.length_singleton];omega,by show (x.vars++[_]).length+j<=5000;simp only [List.length_append,List.length_singleton];omega,by show (x.shapes++[_]).length+j<=5000;simp only [List.length_append,List.length_singleton];omega,by show (x.parts++[_]).length+j<=5000;simp only [List.length_append,List.length_singleton];omega,i6⟩,by show j < j+1;omega,?_⟩
    exact Xr
  ·have h0:¬s1.err=0:=cG.1 (by simpa using hb)
   have hbf:aV s1=true:=cG.2 h0
   have:(x,s1)=fin:=by
    rw [←i6]
    cases j with
    | zero=>rfl
    | succ j=>simp only [bS,if_pos hbf]
   subst this
   refine ⟨trivial,rfl,?_⟩
   exact Xr
end Go.AL.Seat
end
section
open Go Go.AL Go.Pd
namespace Go.AL.Seat
namespace C1f
def A0 (b:Str)(e:Str)(n:Nat)(k:Int)(g:Str)(q:Str)(z:Int)(pp:Int)(s:Par):=(ad b e (au (a7 n)) {kind:=k,pkg:=g,name:=q,n:=z,names:=[],vars:=[],shapes:=[],parts:=[],pos:=pp:Trm} s)
def B0 (b:Str)(e:Str)(n:Nat)(x:Nat × Trm × Par)(k:Int)(g:Str)(q:Str)(z:Int)(pp:Int)(s:Par):=bS b e (au (a7 n)) x.1 x.2.1 x.2.2=ad b e (au (a7 n)) {kind:=k,pkg:=g,name:=q,n:=z,names:=[],vars:=[],shapes:=[],parts:=[],pos:=pp:Trm} s
def C0 (x:Nat × Trm × Par)(n:Nat)(b:Str)(e:Str)(k:Int)(g:Str)(q:Str)(z:Int)(pp:Int)(s:Par):=(a8 x.2.2/\rem x.2.2<x.1/\rem x.2.2<n/\List.length x.2.1.parts+x.1<=(5000:Nat)/\x.2.1.names=[]/\x.2.1.vars=[]/\x.2.1.shapes=[]/\(B0 b e n x k g q z pp s))
end C1f
open C1f in
theorem FE (n:Nat) (k pp z:Int) (g q:Str) (b e:Str) (s:Par) (hi:a8 s) (hn:rem s < n) :
  a8 s/\if isF e s=true then True/\bF e s=(A0 b e n k g q z pp s).2/\k=(A0 b e n k g q z pp s).1.kind/\g=(A0 b e n k g q z pp s).1.pkg/\q=(A0 b e n k g q z pp s).1.name/\z=(A0 b e n k g q z pp s).1.n/\(A0 b e n k g q z pp s).1.parts=[]/\pp=(A0 b e n k g q z pp s).1.pos/\List.length (A0 b e n k g q z pp s).1.parts=(0:Nat)/\True else (∃(x:Nat × Trm × Par),(C0 x n b e k g q z pp s)/\b=b/\e=e/\false=false/\bF e s=x.2.2/\k=x.2.1.kind/\g=x.2.1.pkg/\q=x.2.1.name/\z=x.2.1.n/\x.2.1.parts=[]/\pp=x.2.1.pos/\List.length x.2.1.parts=(0:Nat)/\True)/\∀(x:Nat × Trm × Par),a8 x.2.2/\rem x.2.2<x.1/\rem x.2.2<n/\List.length x.2.1.parts+x.1<=(5000:Nat)/\x.2.1.names=[]/\x.2.1.vars=[]/\x.2.1.shapes=[]/\(B0 b e n x k g q z pp s)→if (!aV x.2.2)=true then (a8 x.2.2/\rem x.2.2<n/\List.length x.2.1.parts=List.length x.2.1.parts/\List.length x.2.1.parts<=(100000:Nat))/\a8 (a7 n x.2.2).2/\if isF e (a7 n x.2.2).2=true then True/\bF e (a7 n x.2.2).2=(A0 b e n k g q z pp s).2/\x.2.1.kind=(A0 b e n k g q z pp s).1.kind/\x.2.1.pkg=(A0 b e n k g q z pp s).1.pkg/\x.2.1.name=(A0 b e n k g q z pp s).1.name/\x.2.1.n=(A0 b e n k g q z pp s).1.n/\x.2.1.parts++[(a7 n x.2.2).1]=(A0 b e n k g q z pp s).1.parts/\x.2.1.pos=(A0 b e n k g q z pp s).1.pos/\List.length (x.2.1.parts++[(a7 n x.2.2).1])=List.length (A0 b e n k g q z pp s).1.parts/\True else a8 (bF e (a7 n x.2.2).2)/\∃(y:Nat × Trm × Par),(C0 y n b e k g q z pp s)/\y.1<x.1/\b=b/\e=e/\false=false/\aj b (bF e (a7 n x.2.2).2)=y.2.2/\x.2.1.kind=y.2.1.kind/\x.2.1.pkg=y.2.1.pkg/\x.2.1.name=y.2.1.name/\x.2.1.n=y.2.1.n/\x.2.1.parts++[(a7 n x.2.2).1]=y.2.1.parts/\x.2.1.pos=y.2.1.pos/\List.length (x.2.1.parts++[(a7 n x.2.2).1])=List.length y.2.1.parts/\True else True/\x.2.2=(A0 b e n k g q z pp s).2/\x.2.1.kind=(A0 b e n k g q z pp s).1.kind/\x.2.1.pkg=(A0 b e n k g q z pp s).1.pkg/\x.2.1.name=(A0 b e n k g q z pp s).1.name/\x.2.1.n=(A0 b e n k g q z pp s).1.n/\x.2.1.parts=(A0 b e n k g q z pp s).1.parts/\x.2.1.pos=(A0 b e n k g q z pp s).1.pos/\List.length x.2.1.parts=List.length (A0 b e n k g q z pp s).1.parts/\True:=by
 delta C0 B0 A0
 have hl:=hi.2.2.1
 have hF:ad b e (au (a7 n)) ⟨k,g,q,z,[],[],[],[],pp⟩ s=if isF e s=true then (⟨k,g,q,z,[],[],[],[],pp⟩,aC s) else bS b e (au (a7 n)) (s.toks.length+2) ⟨k,g,q,z,[],[],[],[],pp⟩ s:=rfl
 have hrd:fc (au (a7 n)) (n - 1):=fH (by rw [Nat.sub_add_cancel (by omega)];exact dU n)
 generalize ad b e (au (a7 n)) ⟨k,g,q,z,[],[],[],[],pp⟩ s=fin at hF ⊢
 refine ⟨hi,a6 (fun h=>?_) (fun h=>?_)⟩
 ·rw [if_pos h] at hF
  subst hF
  refine ⟨trivial,aI h,?_⟩
  exact Xr
 ·rw [if_neg h] at hF
  have h:isF e s=false:=by simpa using h
  rw [aP h]
  refine ⟨⟨(s.toks.length+2,⟨k,g,q,z,[],[],[],[],pp⟩,s),⟨hi,by show rem s < _;have h1:=hi.1;have h2:=hi.2.1;unfold rem;split <;> omega,hn,by show 0+_<=_;omega,rfl,rfl,rfl,hF.symm⟩,?_⟩,?_⟩
  ·exact Xr
  rintro ⟨j,x,s1⟩ ⟨i1,i2,i3,lp,kn,kv,ks,i6⟩
  simp only at i1 i2 i3 lp kn kv ks i6 ⊢
  have ex:(⟨x.kind,x.pkg,x.name,x.n,[],[],[],x.parts,x.pos⟩:Trm)=x:=by cases x;simp_all
  try rw [ex]
  rw [show (a7 n s1).2=(au (a7 n) x s1).2 from rfl]
  refine a6 (fun hb=>?_) (fun hb=>?_)
  ·have h0:s1.err=0:=eE.1 (by simpa using hb)
   obtain ⟨j,rfl⟩:∃m,j=m+1:=⟨j - 1,by omega⟩
   have hp:=ez h0
   obtain ⟨gg,ea⟩:=hrd x s1 i1 h0 (by omega)
   have hbf:¬aV s1=true:=by simp [aV,h0]
   simp only [bS,if_neg hbf] at i6
   refine ⟨⟨i1,i3,by trivial,by omega⟩,gg.good,a6 (fun c=>?_) (fun c=>?_)⟩
   ·rw [if_pos c] at i6
    subst i6
    refine ⟨trivial,aI c,?_⟩
    exact Xr
   ·have c:isF e (au (a7 n) x s1).2=false:=by simpa using c
    rw [if_neg (by simp [c])] at i6
    rw [aP c]
    obtain ⟨n1,n2,n3,n4⟩:=fx hrd (btw:=b) (en:=e) (x:=x) i1 h0 (by omega) i2
    refine ⟨gg.good,(j,(au (a7 n) x s1).1,aj b (au (a7 n) x s1).2),⟨n1,n4,by show rem (aj b _) < n;omega,by show (x.parts++[_]).length+j<=5000;simp only [List.length_append,List.length_singleton];omega,kn,kv,ks,i6⟩,by show j < j+1;omega,?_⟩
    exact Xr
  ·have h0:¬s1.err=0:=cG.1 (by simpa using hb)
   have hbf:aV s1=true:=cG.2 h0
   have:(x,s1)=fin:=by
    rw [←i6]
    cases j with
    | zero=>rfl
    | succ j=>simp only [bS,if_pos hbf]
   subst this
   refine ⟨trivial,rfl,?_⟩
   exact Xr
end Go.AL.Seat
end
