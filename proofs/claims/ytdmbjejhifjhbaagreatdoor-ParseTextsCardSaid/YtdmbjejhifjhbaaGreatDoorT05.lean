/- What the functions' conditions say, proved. The contracts of the functions. Plain facts. No condition. -/
import Derived.Test.YtdmbjejhifjhbaaGreatDoorT04
set_option linter.all false
set_option maxRecDepth 100000
section
open Go Go.AL Go.Pd
namespace Go.AL.Seat
theorem MK(n:Nat)(s:Par) (ho:a8 s/\rem s<n+1) :
  let A:=([102,117,110]:Str);let B:=dk A s;let C:=(au ([40]:Str) B);let D:=(0:Int);let E:=(ah ([44]:Str) ([41]:Str) aJ {kind:=(6:Int),pkg:=[],name:=[],n:=D,names:=[],vars:=[],shapes:=[],parts:=[],pos:=(aH s).pos:Trm} C);let F:=(au ([45,62]:Str) E.2);let G:=(100000:Nat);let H:=True;let I:=(1:Nat);let J:=a7 (n+I) s;let K:=J.1.vars=[];let L:=([108,101,116]:Str);let M:=dk L B;let N:=(bh (1:Int) M);let O:=(au ([61]:Str) N.2);let P:=a7 n O;let Q:=(au ([105,110]:Str) P.2);let R:=[]++[P.1];let S:=[]=J.1.pkg;let T:=J.1.names=[];let U:=(aH s).pos=J.1.pos;let V:=([105,102]:Str);let W:=dk V M;let X:=a7 n W;let Y:=(au ([116,104,101,110]:Str) X.2);let Z:=[X.1];let a:=[]++Z;let b:=a7 n Y;let c:=(au ([101,108,115,101]:Str) b.2);let d:=[]++Z++[b.1];let e:=a7 n c;let f:=[]++Z++[b.1]++[e.1];let g:=([97,115]:Str);let h:=cm (au g e.2);let i:=([99,97,115,101]:Str);let j:=dk i W;let k:=a7 n j;let l:=([111,102]:Str);let m:=au l k.2;let o:=(au ([123]:Str) m);let p:=[]++[k.1];let q:=a7 n;let r:=(ah ([124]:Str) ([125]:Str) (ax q) {kind:=(13:Int),pkg:=[],name:=[],n:=D,names:=[],vars:=[],shapes:=[],parts:=[]++[k.1],pos:=(aH s).pos:Trm} o);let t:=cm (au g r.2);let u:=(dk ([91]:Str) j);let v:=(ah ([44]:Str) ([93]:Str) (aF q) {kind:=(11:Int),pkg:=[],name:=[],n:=D,names:=[],vars:=[],shapes:=[],parts:=[],pos:=(aH s).pos:Trm} u);let w:=cm (au l v.2);a8 s/\a8 s/\if isF A s=true then a8 B/\(a8 C/\rem C<=n)/\a8 E.2/\(a8 F/\rem F<n/\List.length E.1.names=List.length E.1.names/\List.length E.1.shapes=List.length E.1.shapes/\List.length E.1.names+List.length E.1.shapes<=G)/\H/\E.1.kind=J.1.kind/\E.1.pkg=J.1.pkg/\E.1.name=J.1.name/\E.1.n=J.1.n/\E.1.names=J.1.names/\K/\E.1.shapes=J.1.shapes/\[]++[(a7 n F).1]=J.1.parts/\E.1.pos=J.1.pos/\(a7 n F).2=J.2/\H else a8 B/\if isF L B=true then(a8 M/\¬(1:Int)=D)/\a8 N.2/\(a8 O/\rem O<n)/\a8 P.2/\(a8 Q/\rem Q<n/\List.length R=List.length R/\List.length R<=G)/\H/\(14:Int)=J.1.kind/\S/\N.1.text=J.1.name/\D=J.1.n/\T/\K/\J.1.shapes=[]/\[]++[P.1]++[(a7 n Q).1]=J.1.parts/\U/\(a7 n Q).2=J.2/\H else a8 M/\if isF V M=true then(a8 W/\rem W<n)/\a8 X.2/\(a8 Y/\rem Y<n/\List.length a=List.length a/\List.length a<=G)/\a8 b.2/\(a8 c/\rem c<n/\List.length d=List.length d/\List.length d<=G)/\(a8 e.2/\List.length f=List.length f/\List.length f<=G)/\H/\(12:Int)=J.1.kind/\S/\[]=J.1.name/\D=J.1.n/\T/\K/\[]++[h.1]=J.1.shapes/\[]++Z++[b.1]++[e.1]=J.1.parts/\U/\h.2=J.2/\H else a8 W/\if isF i W=true then(a8 j/\rem j<n)/\a8 k.2/\a8 m/\(a8 o/\rem o<=n/\List.length p=List.length p/\List.length p<=I)/\(a8 r.2/\List.length r.1.names=List.length r.1.names/\List.length r.1.vars=List.length r.1.vars/\List.length r.1.shapes=List.length r.1.shapes/\List.length r.1.parts=List.length r.1.parts/\List.length r.1.names+List.length r.1.vars+List.length r.1.shapes+List.length r.1.parts<=G)/\H/\r.1.kind=J.1.kind/\r.1.pkg=J.1.pkg/\r.1.name=J.1.name/\r.1.n=J.1.n/\r.1.names=J.1.names/\r.1.vars=J.1.vars/\r.1.shapes++[t.1]=J.1.shapes/\r.1.parts=J.1.parts/\r.1.pos=J.1.pos/\t.2=J.2/\H else a8 j/\if isF ([91]:Str) j=true then(a8 u/\rem u<n)/\(a8 v.2/\List.length v.1.parts=List.length v.1.parts/\List.length v.1.parts<=G)/\H/\v.1.kind=J.1.kind/\v.1.pkg=J.1.pkg/\v.1.name=J.1.name/\v.1.n=J.1.n/\T/\K/\[]++[w.1]=J.1.shapes/\v.1.parts=J.1.parts/\v.1.pos=J.1.pos/\w.2=J.2/\H else(a8 u/\rem u<n+I)/\H/\(gr q u).1=J.1/\(gr q u).2=J.2/\H:=by
 conv=>zeta
 obtain⟨hi,hn⟩:=ho;obtain⟨G,hG⟩:∃G,G=mJ (a7 n) s:=⟨_,rfl⟩;rw[show a7 (n+1) s=G from hG.symm];unfold mJ at hG;have hl:=hi.2.2.1;have hR:=dS n;refine⟨hi,?_⟩;refine⟨hi,a6 (fun c=>?_) (fun c=>?_)⟩;rotate_left
 ·rw[OP c]at hG;have c:isF [102,117,110] s=false:=by simpa using c
  rw[b9 c];refine⟨hi,a6 (fun c=>?_) (fun c=>?_)⟩;rotate_left
  ·rw[OP c]at hG;have c:isF [108,101,116] s=false:=by simpa using c
   rw[b9 c];refine⟨hi,a6 (fun c=>?_) (fun c=>?_)⟩;rotate_left
   ·rw[OP c]at hG;have c:isF [105,102] s=false:=by simpa using c
    rw[b9 c];refine⟨hi,a6 (fun c=>?_) (fun c=>?_)⟩;rotate_left
    ·rw[OP c]at hG;have c:isF [99,97,115,101] s=false:=by simpa using c
     rw[b9 c];refine⟨hi,a6 (fun c=>?_) (fun c=>?_)⟩;rotate_left
     ·rw[OP c]at hG;have c:isF [91] s=false:=by simpa using c
      rw[b9 c];refine⟨⟨hi,hn⟩,?_⟩;subst hG;exact Xr
     rw[OQ c]at hG;have m:=bL hi c;have r:=bS hi c;rw[aY c]
     have hRp:gd (aF (a7 n)) (n-1):=gQ (by
      have hp:=fm (fN c).2;by_cases h:n=0
      ·subst h;have:=bS hi c;have h5:rem (aQ s)=0:=by omega
       omega
      ·rw[Q8 (by omega)];exact hR)
     have hn1:rem (aQ s)<n:=by omega
     have ht:=m.goes.toks;have g:=bV hRp [44] [93] (⟨11,[],[],0,[],[],[],[],(aH s).pos⟩:Trm) m.good (by omega);have kn:=dB (fun x:Trm=>x.names=[]) (one:=aF (a7 n)) (fun x s h=>h) [44] [93] (x:=(⟨11,[],[],0,[],[],[],[],(aH s).pos⟩:Trm)) (aQ s) rfl;have kv:=dB (fun x:Trm=>x.vars=[]) (one:=aF (a7 n)) (fun x s h=>h) [44] [93] (x:=(⟨11,[],[],0,[],[],[],[],(aH s).pos⟩:Trm)) (aQ s) rfl;have ks:=dB (fun x:Trm=>x.shapes=[]) (one:=aF (a7 n)) (fun x s h=>h) [44] [93] (x:=(⟨11,[],[],0,[],[],[],[],(aH s).pos⟩:Trm)) (aQ s) rfl;have lp:=eH (fun x:Trm=>x.parts.length) (one:=aF (a7 n)) (fun x s=>by simp[aF,ar,aJ,ff,an,bd,ax,cR]) [44] [93] (⟨11,[],[],0,[],[],[],[],(aH s).pos⟩:Trm) (aQ s);replace hG:G=ff [111,102] (ah [44] [93] (aF (a7 n)) (⟨11,[],[],0,[],[],[],[],(aH s).pos⟩:Trm) (aQ s)).1 (ah [44] [93] (aF (a7 n)) (⟨11,[],[],0,[],[],[],[],(aH s).pos⟩:Trm) (aQ s)).2:=hG;generalize ah [44] [93] (aF (a7 n)) (⟨11,[],[],0,[],[],[],[],(aH s).pos⟩:Trm) (aQ s)=L at hG g kn kv ks lp⊢;subst hG;simp only[ht,Pk]at lp;refine⟨⟨m.good,hn1⟩,⟨g.good,by trivial,by omega⟩,?_⟩
     repeat (first|exact trivial|refine⟨by first|rfl|trivial|exact kn|exact kv|exact ks|exact kp|(show[]++[_]=L.1.parts++[_];rw[kp])|(show[]++[_]=L.1.shapes++[_];rw[ks]),?_⟩)
    rw[OQ c]at hG;have m:=bL hi c;have r:=bS hi c;rw[aY c];have a:=hR.moves m.good (by omega);have al:=a.goes.le;have b:=aN (t:=[111,102]) a.good;have bl:=b.goes.le;have d:=aN (t:=[123]) b.good;have dl:=d.goes.le;have ht:=(((m.then a).then b).then d).goes.toks;have g:=bV (qQ hR) [124] [125] (⟨13,[],[],0,[],[],[],[]++[(a7 n (aQ s)).1],(aH s).pos⟩:Trm) d.good (by omega);have ln:=eH (fun x:Trm=>x.names.length) (one:=ax (a7 n)) (fun x s=>by simp[aF,ar,aJ,ff,an,bd,ax,cR]) [124] [125] (⟨13,[],[],0,[],[],[],[]++[(a7 n (aQ s)).1],(aH s).pos⟩:Trm) (au [123] (au [111,102] (a7 n (aQ s)).2));have lv:=eH (fun x:Trm=>x.vars.length) (one:=ax (a7 n)) (fun x s=>by simp[aF,ar,aJ,ff,an,bd,ax,cR]) [124] [125] (⟨13,[],[],0,[],[],[],[]++[(a7 n (aQ s)).1],(aH s).pos⟩:Trm) (au [123] (au [111,102] (a7 n (aQ s)).2));have ls:=eH (fun x:Trm=>x.shapes.length) (one:=ax (a7 n)) (fun x s=>by simp[aF,ar,aJ,ff,an,bd,ax,cR]) [124] [125] (⟨13,[],[],0,[],[],[],[]++[(a7 n (aQ s)).1],(aH s).pos⟩:Trm) (au [123] (au [111,102] (a7 n (aQ s)).2));have lp:=eH (fun x:Trm=>x.parts.length) (one:=ax (a7 n)) (fun x s=>by simp[aF,ar,aJ,ff,an,bd,ax,cR]) [124] [125] (⟨13,[],[],0,[],[],[],[]++[(a7 n (aQ s)).1],(aH s).pos⟩:Trm) (au [123] (au [111,102] (a7 n (aQ s)).2))
    replace hG:G=ff [97,115] (ah [124] [125] (ax (a7 n)) (⟨13,[],[],0,[],[],[],[]++[(a7 n (aQ s)).1],(aH s).pos⟩:Trm) (au [123] (au [111,102] (a7 n (aQ s)).2))).1 (ah [124] [125] (ax (a7 n)) (⟨13,[],[],0,[],[],[],[]++[(a7 n (aQ s)).1],(aH s).pos⟩:Trm) (au [123] (au [111,102] (a7 n (aQ s)).2))).2:=hG;generalize ah [124] [125] (ax (a7 n)) (⟨13,[],[],0,[],[],[],[]++[(a7 n (aQ s)).1],(aH s).pos⟩:Trm) (au [123] (au [111,102] (a7 n (aQ s)).2))=L at hG g ln lv ls lp⊢;subst hG;simp only[ht,Pk,OT,OS]at ln lv ls lp;refine⟨⟨m.good,by omega⟩,a.good,b.good,⟨d.good,by omega,by trivial,by simp⟩,⟨g.good,by trivial,by trivial,by trivial,by trivial,by omega⟩,?_⟩;exact Xr
   rw[OQ c]at hG;have m:=bL hi c;have r:=bS hi c;rw[aY c];replace hG:G=ff [97,115] (aF (a7 n) (aF (a7 n) (aF (a7 n) ⟨12,[],[],0,[],[],[],[],(aH s).pos⟩ (aQ s)).1 (au [116,104,101,110] (a7 n (aQ s)).2)).1 (au [101,108,115,101] (a7 n (au [116,104,101,110] (a7 n (aQ s)).2)).2)).1 (a7 n (au [101,108,115,101] (a7 n (au [116,104,101,110] (a7 n (aQ s)).2)).2)).2:=hG;subst hG;have a:=hR.moves m.good (by omega);have al:=a.goes.le;have b:=aN (t:=[116,104,101,110]) a.good;have bl:=b.goes.le;have d:=hR.moves b.good (by omega);have dl:=d.goes.le;have e:=aN (t:=[101,108,115,101]) d.good;have el:=e.goes.le;have f:=hR.moves e.good (by omega);refine⟨⟨m.good,by omega⟩,a.good,⟨b.good,by omega,by trivial,by simp⟩,d.good,⟨e.good,by omega,by trivial,by simp⟩,⟨f.good,by trivial,by simp⟩,?_⟩;exact Xr
  rw[OQ c]at hG;have m:=bL hi c;have r:=bS hi c;rw[aY c];replace hG:G=aF (a7 n) (aF (a7 n) ⟨14,[],(bh 1 (aQ s)).1.text,0,[],[],[],[],(aH s).pos⟩ (au [61] (bh 1 (aQ s)).2)).1 (au [105,110] (a7 n (au [61] (bh 1 (aQ s)).2)).2):=hG;subst hG;have a:=ew (k:=1) m.good (by decide);have al:=a.goes.le;have b:=aN (t:=[61]) a.good;have bl:=b.goes.le;have d:=hR.moves b.good (by omega);have dl:=d.goes.le;have e:=aN (t:=[105,110]) d.good;have el:=e.goes.le;refine⟨⟨m.good,by decide⟩,a.good,⟨b.good,by omega⟩,d.good,⟨e.good,by omega,by trivial,by simp⟩,?_⟩;exact Xr
 rw[OQ c]at hG;have m:=bL hi c;have r:=bS hi c;rw[aY c];have a:=aN (t:=[40]) m.good;have al:=a.goes.le;have ht:=(m.then a).goes.toks;have g:=bV (qP n) [44] [41] (⟨6,[],[],0,[],[],[],[],(aH s).pos⟩:Trm) a.good (by omega);have ln:=eH (fun x:Trm=>x.names.length) (one:=aJ) (fun x s=>by simp[aF,ar,aJ,ff,an,bd,ax,cR]) [44] [41] (⟨6,[],[],0,[],[],[],[],(aH s).pos⟩:Trm) (au [40] (aQ s));have ls:=eH (fun x:Trm=>x.shapes.length) (one:=aJ) (fun x s=>by simp[aF,ar,aJ,ff,an,bd,ax,cR]) [44] [41] (⟨6,[],[],0,[],[],[],[],(aH s).pos⟩:Trm) (au [40] (aQ s));have kv:=dB (fun x:Trm=>x.vars=[]) (one:=aJ) (fun x s h=>h) [44] [41] (x:=(⟨6,[],[],0,[],[],[],[],(aH s).pos⟩:Trm)) (au [40] (aQ s)) rfl;have kp:=dB (fun x:Trm=>x.parts=[]) (one:=aJ) (fun x s h=>h) [44] [41] (x:=(⟨6,[],[],0,[],[],[],[],(aH s).pos⟩:Trm)) (au [40] (aQ s)) rfl;replace hG:G=aF (a7 n) (ah [44] [41] aJ (⟨6,[],[],0,[],[],[],[],(aH s).pos⟩:Trm) (au [40] (aQ s))).1 (au [45,62] (ah [44] [41] aJ (⟨6,[],[],0,[],[],[],[],(aH s).pos⟩:Trm) (au [40] (aQ s))).2):=hG;generalize ah [44] [41] aJ (⟨6,[],[],0,[],[],[],[],(aH s).pos⟩:Trm) (au [40] (aQ s))=L at hG g ln ls kv kp⊢;subst hG;simp only[ht,Pk]at ln ls;have gl:=g.le;have b:=aN (t:=[45,62]) g.good;have bl:=b.goes.le;refine⟨m.good,⟨a.good,by omega⟩,g.good,⟨b.good,by omega,by trivial,by trivial,by omega⟩,?_⟩
 repeat (first|exact trivial|refine⟨by first|rfl|trivial|exact kn|exact kv|exact ks|exact kp|(show[]++[_]=L.1.parts++[_];rw[kp])|(show[]++[_]=L.1.shapes++[_];rw[ks]),?_⟩)
theorem Kv(l:List Tokn)(a:Int)(hl:Wf (.lst (.st .token)) l) :
  let A:=(0:Int);let B:=True;let C:=B/\dr (2:Int) A {toks:=l,pos:=a,err:=A,fat:=A:Par}=bH l a/\B;let D:=(↑(List.length l):Int);let E:=bH l a;if decide (a<A)=true then C else if decide (D<a)=true then C else if decide ((4097:Int)<D)=true then B/\dr (3:Int) A {toks:=l,pos:=a,err:=A,fat:=A:Par}=bH l a/\B else B/\l=E.toks/\a=E.pos/\A=E.err/\A=E.fat/\B:=by
 conv=>zeta
 have hn:=hl.len;apply a6<;>intro h
 ·replace h:=Xo h;have e:bH l a=⟨l,a,2,0⟩:=by unfold bH;rw[OQ (.inl h)]
  rw[e];exact Xr
 replace h:¬a<0:=fun e=>h (Xd e);apply a6<;>intro k
 ·replace k:=Xo k;have e:bH l a=⟨l,a,2,0⟩:=by unfold bH;rw[OQ (.inr k)]
  rw[e];exact Xr
 replace k:¬(l.length:Int)<a:=fun e=>k (Xd e);have hb:¬(a<0∨(l.length:Int)<a):=fun e=>e.elim h k;apply a6<;>intro d
 ·replace d:=Xo d;have e:bH l a=⟨l,a,3,0⟩:=by unfold bH;rw[OP hb,OQ (by omega)]
  rw[e];exact Xr
 ·replace d:¬(4097:Int)<(l.length:Int):=fun e=>d (Xd e);have e:bH l a=⟨l,a,0,0⟩:=by unfold bH;rw[OP hb,OP (by omega)]
  rw[e];exact Xr
theorem H6(l:List Tokn)(a:Int)(hl:Wf (.lst (.st .token)) l)(ho:0<=a/\a<(l.length:Int)) :
  let A:=(↑(List.length l):Int);let B:=(0:Int);let C:=cC l a;inR IntKind.i64 (A-(1:Int))/\if(!decide (a=A-(1:Int)))=true then(B<=a/\a<A)/\True/\(90:Int)=C.err/\(List.getD l (Int.toNat a) (dfl (Ty.st SN.token))).pos=C.pos/\True else True/\B=C.err/\B=C.pos/\True:=by
 conv=>zeta
 have hn:=hl.len;refine⟨ak (by omega) (by omega),a6 (fun h=>?_) (fun h=>?_)⟩
 ·have h:¬a=(l.length:Int)-1:=by simpa using h
  unfold cC;rw[OP h];refine⟨ho,?_⟩;exact Xr
 ·have h:a=(l.length:Int)-1:=by simpa using h
  unfold cC;rw[OQ h];exact Xr
theorem ML(l:List Tokn)(a:Int)(hN:aO l) :
  let A:=bH l a;let B:=True;let C:=(0:Int);let D:=eV l a;let E:=C=D.1.kind;let F:=[]=D.1.pkg;let G:=[]=D.1.name;let H:=D.1.names=[];let I:=D.1.parts=[];let J:=cm A;if b7 A=true then B/\E/\F/\G/\H/\I/\C=D.2.1/\A.err=D.2.2.err/\A.fat=D.2.2.pos/\B else a8 A/\if b7 J.2=true then B/\E/\F/\G/\H/\I/\C=D.2.1/\J.2.err=D.2.2.err/\J.2.fat=D.2.2.pos/\B else B/\J.1=D.1/\J.2.pos=D.2.1/\C=D.2.2.err/\C=D.2.2.pos/\B:=by
 conv=>zeta
 obtain⟨G,hG⟩:∃G,G=eV l a:=⟨_,rfl⟩;rw[<-hG];unfold eV at hG;apply a6<;>intro h
 ·rw[OQ h]at hG;subst hG;exact Xr
 ·rw[OP h]at hG;have h:b7 (bH l a)=false:=by simpa using h
  have g:=mg hN h;unfold pZ at hG;refine⟨g,a6 (fun k=>?_) (fun k=>?_)⟩
  ·rw[OQ k]at hG;subst hG;exact Xr
  ·rw[OP k]at hG;subst hG;exact Xr
theorem H7(n:Nat)(t:Trm)(m:Int)(hs:Wf (.st .term) t)(hz:szT t<=n+1)(h0:0<=m)(h1:m<=1000000) :
  let A:=(1:Int);let B:=(0:Int);let C:=(↑(List.length t.parts):Int);let D:=t=t/\m=m/\B=B/\B=B/\t.parts=t.parts/\C=C/\t=t/\True;let E:=countT t m;let F:=dfl (Ty.st SN.term);(∃(x:Nat×Int×Int),(x.1<=List.length t.parts/\A<=x.2.1/\x.2.1<=m+A/\B<=x.2.2/\x.2.2+A<=x.2.1/\countL (List.drop x.1 t.parts) m x.2.1 x.2.2=countL t.parts m A B)/\A=x.2.1/\B=x.2.2/\B=(↑x.1:Int)/\D)/\∀(x:Nat×Int×Int),let G:=(↑x.1:Int);let H:=inR IntKind.i64 (x.2.2+A)/\True/\x.2.1=E.1/\x.2.2+A=E.2/\True;let I:=m-x.2.1;let J:=List.getD t.parts (Int.toNat G) F;let K:=countT J I;x.1<=List.length t.parts/\A<=x.2.1/\x.2.1<=m+A/\B<=x.2.2/\x.2.2+A<=x.2.1/\countL (List.drop x.1 t.parts) m x.2.1 x.2.2=countL t.parts m A B->if decide (G<C)=true then(B<=G/\G<C)/\if decide (m<x.2.1)=true then H else inR IntKind.i64 I/\(szT J<=n/\B<=m-x.2.1/\m-x.2.1<=(1000000:Int))/\inR IntKind.i64 (x.2.1+K.1)/\inR IntKind.i64 (G+A)/\∃(y:Nat×Int×Int),(y.1<=List.length t.parts/\A<=y.2.1/\y.2.1<=m+A/\B<=y.2.2/\y.2.2+A<=y.2.1/\countL (List.drop y.1 t.parts) m y.2.1 y.2.2=countL t.parts m A B)/\List.length t.parts-y.1<List.length t.parts-x.1/\x.2.1+K.1=y.2.1/\max x.2.2 K.2=y.2.2/\G+A=(↑y.1:Int)/\D else H:=by
 conv=>zeta
 have ln:=hs.term_parts.len;rw[GJ];refine⟨⟨(0,1,0),⟨OY _,by decide,by show(1:Int)<=m+1;omega,by decide,by decide,rfl⟩,rfl,rfl,rfl,?_⟩,?_⟩
 ·exact Xr
 rintro⟨k,a,d⟩ ⟨h1,h2,h3,h4,h5,h6⟩;simp only[OW]at h1 h2 h3 h4 h5 h6⊢;apply a6<;>intro h
 ·replace h:=Xo h;have hk:k<t.parts.length:=by omega
  rw[aK t.parts k (dfl (.st .term)) hk,countL]at h6;refine⟨by omega,a6 (fun c=>?_) (fun c=>?_)⟩
  ·replace c:=Xo c;rw[OQ c]at h6;rw[<-h6];refine⟨ak (by omega) (by omega),?_⟩;exact Xr
  ·replace c:¬m<a:=fun e=>c (Xd e);rw[OP c]at h6;have hm:=jx (cp t.parts k (dfl (.st .term)) hk);have he:=nr t;have hb:=countT_bound (t.parts.getD k (dfl (.st .term))) (m-a) (by omega);refine⟨ak (by omega) (by omega),⟨by omega,by omega,by omega⟩,ak (by omega) (by omega),bf hk ln,(k+1,_,_),⟨by show k+1<=_;omega,?_,?_,?_,?_,h6⟩,by show _-(k+1)<_;omega,rfl,rfl,by show _=((k+1:Nat):Int);omega,?_⟩
   ·show(1:Int)<=a+_;omega
   ·show a+_<=m+1;omega
   ·show(0:Int)<=max d _;omega
   ·show max d _+1<=a+_;omega
   exact Xr
 ·replace h:¬((k:Int)<(t.parts.length:Int)):=fun e=>h (Xd e);have e:k=t.parts.length:=by omega
  subst e;rw[P3,countL]at h6;rw[<-h6];refine⟨ak (by omega) (by omega),?_⟩;exact Xr
theorem Dp (x:Str)  :
  True/\(!aX x)=!aX x/\True:=by
 exact⟨trivial,by trivial,trivial⟩
theorem Dq (l:List Str) (hl:Wf (.lst .str) l) :
  let A:=(0:Nat);let B:=(↑(List.length l):Int);let C:=l=l/\B=B/\True;(∃(x:Nat),(x<=List.length l/\di aX (List.drop x l) x=di aX l A)/\(0:Int)=(↑x:Int)/\C)/\∀(x:Nat),let D:=(↑x:Int);x<=List.length l/\di aX (List.drop x l) x=di aX l A->if decide (D<B)=true then((0:Int)<=D/\D<B)/\if(!aX (List.getD l (Int.toNat D) (dfl Ty.str)))=true then True/\D=di aX l A/\True else inR IntKind.i64 (D+(1:Int))/\∃(y:Nat),(y<=List.length l/\di aX (List.drop y l) y=di aX l A)/\List.length l-y<List.length l-x/\D+(1:Int)=(↑y:Int)/\C else True/\(-1:Int)=di aX l A/\True:=by
 conv=>zeta
 have ln:=hl.len;simp only[OW];refine⟨⟨0,⟨OY _,by simp⟩,rfl,by trivial,by trivial,trivial⟩,?_⟩;rintro k ⟨h1,h2⟩;apply a6<;>intro h
 ·replace h:=Xo h;have hk:k<l.length:=by omega
  rw[aK l k (dfl .str) hk,di]at h2;refine⟨by omega,a6 (fun c=>?_) (fun c=>?_)⟩
  ·have c:aX (l.getD k (dfl .str))=false:=by simpa using c
   rw[c,OP PB]at h2;rw[<-h2];exact Xr
  ·have c:aX (l.getD k (dfl .str))=true:=by simpa using c
   rw[OQ c]at h2;refine⟨bf hk ln,k+1,⟨by omega,h2⟩,by omega,by omega,by trivial,by trivial,trivial⟩
 ·replace h:¬((k:Int)<(l.length:Int)):=fun e=>h (Xd e);have e:k=l.length:=by omega
  subst e;rw[P3,di]at h2;rw[<-h2];exact Xr
theorem Dr (l:List Str)  :
  True/\decide ((0:Int)<=di aX l (0:Nat))=!List.all l aX/\True:=by
 exact⟨trivial,nt aX l 0,trivial⟩
theorem Kw (l:List Str)  :
  True/\(!!List.all l aX)=List.all l aX/\True:=by
 exact⟨trivial,Rr _,trivial⟩
theorem Kx(l:List Str)(ho:l.length *16<=140737488355328) :
  let A:=(List.mergeSort l fun(x y:Str)=>decide (x<=y));let B:=List.all l aX&&decide (List.Nodup l);List.length l*(16:Nat)<=(140737488355328:Nat)/\if List.all l aX=true then List.length A=List.length A/\True/\decide ((↑(List.length (Lib.compact A)):Int)=(↑(List.length l):Int))=B/\True else True/\false=B/\True:=by
 conv=>zeta
 have hc:=nj l;unfold jX at hc;refine⟨ho,a6 (fun h=>?_) (fun h=>?_)⟩
 ·refine⟨by trivial,trivial,?_,trivial⟩;rw[h,Pg,PK,<-hc];omega
 ·have h:l.all aX=false:=by simpa using h
  exact⟨trivial,by rw[h];rfl,trivial⟩
theorem Ds(n:Nat)(x:Shape) (ho:sz x<=n) :
  sz x<=n/\True/\(!allS bp x)=!allS bp x/\True:=by
 exact⟨ho,trivial,by trivial,trivial⟩
theorem Dt(n:Nat)(l:List Shape) (hl:Wf (.lst (.st .shape)) l)(ho:∀x∈l,sz x<=n) :
  let A:=allS bp;let B:=(0:Nat);let C:=(↑(List.length l):Int);let D:=l=l/\C=C/\True;let E:=dfl (Ty.st SN.shape);(∃(x:Nat),(x<=List.length l/\di A (List.drop x l) x=di A l B)/\(0:Int)=(↑x:Int)/\D)/\∀(x:Nat),let F:=(↑x:Int);let G:=List.getD l (Int.toNat F) E;x<=List.length l/\di A (List.drop x l) x=di A l B->if decide (F<C)=true then((0:Int)<=F/\F<C)/\sz G<=n/\if(!allS bp G)=true then True/\F=di A l B/\True else inR IntKind.i64 (F+(1:Int))/\∃(y:Nat),(y<=List.length l/\di A (List.drop y l) y=di A l B)/\List.length l-y<List.length l-x/\F+(1:Int)=(↑y:Int)/\D else True/\(-1:Int)=di A l B/\True:=by
 conv=>zeta
 have ln:=hl.len;simp only[OW];refine⟨⟨0,⟨OY _,by simp⟩,rfl,by trivial,by trivial,trivial⟩,?_⟩;rintro k ⟨h1,h2⟩;apply a6<;>intro h
 ·replace h:=Xo h;have hk:k<l.length:=by omega
  rw[aK l k (dfl (.st .shape)) hk,di]at h2;refine⟨by omega,ho _ (cp l k _ hk),a6 (fun c=>?_) (fun c=>?_)⟩
  ·have c:(allS bp) (l.getD k (dfl (.st .shape)))=false:=by simpa using c
   rw[c,OP PB]at h2;rw[<-h2];exact Xr
  ·have c:(allS bp) (l.getD k (dfl (.st .shape)))=true:=by simpa using c
   rw[OQ c]at h2;refine⟨bf hk ln,k+1,⟨by omega,h2⟩,by omega,by omega,by trivial,by trivial,trivial⟩
 ·replace h:¬((k:Int)<(l.length:Int)):=fun e=>h (Xd e);have e:k=l.length:=by omega
  subst e;rw[P3,di]at h2;rw[<-h2];exact Xr
theorem Du(n:Nat)(l:List Shape) (ho:∀x∈l,sz x<=n) :
  (∀(x:Shape),x∈l->sz x<=n)/\True/\decide ((0:Int)<=di (allS bp) l (0:Nat))=!List.all l (allS bp)/\True:=by
 exact⟨ho,trivial,nt (allS bp) l 0,trivial⟩
theorem Ky(n:Nat)(l:List Shape) (ho:∀x∈l,sz x<=n) :
  (∀(x:Shape),x∈l->sz x<=n)/\True/\(!!List.all l (allS bp))=List.all l (allS bp)/\True:=by
 exact⟨ho,trivial,Rr _,trivial⟩
theorem MM(n:Nat)(s:Shape)(ho:sz s<=n+1) :
  if(!decide (s.kind=(10:Int)))=true then(∀(x:Shape),x∈s.parts->sz x<=n)/\True/\List.all s.parts (allS bp)=allS bp s/\True else True/\false=allS bp s/\True:=by
 have e0:allS bp s=(bp s&&s.parts.all (allS bp)):=by rw[o8,Ao]
 have h0:=pV s;have hm:∀x∈s.parts,sz x<=n:=fun x hx=>by have:=jY hx;omega
 rw[e0];apply a6<;>intro h
 ·have h:bp s=true:=h;rw[h,Pg];exact⟨hm,trivial,rfl,trivial⟩
 ·have h:bp s=false:=by simpa[bp]using h
  rw[h];exact Xr
theorem H8(s:Shape)  :
  let A:=(decide (bG s=(0:Int))&&allS bp s);if decide (bG s=(0:Int))=true then sz s<=(400:Nat)/\True/\allS bp s=A/\True else True/\false=A/\True:=by
 conv=>zeta
 apply a6<;>intro h
 ·have h:bG s=0:=by simpa using h
  refine⟨?_,trivial,by simp[h],trivial⟩;unfold bG at h;by_cases c:400<sz s
  ·rw[OQ c]at h;exact absurd h (by decide)
  ·omega
 ·have h:¬bG s=0:=by simpa using h
  exact⟨trivial,by simp[h],trivial⟩
theorem O1(t:Trm)  :
  let A:=(↑(List.length t.names):Int);let B:=(↑(List.length t.vars):Int);let C:=(↑(List.length t.shapes):Int);let D:=(↑(List.length t.parts):Int);True/\A=A/\B=B/\C=C/\D=D/\True:=by
 conv=>zeta
 exact Xr
theorem Kz(s:Str)(hs:Wf .str s) :
  let A:=aT s;let B:=(↑(List.length A):Int);let C:=s=s/\aT s=aT s/\B=B/\True;let D:=dfl (Ty.int IntKind.u8);let E:=(1:Int);(∃(x:Nat),(x<=List.length s/\List.all s eI=List.all (List.drop x s) eI)/\(0:Int)=(↑x:Int)/\C)/\∀(x:Nat),let F:=(↑x:Int);let G:=Int.toNat F;let H:=inR IntKind.i64 (F+E)/\∃(y:Nat),(y<=List.length s/\List.all s eI=List.all (List.drop y s) eI)/\List.length s-y<List.length s-x/\F+E=(↑y:Int)/\C;x<=List.length s/\List.all s eI=List.all (List.drop x s) eI->if decide (F<B)=true then((0:Int)<=F/\F<B)/\if decide (List.getD A G D<(32:Int))=true then if(!decide (List.getD A G D=(10:Int)))=true then if(!decide (List.getD A G D=(9:Int)))=true then True/\false=kE s/\True else H else H else H else True/\Option.isNone (dv s)=kE s/\True:=by
 conv=>zeta
 have ln:=hs.str;have hbl:(aT s).length=s.length:=Qg _;simp only[hbl,OW];refine⟨⟨0,⟨OY _,rfl⟩,?_⟩,?_⟩
 ·exact Xr
 rintro k ⟨h1,h2⟩;apply a6<;>intro h
 ·have hk:k<s.length:=by have:=Xo h;omega
  rw[aK s k 0 hk,Pl]at h2;have hq:=wH (s.getD k 0);simp only[AF s k hk]
  have yes:¬(bI (s.getD k 0)<32/\bI (s.getD k 0)≠10/\bI (s.getD k 0)≠9)->s.all eI=(s.drop (k+1)).all eI:=fun e=>by
   have:eI (s.getD k 0)=true:=by
    cases hh:eI (s.getD k 0)with|true=>rfl|false=>exact absurd (hq.1 hh) e
   rw[h2,this,Pg]
  refine⟨⟨by omega,by omega⟩,?_⟩
  repeat' (apply a6<;>intro _)
  all_goals (simp only[OZ,P8,Pe]at *)
  all_goals first
   |(refine⟨trivial,?_,trivial⟩;unfold kE;rw[h2,hq.2 (by omega),Ph,Ph])
   |(refine⟨bf hk ln,k+1,⟨by omega,yes (by omega)⟩,by omega,by omega,?_⟩;exact Xr)
 ·have hk:k=s.length:=by have:¬((k:Int)<(s.length:Int)):=fun e=>h (Xd e);omega
  refine⟨trivial,?_,trivial⟩;unfold kE;rw[h2,hk,P3];rfl
theorem AK (x:Shape)  :
  True/\(!(decide (bG x=(0:Int))&&allS bp x))=!cn x/\True:=by
 exact⟨trivial,by trivial,trivial⟩
theorem AM (l:List Shape) (hl:Wf (.lst (.st .shape)) l) :
  let A:=(0:Nat);let B:=(↑(List.length l):Int);let C:=l=l/\B=B/\True;(∃(x:Nat),(x<=List.length l/\di cn (List.drop x l) x=di cn l A)/\(0:Int)=(↑x:Int)/\C)/\∀(x:Nat),let D:=(↑x:Int);x<=List.length l/\di cn (List.drop x l) x=di cn l A->if decide (D<B)=true then((0:Int)<=D/\D<B)/\if(!cn (List.getD l (Int.toNat D) (dfl (Ty.st SN.shape))))=true then True/\D=di cn l A/\True else inR IntKind.i64 (D+(1:Int))/\∃(y:Nat),(y<=List.length l/\di cn (List.drop y l) y=di cn l A)/\List.length l-y<List.length l-x/\D+(1:Int)=(↑y:Int)/\C else True/\(-1:Int)=di cn l A/\True:=by
 conv=>zeta
 have ln:=hl.len;simp only[OW];refine⟨⟨0,⟨OY _,by simp⟩,rfl,by trivial,by trivial,trivial⟩,?_⟩;rintro k ⟨h1,h2⟩;apply a6<;>intro h
 ·replace h:=Xo h;have hk:k<l.length:=by omega
  rw[aK l k (dfl (.st .shape)) hk,di]at h2;refine⟨by omega,a6 (fun c=>?_) (fun c=>?_)⟩
  ·have c:cn (l.getD k (dfl (.st .shape)))=false:=by simpa using c
   rw[c,OP PB]at h2;rw[<-h2];exact Xr
  ·have c:cn (l.getD k (dfl (.st .shape)))=true:=by simpa using c
   rw[OQ c]at h2;refine⟨bf hk ln,k+1,⟨by omega,h2⟩,by omega,by omega,by trivial,by trivial,trivial⟩
 ·replace h:¬((k:Int)<(l.length:Int)):=fun e=>h (Xd e);have e:k=l.length:=by omega
  subst e;rw[P3,di]at h2;rw[<-h2];exact Xr
theorem AN (l:List Shape)  :
  True/\decide ((0:Int)<=di cn l (0:Nat))=!List.all l cn/\True:=by
 exact⟨trivial,nt cn l 0,trivial⟩
theorem H9 (l:List Shape)  :
  True/\(!!List.all l cn)=List.all l cn/\True:=by
 exact⟨trivial,Rr _,trivial⟩
theorem KA(t:Trm)(ht:Wf (.st .term) t)(ho:t.names.length<=1000000) :
  let A:=(0:Int);let B:=(↑(List.length t.names):Int);let C:=(↑(List.length t.vars):Int);let D:=(↑(List.length t.shapes):Int);let E:=(↑(List.length t.parts):Int);let F:=True;let G:=t=t/\false=false/\t=t/\B=B/\C=C/\D=D/\E=E/\F;let H:=true=!kF t/\G;let I:=(1:Int);let J:=(!List.all t.shapes cn)=!kF t/\G;let K:=if(!decide (t.pkg=[]))=true then if(!decide (t.kind=(5:Int)))=true then H else J else J;let L:=F/\false=aS t/\F;let M:=F/\(decide (B=A)&&(decide (C=A)&&(decide (D=A)&&(decide (E=A)&&true))))=aS t/\F;let N:=if decide (t.name=[])=true then M else L;let O:=List.length t.names*(16:Nat)<=(140737488355328:Nat);let P:=decide (E=I)&&true;let Q:=decide (E=E)&&true;let R:=F/\(decide (B=A)&&(decide (C=A)&&(decide (D=A)&&P)))=aS t/\F;let S:=if aX t.name=true then R else L;let T:=inR IntKind.i64 (B+I);let U:=if dI t.name=true then R else L;(if decide (t.pos<A)=true then H else if(!decide (t.n=A))=true then if(!decide (t.kind=I))=true then H else K else K)/\if(!kF t)=true then L else if decide (t.kind=I)=true then if decide (t.name=[])=true then if decide (A<=t.n)=true then if decide (t.n<=(999999999999999:Int))=true then M else L else L else L else if decide (t.kind=(2:Int))=true then if kE t.name=true then M else L else if decide (t.kind=(3:Int))=true then N else if decide (t.kind=(4:Int))=true then N else if decide (t.kind=(5:Int))=true then if aX t.name=true then if decide (t.pkg=[])=true then M else if aX t.pkg=true then M else L else L else if decide (t.kind=(6:Int))=true then if decide (t.name=[])=true then if decide (B<=(4096:Int))=true then O/\if(List.all t.names aX&&decide (List.Nodup t.names))=true then F/\(decide (B=B)&&(decide (C=A)&&(decide (D=B)&&P)))=aS t/\F else L else L else L else if decide (t.kind=(7:Int))=true then if decide (t.name=[])=true then if decide (A<E)=true then F/\(decide (B=A)&&(decide (C=A)&&(decide (D=A)&&Q)))=aS t/\F else L else L else if decide (t.kind=(8:Int))=true then if decide (t.name=[])=true then O/\if(List.all t.names aX&&decide (List.Nodup t.names))=true then F/\(decide (B=B)&&(decide (C=A)&&(decide (D=A)&&(decide (E=B)&&true))))=aS t/\F else L else L else if decide (t.kind=(9:Int))=true then S else if decide (t.kind=(10:Int))=true then S else if decide (t.kind=(11:Int))=true then if decide (t.name=[])=true then F/\(decide (B=A)&&(decide (C=A)&&(decide (D=I)&&Q)))=aS t/\F else L else if decide (t.kind=(12:Int))=true then if decide (t.name=[])=true then F/\(decide (B=A)&&(decide (C=A)&&(decide (D=I)&&(decide (E=(3:Int))&&true))))=aS t/\F else L else if decide (t.kind=(13:Int))=true then if decide (t.name=[])=true then O/\if(List.all t.names aX&&decide (List.Nodup t.names))=true then if List.all t.vars aX=true then T/\T/\F/\(decide (B=B)&&(decide (C=B)&&(decide (D=B+I)&&(decide (E=B+I)&&true))))=aS t/\F else L else L else L else if decide (t.kind=(14:Int))=true then if aX t.name=true then F/\(decide (B=A)&&(decide (C=A)&&(decide (D=A)&&(decide (E=(2:Int))&&true))))=aS t/\F else L else if decide (t.kind=(15:Int))=true then if decide (t.name=[])=true then F/\(decide (B=A)&&(decide (C=A)&&(decide (D=I)&&P)))=aS t/\F else L else if decide (t.kind=(16:Int))=true then U else if decide (t.kind=(17:Int))=true then U else L:=by
 conv=>zeta
 refine⟨?_,a6 (fun h=>?_) (fun h=>?_)⟩
 ·unfold kF
  repeat' (apply a6<;>intro _)
  all_goals simp_all
 ·have h:kF t=false:=by simpa using h
  unfold aS;rw[h];exact Xr
 have h:kF t=true:=by simpa using h
 have e0:aS t=nA t:=by unfold aS;rw[h,Pg]
 rw[e0];clear h e0;unfold nA im nz;simp only[dnZ,dn1,dn2,dn3,dnN,dnS,dnL,dnP];generalize t.names.all aX=na;generalize t.vars.all aX=va
 repeat' (first|apply a6<;>intro _|refine⟨by omega,?_⟩|refine⟨ak (by omega) (by omega),?_⟩|fail)
 all_goals (refine⟨trivial,?_,trivial⟩;try simp_all)
 all_goals first|(simp only[Bool.and_assoc];done)|(intros;omega)
theorem AO(n:Nat)(x:Trm) (ho:szT x<=n/\dD x=true) :
  (szT x<=n/\dD x=true)/\True/\(!allT aS x)=!allT aS x/\True:=by
 exact⟨ho,trivial,by trivial,trivial⟩
theorem AP(n:Nat)(l:List Trm) (hl:Wf (.lst (.st .term)) l)(ho:∀x∈l,szT x<=n/\dD x=true) :
  let A:=allT aS;let B:=(0:Nat);let C:=(↑(List.length l):Int);let D:=l=l/\C=C/\True;let E:=dfl (Ty.st SN.term);(∃(x:Nat),(x<=List.length l/\di A (List.drop x l) x=di A l B)/\(0:Int)=(↑x:Int)/\D)/\∀(x:Nat),let F:=(↑x:Int);let G:=List.getD l (Int.toNat F) E;x<=List.length l/\di A (List.drop x l) x=di A l B->if decide (F<C)=true then((0:Int)<=F/\F<C)/\(szT G<=n/\dD G=true)/\if(!allT aS G)=true then True/\F=di A l B/\True else inR IntKind.i64 (F+(1:Int))/\∃(y:Nat),(y<=List.length l/\di A (List.drop y l) y=di A l B)/\List.length l-y<List.length l-x/\F+(1:Int)=(↑y:Int)/\D else True/\(-1:Int)=di A l B/\True:=by
 conv=>zeta
 have ln:=hl.len;simp only[OW];refine⟨⟨0,⟨OY _,by simp⟩,rfl,by trivial,by trivial,trivial⟩,?_⟩;rintro k ⟨h1,h2⟩;apply a6<;>intro h
 ·replace h:=Xo h;have hk:k<l.length:=by omega
  rw[aK l k (dfl (.st .term)) hk,di]at h2;refine⟨by omega,ho _ (cp l k _ hk),a6 (fun c=>?_) (fun c=>?_)⟩
  ·have c:(allT aS) (l.getD k (dfl (.st .term)))=false:=by simpa using c
   rw[c,OP PB]at h2;rw[<-h2];exact Xr
  ·have c:(allT aS) (l.getD k (dfl (.st .term)))=true:=by simpa using c
   rw[OQ c]at h2;refine⟨bf hk ln,k+1,⟨by omega,h2⟩,by omega,by omega,by trivial,by trivial,trivial⟩
 ·replace h:¬((k:Int)<(l.length:Int)):=fun e=>h (Xd e);have e:k=l.length:=by omega
  subst e;rw[P3,di]at h2;rw[<-h2];exact Xr
theorem AQ(n:Nat)(l:List Trm) (ho:∀x∈l,szT x<=n/\dD x=true) :
  (∀(x:Trm),x∈l->szT x<=n/\dD x=true)/\True/\decide ((0:Int)<=di (allT aS) l (0:Nat))=!List.all l (allT aS)/\True:=by
 exact⟨ho,trivial,nt (allT aS) l 0,trivial⟩
theorem Ha(n:Nat)(l:List Trm) (ho:∀x∈l,szT x<=n/\dD x=true) :
  (∀(x:Trm),x∈l->szT x<=n/\dD x=true)/\True/\(!!List.all l (allT aS))=List.all l (allT aS)/\True:=by
 exact⟨ho,trivial,Rr _,trivial⟩
theorem Hb(n:Nat)(t:Trm)(ho:szT t<=n+1/\dD t=true) :
  List.length t.names<=(1000000:Nat)/\if aS t=true then(∀(x:Trm),x∈t.parts->szT x<=n/\dD x=true)/\True/\List.all t.parts (allT aS)=allT aS t/\True else True/\false=allT aS t/\True:=by
 obtain⟨h1,h2⟩:=ho;have e0:allT aS t=(aS t&&t.parts.all (allT aS)):=by rw[iZ,iP]
 have h0:=nr t;rw[e0];refine⟨Dh h2,a6 (fun h=>?_) (fun h=>?_)⟩
 ·rw[h,Pg];exact⟨fun x hx=>⟨by have:=jx hx;omega,GU h2 hx⟩,trivial,rfl,trivial⟩
 ·have h:aS t=false:=by simpa using h
  rw[h];exact Xr
theorem Hc(x:Trm)(ho:dD x=true) :
  let A:=szT x<=szT x;let B:=(4096:Int);let C:=True;(A/\(0:Int)<=B/\B<=(1000000:Int))/\if decide (B<(countT x B).1)=true then C/\(3:Int)=bJ x/\C else if decide ((40:Int)<(countT x B).2)=true then C/\(91:Int)=bJ x/\C else(A/\dD x=true)/\if(!allT aS x)=true then C/\(80:Int)=bJ x/\C else C/\(0:Int)=bJ x/\C:=by
 conv=>zeta
 refine⟨⟨P1 _,by omega,by omega⟩,a6 (fun h=>?_) (fun h=>?_)⟩
 ·replace h:=Xo h;unfold bJ;rw[OQ h];exact Xr
 have h:¬_:=fun e=>h (Xd e);have e1:bJ x=if 40<(countT x 4096).2 then 91 else if allT aS x=true then 0 else 80:=by unfold bJ;rw[OP h]
 apply a6<;>intro k
 ·rw[OQ (Xo k)]at e1;rw[e1];exact Xr
 rw[OP (fun e=>k (Xd e))]at e1;refine⟨⟨P1 _,ho⟩,a6 (fun j=>?_) (fun j=>?_)⟩
 ·have j:allT aS x=false:=by simpa using j
  rw[j,OP PB]at e1;rw[e1];exact Xr
 ·have j:allT aS x=true:=by simpa using j
  rw[OQ j]at e1;rw[e1];exact Xr
theorem KB(s:Str)(p:Int)(n:Nat)(k:Int)(ho:s.length<=4096/\0<=p/\p<=(s.length:Int)/\0<=k/\k<=2) :
  let A:=p+k;let B:=inR IntKind.i64 A;let C:=(↑(List.length s):Int);let D:=s=s/\p=p/\n=n/\True;B/\if decide (C<=p+k)=true then True/\(0:Int)=bAt s A/\D else B/\((0:Int)<=p+k/\p+k<C)/\True/\(↑(UInt8.toNat (List.getD s (Int.toNat A) (0:UInt8))):Int)=bAt s A/\D:=by
 conv=>zeta
 obtain⟨h1,h2,h3,h4,h5⟩:=ho;refine⟨ak (by omega) (by omega),a6 (fun h=>?_) (fun h=>?_)⟩
 ·replace h:=Xo h;refine⟨trivial,(sA h).symm,?_⟩;exact Xr
 ·replace h:¬(s.length:Int)<=p+k:=fun e=>h (Xd e);refine⟨ak (by omega) (by omega),⟨by omega,by omega⟩,trivial,(nv (by omega)).symm,?_⟩;exact Xr
theorem MN(c:Int)  :
  let A:=True/\true=aW c/\True;if bU c=true then A else if bX c=true then A else if b8 c=true then A else if decide (c=(46:Int))=true then A else True/\decide (c=(45:Int))=aW c/\True:=by
 conv=>zeta
 unfold aW;cases bU c<;>cases bX c<;>cases b8 c<;>simp;by_cases a:c=46<;>simp[a]
theorem KC(c:Int)  :
  True/\(!decide (c=(10:Int)))=cD c/\True:=by
 unfold cD;simp
theorem Hd(c:Int)  :
  let A:=True/\false=b6 c/\True;if decide ((32:Int)<=c)=true then if(!decide (c=(34:Int)))=true then True/\(!decide (c=(92:Int)))=b6 c/\True else A else A:=by
 conv=>zeta
 unfold b6;by_cases a:(32:Int)<=c<;>by_cases b:c=34<;>by_cases d:c=92<;>simp[a,b,d]
theorem He(s:Str)(p:Int)(n:Nat)(ho:s.length<=4096/\0<=p/\p<=(s.length:Int)) :
  let A:=(↑(List.length s):Int);let B:=dU UInt8=dU UInt8;let C:=n=n/\True;let D:=(0:Int)<=p;let E:=(↑(aj bT s p):Int);(∃(x:Nat),let F:=(↑x:Int);(p+F<=A/\aj bT s p=x+aj bT s (p+F))/\B/\p=p/\s=s/\p=p+F/\C)/\∀(x:Nat),let F:=(↑x:Int);let G:=Int.toNat (p+F);let H:=(D/\p<=p+F/\p+F<=A)/\True/\List.drop (Int.toNat p) (List.take G s)=cut s p (p+E)/\s=s/\p+F=p+E/\C;p+F<=A/\aj bT s p=x+aj bT s (p+F)->if decide (p+F<A)=true then((0:Int)<=p+F/\p+F<A)/\if bT (↑(UInt8.toNat (List.getD s G (0:UInt8))):Int)=true then inR IntKind.i64 (p+F+(1:Int))/\∃(y:Nat),let I:=(↑y:Int);(p+I<=A/\aj bT s p=y+aj bT s (p+I))/\List.length s-y<List.length s-x/\B/\p=p/\s=s/\p+F+(1:Int)=p+I/\C else H else H:=by
 conv=>zeta
 obtain⟨a1,a2,a3⟩:=ho
 have fin:∀k:Nat,p+(k:Int)<=(s.length:Int)->aj bT s p=k->((0:Int)<=p/\p<=p+(k:Int)/\p+(k:Int)<=(s.length:Int))/\True/\
   List.drop (Int.toNat p) (List.take (Int.toNat (p+(k:Int))) s)=cut s p (p+(aj bT s p:Int))/\s=s/\p+(k:Int)=p+(aj bT s p:Int)/\n=n/\True:=by
  intro k h1 h2;refine⟨⟨by omega,by omega,by omega⟩,trivial,?_,rfl,by omega,rfl,trivial⟩;rw[h2];rfl
 refine⟨⟨0,⟨by omega,by simp⟩,rfl,rfl,rfl,by simp,rfl,trivial⟩,?_⟩;rintro k ⟨h1,h2⟩;apply a6<;>intro h
 ·replace h:=Xo h;refine⟨⟨by omega,h⟩,a6 (fun c=>?_) (fun c=>?_)⟩
  ·have e0:=cU (pr:=bT) (s:=s) (a:=p+(k:Int)) (by omega) h c;rw[e0]at h2;refine⟨ak (by omega) (by omega),k+1,⟨by omega,?_⟩,by omega,rfl,rfl,rfl,by omega,rfl,trivial⟩;have e:p+((k+1:Nat):Int)=p+(k:Int)+1:=by omega
   rw[e];omega
  ·have e0:=gR (pr:=bT) (s:=s) (a:=p+(k:Int)) (by omega) h (Ps.2 c);rw[e0]at h2;exact fin k h1 h2
 ·replace h:¬(p+(k:Int)<(s.length:Int)):=fun e=>h (Xd e);have e0:=iO (pr:=bT) (s:=s) (a:=p+(k:Int)) (by omega);rw[e0]at h2;exact fin k h1 h2
theorem Hf(s:Str)(p:Int)(n:Nat)(ho:s.length<=4096/\0<=p/\p<=(s.length:Int)) :
  let A:=(↑(List.length s):Int);let B:=dU UInt8=dU UInt8;let C:=n=n/\True;let D:=(0:Int)<=p;let E:=(↑(aj aW s p):Int);(∃(x:Nat),let F:=(↑x:Int);(p+F<=A/\aj aW s p=x+aj aW s (p+F))/\B/\p=p/\s=s/\p=p+F/\C)/\∀(x:Nat),let F:=(↑x:Int);let G:=Int.toNat (p+F);let H:=(D/\p<=p+F/\p+F<=A)/\True/\List.drop (Int.toNat p) (List.take G s)=cut s p (p+E)/\s=s/\p+F=p+E/\C;p+F<=A/\aj aW s p=x+aj aW s (p+F)->if decide (p+F<A)=true then((0:Int)<=p+F/\p+F<A)/\if aW (↑(UInt8.toNat (List.getD s G (0:UInt8))):Int)=true then inR IntKind.i64 (p+F+(1:Int))/\∃(y:Nat),let I:=(↑y:Int);(p+I<=A/\aj aW s p=y+aj aW s (p+I))/\List.length s-y<List.length s-x/\B/\p=p/\s=s/\p+F+(1:Int)=p+I/\C else H else H:=by
 conv=>zeta
 obtain⟨a1,a2,a3⟩:=ho
 have fin:∀k:Nat,p+(k:Int)<=(s.length:Int)->aj aW s p=k->((0:Int)<=p/\p<=p+(k:Int)/\p+(k:Int)<=(s.length:Int))/\True/\
   List.drop (Int.toNat p) (List.take (Int.toNat (p+(k:Int))) s)=cut s p (p+(aj aW s p:Int))/\s=s/\p+(k:Int)=p+(aj aW s p:Int)/\n=n/\True:=by
  intro k h1 h2;refine⟨⟨by omega,by omega,by omega⟩,trivial,?_,rfl,by omega,rfl,trivial⟩;rw[h2];rfl
 refine⟨⟨0,⟨by omega,by simp⟩,rfl,rfl,rfl,by simp,rfl,trivial⟩,?_⟩;rintro k ⟨h1,h2⟩;apply a6<;>intro h
 ·replace h:=Xo h;refine⟨⟨by omega,h⟩,a6 (fun c=>?_) (fun c=>?_)⟩
  ·have e0:=cU (pr:=aW) (s:=s) (a:=p+(k:Int)) (by omega) h c;rw[e0]at h2;refine⟨ak (by omega) (by omega),k+1,⟨by omega,?_⟩,by omega,rfl,rfl,rfl,by omega,rfl,trivial⟩;have e:p+((k+1:Nat):Int)=p+(k:Int)+1:=by omega
   rw[e];omega
  ·have e0:=gR (pr:=aW) (s:=s) (a:=p+(k:Int)) (by omega) h (Ps.2 c);rw[e0]at h2;exact fin k h1 h2
 ·replace h:¬(p+(k:Int)<(s.length:Int)):=fun e=>h (Xd e);have e0:=iO (pr:=aW) (s:=s) (a:=p+(k:Int)) (by omega);rw[e0]at h2;exact fin k h1 h2
theorem Hg(s:Str)(p:Int)(n:Nat)(ho:s.length<=4096/\0<=p/\p<=(s.length:Int)) :
  let A:=(↑(List.length s):Int);let B:=dU UInt8=dU UInt8;let C:=n=n/\True;let D:=(0:Int)<=p;let E:=(↑(aj cD s p):Int);(∃(x:Nat),let F:=(↑x:Int);(p+F<=A/\aj cD s p=x+aj cD s (p+F))/\B/\p=p/\s=s/\p=p+F/\C)/\∀(x:Nat),let F:=(↑x:Int);let G:=Int.toNat (p+F);let H:=(D/\p<=p+F/\p+F<=A)/\True/\List.drop (Int.toNat p) (List.take G s)=cut s p (p+E)/\s=s/\p+F=p+E/\C;p+F<=A/\aj cD s p=x+aj cD s (p+F)->if decide (p+F<A)=true then((0:Int)<=p+F/\p+F<A)/\if cD (↑(UInt8.toNat (List.getD s G (0:UInt8))):Int)=true then inR IntKind.i64 (p+F+(1:Int))/\∃(y:Nat),let I:=(↑y:Int);(p+I<=A/\aj cD s p=y+aj cD s (p+I))/\List.length s-y<List.length s-x/\B/\p=p/\s=s/\p+F+(1:Int)=p+I/\C else H else H:=by
 conv=>zeta
 obtain⟨a1,a2,a3⟩:=ho
 have fin:∀k:Nat,p+(k:Int)<=(s.length:Int)->aj cD s p=k->((0:Int)<=p/\p<=p+(k:Int)/\p+(k:Int)<=(s.length:Int))/\True/\
   List.drop (Int.toNat p) (List.take (Int.toNat (p+(k:Int))) s)=cut s p (p+(aj cD s p:Int))/\s=s/\p+(k:Int)=p+(aj cD s p:Int)/\n=n/\True:=by
  intro k h1 h2;refine⟨⟨by omega,by omega,by omega⟩,trivial,?_,rfl,by omega,rfl,trivial⟩;rw[h2];rfl
 refine⟨⟨0,⟨by omega,by simp⟩,rfl,rfl,rfl,by simp,rfl,trivial⟩,?_⟩;rintro k ⟨h1,h2⟩;apply a6<;>intro h
 ·replace h:=Xo h;refine⟨⟨by omega,h⟩,a6 (fun c=>?_) (fun c=>?_)⟩
  ·have e0:=cU (pr:=cD) (s:=s) (a:=p+(k:Int)) (by omega) h c;rw[e0]at h2;refine⟨ak (by omega) (by omega),k+1,⟨by omega,?_⟩,by omega,rfl,rfl,rfl,by omega,rfl,trivial⟩;have e:p+((k+1:Nat):Int)=p+(k:Int)+1:=by omega
   rw[e];omega
  ·have e0:=gR (pr:=cD) (s:=s) (a:=p+(k:Int)) (by omega) h (Ps.2 c);rw[e0]at h2;exact fin k h1 h2
 ·replace h:¬(p+(k:Int)<(s.length:Int)):=fun e=>h (Xd e);have e0:=iO (pr:=cD) (s:=s) (a:=p+(k:Int)) (by omega);rw[e0]at h2;exact fin k h1 h2
theorem Hh(s:Str)(p:Int)(n:Nat)(ho:s.length<=4096/\0<=p/\p<=(s.length:Int)) :
  let A:=(↑(List.length s):Int);let B:=dU UInt8=dU UInt8;let C:=n=n/\True;let D:=(0:Int)<=p;let E:=(↑(aj b6 s p):Int);(∃(x:Nat),let F:=(↑x:Int);(p+F<=A/\aj b6 s p=x+aj b6 s (p+F))/\B/\p=p/\s=s/\p=p+F/\C)/\∀(x:Nat),let F:=(↑x:Int);let G:=Int.toNat (p+F);let H:=(D/\p<=p+F/\p+F<=A)/\True/\List.drop (Int.toNat p) (List.take G s)=cut s p (p+E)/\s=s/\p+F=p+E/\C;p+F<=A/\aj b6 s p=x+aj b6 s (p+F)->if decide (p+F<A)=true then((0:Int)<=p+F/\p+F<A)/\if b6 (↑(UInt8.toNat (List.getD s G (0:UInt8))):Int)=true then inR IntKind.i64 (p+F+(1:Int))/\∃(y:Nat),let I:=(↑y:Int);(p+I<=A/\aj b6 s p=y+aj b6 s (p+I))/\List.length s-y<List.length s-x/\B/\p=p/\s=s/\p+F+(1:Int)=p+I/\C else H else H:=by
 conv=>zeta
 obtain⟨a1,a2,a3⟩:=ho
 have fin:∀k:Nat,p+(k:Int)<=(s.length:Int)->aj b6 s p=k->((0:Int)<=p/\p<=p+(k:Int)/\p+(k:Int)<=(s.length:Int))/\True/\
   List.drop (Int.toNat p) (List.take (Int.toNat (p+(k:Int))) s)=cut s p (p+(aj b6 s p:Int))/\s=s/\p+(k:Int)=p+(aj b6 s p:Int)/\n=n/\True:=by
  intro k h1 h2;refine⟨⟨by omega,by omega,by omega⟩,trivial,?_,rfl,by omega,rfl,trivial⟩;rw[h2];rfl
 refine⟨⟨0,⟨by omega,by simp⟩,rfl,rfl,rfl,by simp,rfl,trivial⟩,?_⟩;rintro k ⟨h1,h2⟩;apply a6<;>intro h
 ·replace h:=Xo h;refine⟨⟨by omega,h⟩,a6 (fun c=>?_) (fun c=>?_)⟩
  ·have e0:=cU (pr:=b6) (s:=s) (a:=p+(k:Int)) (by omega) h c;rw[e0]at h2;refine⟨ak (by omega) (by omega),k+1,⟨by omega,?_⟩,by omega,rfl,rfl,rfl,by omega,rfl,trivial⟩;have e:p+((k+1:Nat):Int)=p+(k:Int)+1:=by omega
   rw[e];omega
  ·have e0:=gR (pr:=b6) (s:=s) (a:=p+(k:Int)) (by omega) h (Ps.2 c);rw[e0]at h2;exact fin k h1 h2
 ·replace h:¬(p+(k:Int)<(s.length:Int)):=fun e=>h (Xd e);have e0:=iO (pr:=b6) (s:=s) (a:=p+(k:Int)) (by omega);rw[e0]at h2;exact fin k h1 h2
theorem Hi(s:Str)(ho:s.length<=4096) :
  let A:=(0:Int);let B:=(↑(List.length s):Int);let C:=(8:Nat);let D:=True;let E:=A=A/\A=A/\D;let F:=List.take (Int.toNat B) s;let G:=yl s;let H:=(30:Int)=G.err;let I:=D/\A=G.err/\A=G.pos/\D;let J:=(140737488355328:Nat);(A<=B/\B*(↑C:Int)<=(140737488355328:Int))/\(∃(x:Nat×List Int),(x.1<=List.length s/\List.length x.2<=x.1/\dv s=gS s x.1)/\[]=x.2/\A=(↑x.1:Int)/\s=s/\(0:Nat)=List.length x.2/\E)/\∀(x:Nat×List Int),let K:=(↑x.1:Int);let L:=jy (List.drop (Int.toNat K) F);let M:=(↑L.1:Int);let N:=(↑L.2:Int);let O:=if decide (K<B)=true then D/\H/\K=G.pos/\D else I;let P:=inR IntKind.i64 M/\(List.length x.2=List.length x.2/\(List.length x.2+List.length [M])*C<=J)/\inR IntKind.i64 (K+N)/\∃(y:Nat×List Int),(y.1<=List.length s/\List.length y.2<=y.1/\dv s=gS s y.1)/\List.length s-y.1<List.length s-x.1/\x.2++[M]=y.2/\K+N=(↑y.1:Int)/\s=s/\List.length (x.2++[M])=List.length y.2/\E;x.1<=List.length s/\List.length x.2<=x.1/\dv s=gS s x.1->if decide (K<B)=true then(A<=K/\K<=B/\B<=B)/\if decide (M=(65533:Int))=true then if decide (N=(1:Int))=true then O else P else P else O:=by
 conv=>zeta
 refine⟨⟨by omega,by omega⟩,⟨(0,[]),⟨OY _,P1 _,rfl⟩,rfl,rfl,rfl,rfl,rfl,rfl,trivial⟩,?_⟩;rintro⟨k,xs⟩ ⟨h1,h2,h3⟩;simp only[OW,PV]at h1 h2 h3⊢;apply a6<;>intro h
 ·have hk:k<s.length:=by have:=Xo h;omega
  have hx:s.drop k≠[]:=by intro e;have:=Qi List.length e;simp at this;omega
  obtain⟨g1,g2,g3,g4,g5⟩:=lD hx;rw[Pq]at g5;refine⟨⟨by omega,by omega,by omega⟩,a6 (fun c=>?_) (fun c=>?_)⟩
  ·replace c:=Xo c;apply a6<;>intro d
   ·replace d:=Xo d;have hu:=g1.1 ⟨by omega,by omega⟩;rw[oc hk hu]at h3;rw[OQ h];unfold yl;rw[h3];exact Xr
   ·have hd:¬((jy (s.drop k)).2:Int)=1:=fun e=>d (Xd e);have hu:cM (s.drop k)≠0:=by intro e;have:=g1.2 e;exact hd (by omega)
    have g6:=g2 hu;have hs:=ke hk hu;refine⟨ak (by omega) (by omega),⟨(by first|rfl|trivial),by simp only[OS];omega⟩,ak (by omega) (by omega),(k+(jy (s.drop k)).2,xs++[((jy (s.drop k)).1:Int)]),⟨by show k+_<=_;omega,by show(xs++[_]).length<=k+_;rw[OT,OS];omega,?_⟩,by show s.length-(k+_)<_;omega,(by first|rfl|trivial),by show(k:Int)+_=((k+_:Nat):Int);omega,(by first|rfl|trivial),(by first|rfl|trivial),(by first|rfl|trivial),(by first|rfl|trivial),trivial⟩;show dv s=gS s (k+_);rw[h3,hs,g6]
  ·have hc:¬((jy (s.drop k)).1:Int)=65533:=fun e=>c (Xd e);have hu:cM (s.drop k)≠0:=by intro e;have:=g1.2 e;exact hc (by omega)
   have g6:=g2 hu;have hs:=ke hk hu;refine⟨ak (by omega) (by omega),⟨(by first|rfl|trivial),by simp only[OS];omega⟩,ak (by omega) (by omega),(k+(jy (s.drop k)).2,xs++[((jy (s.drop k)).1:Int)]),⟨by show k+_<=_;omega,by show(xs++[_]).length<=k+_;rw[OT,OS];omega,?_⟩,by show s.length-(k+_)<_;omega,(by first|rfl|trivial),by show(k:Int)+_=((k+_:Nat):Int);omega,(by first|rfl|trivial),(by first|rfl|trivial),(by first|rfl|trivial),(by first|rfl|trivial),trivial⟩;show dv s=gS s (k+_);rw[h3,hs,g6]
 ·have hk:s.length<=k:=by have:¬((k:Int)<(s.length:Int)):=fun e=>h (Xd e);omega
  rw[oa hk]at h3;rw[OP h];unfold yl;rw[h3];exact Xr
theorem Dv(s:Str)  :
  if(!decide (s=[]))=true then([48,49,50,51,52,53,54,55,56,57]:Str)=sa/\True/\decide (oN s=[])=ct s/\True else True/\false=ct s/\True:=by
 have e:∀l:Str,(l.all eX)=l.all fun c=>b8 (bI c):=fun _=>rfl;apply a6<;>intro h
 ·refine⟨rfl,trivial,?_,trivial⟩;unfold ct;rw[h,Pg,<-e];exact QC.2 (Qy.trans (wD s))
 ·refine⟨trivial,?_,trivial⟩;unfold ct;rw[Pv]at h;rw[h,Ph]
theorem KD(s:Str)(hs:Wf .str s) :
  let A:=True/\false=dz s/\True;let B:=(0:Int);let C:=(↑(List.length s):Int);let D:=(0:UInt8);let E:=(List.all s fun(c:UInt8)=>gu (bI c));let F:=s=s/\false=false/\C=C/\True;let G:=(1:Int);let H:=(65:Int);let I:=(90:Int);let J:=(45:Int);let K:=(∃(x:Nat),(x<=List.length s/\E=List.all (List.drop x s) fun(c:UInt8)=>gu (bI c))/\B=(↑x:Int)/\F)/\∀(x:Nat),let L:=(↑x:Int);let M:=(↑(UInt8.toNat (List.getD s (Int.toNat L) D)):Int);let N:=inR IntKind.i64 (L+G)/\∃(y:Nat),(y<=List.length s/\E=List.all (List.drop y s) fun(c:UInt8)=>gu (bI c))/\List.length s-y<List.length s-x/\L+G=(↑y:Int)/\F;let O:=if(!decide (M=J))=true then A else N;let P:=if decide (H<=M)=true then if decide (M<=I)=true then N else O else O;let Q:=if decide ((97:Int)<=M)=true then if decide (M<=(122:Int))=true then N else P else P;(x<=List.length s/\E=List.all (List.drop x s) fun(c:UInt8)=>gu (bI c))->if decide (L<C)=true then(B<=L/\L<C)/\if decide ((48:Int)<=M)=true then if decide (M<=(57:Int))=true then N else Q else Q else True/\true=dz s/\True;if decide (s=[])=true then A else if ct s=true then(B<=B/\B<C)/\if decide ((↑(UInt8.toNat (List.getD s (Int.toNat B) D)):Int)=(48:Int))=true then if(!decide (s=([48]:Str)))=true then A else K else K else K:=by
 conv=>zeta
 apply a6<;>intro h
 ·replace h:=Xo h;subst h;exact Xr
 have hne:s≠[]:=fun e=>h (Xd e);have hpos:=PL.2 hne;apply a6<;>intro h1
 ·refine⟨⟨by omega,by omega⟩,a6 (fun h2=>?_) (fun h2=>?_)⟩
  ·apply a6<;>intro h3
   ·refine⟨trivial,?_,trivial⟩;have e:decide (bI (s.getD 0 0)=48)=true:=h2;unfold dz;rw[h1,e,h3];simp
   ·have hz:(ct s&&decide (bI (s.getD 0 0)=48)&&!decide (s=[48]))=false:=by rw[Pv]at h3;rw[h3,PM]
    refine⟨⟨0,⟨OY _,rfl⟩,rfl,rfl,rfl,rfl,trivial⟩,?_⟩;rintro k ⟨h1,h2⟩;simp only[OW];apply a6<;>intro h
    ·have hk:k<s.length:=by have:=Xo h;omega
     rw[aK s k 0 hk,Pl]at h2;have eb:((s.getD k 0).toNat:Int)=bI (s.getD k 0):=rfl;refine⟨⟨by omega,by omega⟩,?_⟩;simp only[eb];have hp:=ny (bI (s.getD k 0));have yes:gu (bI (s.getD k 0))=true->(s.all fun c=>gu (bI c))=(s.drop (k+1)).all fun c=>gu (bI c):=fun e=>by rw[h2,e,Pg]
     have no:¬gu (bI (s.getD k 0))=true->false=dz s:=fun e=>by rw[lE hne hz,h2,Ps.2 e,Ph]
     generalize bI (s.getD k 0)=c at hp yes no⊢
     repeat' (apply a6<;>intro _)
     all_goals (simp only[OZ,P8,Pe]at *)
     all_goals first
      |exact⟨trivial,no (fun e=>by have:=hp.1 e;omega),trivial⟩
      |exact⟨bf hk hs.str,k+1,⟨by omega,yes (hp.2 (by omega))⟩,by omega,by omega,(by first|rfl|trivial),(by first|rfl|trivial),(by first|rfl|trivial),trivial⟩
    ·have hk:k=s.length:=by have:¬((k:Int)<(s.length:Int)):=fun e=>h (Xd e);omega
     refine⟨trivial,?_,trivial⟩;rw[lE hne hz,h2,hk,P3];rfl
  ·have hz:(ct s&&decide (bI (s.getD 0 0)=48)&&!decide (s=[48]))=false:=by
    have e:decide (bI (s.getD 0 0)=48)=false:=by rw[Pv]at h2;exact h2
    rw[e,PM,Ph]
   refine⟨⟨0,⟨OY _,rfl⟩,rfl,rfl,rfl,rfl,trivial⟩,?_⟩;rintro k ⟨h1,h2⟩;simp only[OW];apply a6<;>intro h
   ·have hk:k<s.length:=by have:=Xo h;omega
    rw[aK s k 0 hk,Pl]at h2;have eb:((s.getD k 0).toNat:Int)=bI (s.getD k 0):=rfl;refine⟨⟨by omega,by omega⟩,?_⟩;simp only[eb];have hp:=ny (bI (s.getD k 0));have yes:gu (bI (s.getD k 0))=true->(s.all fun c=>gu (bI c))=(s.drop (k+1)).all fun c=>gu (bI c):=fun e=>by rw[h2,e,Pg]
    have no:¬gu (bI (s.getD k 0))=true->false=dz s:=fun e=>by rw[lE hne hz,h2,Ps.2 e,Ph]
    generalize bI (s.getD k 0)=c at hp yes no⊢
    repeat' (apply a6<;>intro _)
    all_goals (simp only[OZ,P8,Pe]at *)
    all_goals first
     |exact⟨trivial,no (fun e=>by have:=hp.1 e;omega),trivial⟩
     |exact⟨bf hk hs.str,k+1,⟨by omega,yes (hp.2 (by omega))⟩,by omega,by omega,(by first|rfl|trivial),(by first|rfl|trivial),(by first|rfl|trivial),trivial⟩
   ·have hk:k=s.length:=by have:¬((k:Int)<(s.length:Int)):=fun e=>h (Xd e);omega
    refine⟨trivial,?_,trivial⟩;rw[lE hne hz,h2,hk,P3];rfl
 ·have hz:(ct s&&decide (bI (s.getD 0 0)=48)&&!decide (s=[48]))=false:=by rw[Pv]at h1;rw[h1,Ph,Ph]
  refine⟨⟨0,⟨OY _,rfl⟩,rfl,rfl,rfl,rfl,trivial⟩,?_⟩;rintro k ⟨h1,h2⟩;simp only[OW];apply a6<;>intro h
  ·have hk:k<s.length:=by have:=Xo h;omega
   rw[aK s k 0 hk,Pl]at h2;have eb:((s.getD k 0).toNat:Int)=bI (s.getD k 0):=rfl;refine⟨⟨by omega,by omega⟩,?_⟩;simp only[eb];have hp:=ny (bI (s.getD k 0));have yes:gu (bI (s.getD k 0))=true->(s.all fun c=>gu (bI c))=(s.drop (k+1)).all fun c=>gu (bI c):=fun e=>by rw[h2,e,Pg]
   have no:¬gu (bI (s.getD k 0))=true->false=dz s:=fun e=>by rw[lE hne hz,h2,Ps.2 e,Ph]
   generalize bI (s.getD k 0)=c at hp yes no⊢
   repeat' (apply a6<;>intro _)
   all_goals (simp only[OZ,P8,Pe]at *)
   all_goals first
    |exact⟨trivial,no (fun e=>by have:=hp.1 e;omega),trivial⟩
    |exact⟨bf hk hs.str,k+1,⟨by omega,yes (hp.2 (by omega))⟩,by omega,by omega,(by first|rfl|trivial),(by first|rfl|trivial),(by first|rfl|trivial),trivial⟩
  ·have hk:k=s.length:=by have:¬((k:Int)<(s.length:Int)):=fun e=>h (Xd e);omega
   refine⟨trivial,?_,trivial⟩;rw[lE hne hz,h2,hk,P3];rfl
theorem Hj(v:Vers)(hv:Wf (.st .version) v) :
  let A:=(3:Nat);let B:=[v.major,v.minor,v.patch];let C:=(0:Int);let D:=(↑(List.length B):Int);let E:=v=v/\List.length B=List.length B/\True;let F:=v=v/\B=B/\D=D/\E;let G:=dfl (Ty.int IntKind.i64);let H:=True/\(40:Int)=bY v/\True;let I:=(1:Int);let J:=(46:UInt8);let K:=splitB J v.pre;let L:=(↑(List.length K):Int);let M:=v=v/\B=B/\D=D/\false=false/\false=false/\true=true/\splitB J v.pre=splitB J v.pre/\L=L/\E;let N:=True/\C=bY v/\True;(∃(x:Nat),(x<=A/\List.all (List.take x B) sb=true)/\C=(↑x:Int)/\F)/\∀(x:Nat),let O:=(↑x:Int);x<=A/\List.all (List.take x B) sb=true->if decide (O<D)=true then(C<=O/\O<D)/\if decide (List.getD B (Int.toNat O) G<C)=true then H else if decide ((999999:Int)<List.getD B (Int.toNat O) G)=true then H else inR IntKind.i64 (O+I)/\∃(y:Nat),(y<=A/\List.all (List.take y B) sb=true)/\A-y<A-x/\O+I=(↑y:Int)/\F else if decide ((24:Int)<(↑(List.length v.pre):Int))=true then H else if(!decide (v.pre=[]))=true then(([46]:Str)=([46]:Str)/\List.length v.pre<(4294967281:Nat))/\(∃(x_1:Nat),(x_1<=List.length K/\List.all (List.take x_1 K) dz=true)/\C=(↑x_1:Int)/\O=O/\M)/\∀(x_1:Nat),let P:=(↑x_1:Int);x_1<=List.length K/\List.all (List.take x_1 K) dz=true->if decide (P<L)=true then(C<=P/\P<L)/\if(!dz (List.getD K (Int.toNat P) (dfl Ty.str)))=true then H else inR IntKind.i64 (P+I)/\∃(y:Nat),(y<=List.length K/\List.all (List.take y K) dz=true)/\List.length K-y<List.length K-x_1/\P+I=(↑y:Int)/\O=O/\M else N else N:=by
 conv=>zeta
 have bad:∀k:Nat,k<3->sb ([v.major,v.minor,v.patch].getD k (dfl (.int .i64)))=false->True/\(40:Int)=bY v/\True:=fun k hk e=>
  ⟨trivial,(Dd (qa (l:=[v.major,v.minor,v.patch]) (dfl (.int .i64)) hk e)).symm,trivial⟩
 refine⟨⟨0,⟨by omega,rfl⟩,?_⟩,?_⟩
 ·exact Xr
 rintro k ⟨h1,h2⟩;have l3:[v.major,v.minor,v.patch].length=3:=rfl;simp only[OW,l3];apply a6<;>intro h
 ·have hk:k<3:=by have:=Xo h;omega
  have bk:=bad k hk;have gk:=iY (l:=[v.major,v.minor,v.patch]) (dfl (.int .i64)) hk h2;refine⟨⟨by omega,by omega⟩,?_⟩;refine a6 (fun a=>bk ?_) (fun a=>a6 (fun b=>bk ?_) (fun b=>?_))
  ·have:=Xo a;have e:¬0<=[v.major,v.minor,v.patch].getD k (dfl (.int .i64)):=by omega
   unfold sb;rw[Xf e,Ph]
  ·have:=Xo b;have e:¬[v.major,v.minor,v.patch].getD k (dfl (.int .i64))<=999999:=by omega
   unfold sb;rw[Xf e,PM]
  ·have a:¬[v.major,v.minor,v.patch].getD k (dfl (.int .i64))<0:=fun e=>a (Xd e);have b:¬999999<[v.major,v.minor,v.patch].getD k (dfl (.int .i64)):=fun e=>b (Xd e);have a':0<=[v.major,v.minor,v.patch].getD k (dfl (.int .i64)):=by omega
   have b':[v.major,v.minor,v.patch].getD k (dfl (.int .i64))<=999999:=by omega
   refine⟨ak (by omega) (by omega),k+1,⟨by omega,gk ?_⟩,by omega,by omega,?_⟩
   ·unfold sb;rw[Xd a',Xd b'];rfl
   ·exact Xr
 ·have hk:k=3:=by have:¬((k:Int)<((3:Nat):Int)):=fun e=>h (Xd e);omega
  subst hk;have hg:=As h2;apply a6<;>intro a
  ·have:=Xo a;rw[OQ (by omega)]at hg;rw[hg];exact Xr
  have a:¬(24:Int)<(v.pre.length:Int):=fun e=>a (Xd e);have hl:=iX 46 v.pre;rw[OP (by omega)]at hg;apply a6<;>intro b
  ·have b:¬v.pre=[]:=by simpa using b
   rw[OP b]at hg;refine⟨⟨(by first|rfl|trivial),by omega⟩,⟨0,⟨by omega,rfl⟩,?_⟩,?_⟩
   ·exact Xr
   rintro j ⟨j1,j2⟩;apply a6<;>intro c
   ·have hj:j<(splitB 46 v.pre).length:=by have:=Xo c;omega
    refine⟨⟨by omega,by omega⟩,a6 (fun d=>?_) (fun d=>?_)⟩
    ·have d:dz ((splitB 46 v.pre).getD j (dfl .str))=false:=by simpa using d
     rw[qa (dfl .str) hj d,OP PB]at hg;rw[hg];exact Xr
    ·have d:dz ((splitB 46 v.pre).getD j (dfl .str))=true:=by simpa using d
     refine⟨ak (by omega) (by omega),j+1,⟨by omega,iY (dfl .str) hj j2 d⟩,by omega,by omega,?_⟩;exact Xr
   ·have hj:(splitB 46 v.pre).length<=j:=by have:¬((j:Int)<((splitB 46 v.pre).length:Int)):=fun e=>c (Xd e);omega
    rw[tR hj]at j2;rw[OQ j2]at hg;rw[hg];exact Xr
  ·have b:v.pre=[]:=by simpa using b
   rw[OQ b]at hg;rw[hg];exact Xr
theorem Hk(s:Str)(ho:s.length<=4096) :
  let A:=(4294967281:Nat);let B:=aU s;let C:=(46:UInt8);let D:=splitB C B;let E:=(↑(List.length D):Int);let F:=True;let G:=(0:Int);let H:=cz s;let I:=G=H.1.major;let J:=G=H.1.minor;let K:=G=H.1.patch;let L:=[]=H.1.pre;let M:=F/\I/\J/\K/\L/\(40:Int)=H.2/\F;let N:=(3:Nat);let O:=aU s=aU s;let P:=dj s=dj s;let Q:=eR s=eR s;let R:=splitB C B=splitB C B;let S:=false=false;let T:=G=G/\G=G/\G=G/\dU UInt8=dU UInt8/\F;let U:=dfl Ty.str;let V:=(1:Int);let W:=Int.toNat G;let X:=(↑N:Int);let Y:=(2:Int);let Z:=dfl (Ty.int IntKind.i64);let a:=Int.toNat V;let b:=Int.toNat Y;let c:=(∃(x:Nat),(x<=N/\List.all (List.take x D) fE=true)/\G=(↑x:Int)/\s=s/\O/\P/\Q/\R/\S/\R/\E=E/\List.replicate N G=q9 s x/\T)/\∀(x:Nat),let d:=(↑x:Int);let e:=List.getD D (Int.toNat d) U;let f:=(↑(List.length e):Int);let g:=q9 s x;let h:=lA e/\(G<=d/\d<X)/\Int.toNat d<List.length g/\inR IntKind.i64 (d+V)/\∃(y:Nat),(y<=N/\List.all (List.take y D) fE=true)/\N-y<N-x/\d+V=(↑y:Int)/\s=s/\O/\P/\Q/\R/\S/\R/\E=E/\List.set g (Int.toNat d) (eo e)=q9 s y/\T;x<=N/\List.all (List.take x D) fE=true->if decide (d<E)=true then(G<=d/\d<E)/\if(!ct e)=true then M else if decide ((6:Int)<f)=true then M else if decide (V<f)=true then(G<=G/\G<f)/\if decide ((↑(UInt8.toNat (List.getD e W (0:UInt8))):Int)=(48:Int))=true then M else h else h else(G<=G/\G<X)/\Int.toNat G<List.length g/\(G<=V/\V<X)/\Int.toNat V<List.length g/\(G<=Y/\Y<X)/\Int.toNat Y<List.length g/\if(!decide (bY {major:=List.getD g W Z,minor:=List.getD g a Z,patch:=List.getD g b Z,pre:=dj s:Vers}=G))=true then F/\I/\J/\K/\L/\bY {major:=List.getD g W Z,minor:=List.getD g a Z,patch:=List.getD g b Z,pre:=dj s:Vers}=H.2/\F else F/\List.getD g W Z=H.1.major/\List.getD g a Z=H.1.minor/\List.getD g b Z=H.1.patch/\dj s=H.1.pre/\G=H.2/\F;(([45]:Str)=([45]:Str)/\List.length s<A)/\(([46]:Str)=([46]:Str)/\List.length B<A)/\if(!decide (E=(3:Int)))=true then M else if eR s=true then if decide (dj s=[])=true then M else c else c:=by
 conv=>zeta
 have bad:cz s=(noV,40)->True/\(0:Int)=(cz s).1.major/\(0:Int)=(cz s).1.minor/\(0:Int)=(cz s).1.patch/\[]=(cz s).1.pre/\(40:Int)=(cz s).2/\True:=fun e=>by rw[e];exact Xr
 have hc:=wE s;refine⟨⟨(by first|rfl|trivial),by omega⟩,⟨(by first|rfl|trivial),by omega⟩,a6 (fun a=>?_) (fun a=>?_)⟩
 ·exact bad (rR (fun e=>by rw[e]at a;simp at a))
 have a:(splitB 46 (aU s)).length=3:=by simp only[P8,Pe,Decidable.not_not]at a;omega
 refine a6 (fun b=>a6 (fun c=>?_) (fun c=>?_)) (fun b=>?_)
 ·exact bad (rS b (Xo c))
 ·have he:=kD a (fun _ e=>c (Xd e));refine⟨⟨0,⟨by omega,rfl⟩,?_⟩,?_⟩
  ·exact Xr
  rintro k ⟨h1,h2⟩;have lr:(q9 s k).length=3:=rfl;simp only[OW,lr];apply a6<;>intro h
  ·have hk:k<(splitB 46 (aU s)).length:=by have:=Xo h;omega
   refine⟨⟨by omega,by omega⟩,?_⟩;have no:fE ((splitB 46 (aU s)).getD k (dfl .str))=false->cz s=(noV,40):=fun e=>by rw[he,qa (dfl .str) hk e,OP PB]
   have yes:fE ((splitB 46 (aU s)).getD k (dfl .str))=true->((splitB 46 (aU s)).take (k+1)).all fE=true:=iY (dfl .str) hk h2;have hset:=Au (s:=s) (k:=k) (by omega);refine a6 (fun a=>bad (no ?_)) (fun a=>a6 (fun b=>bad (no ?_)) (fun b=>a6 (fun c=>⟨⟨by omega,by have:=Xo c;omega⟩,a6 (fun d=>bad (no ?_)) (fun d=>?_)⟩) (fun c=>?_)))
   ·unfold fE;rw[P8]at a;rw[a,Ph,Ph]
   ·have:=Xo b;unfold fE;rw[Xf (p:=List.length ((splitB 46 (aU s)).getD k (dfl .str))<=6) (by omega),PM,Ph]
   ·have e:decide (bI (((splitB 46 (aU s)).getD k (dfl .str)).getD 0 0)=48)=true:=d;have c:=Xo c;unfold fE;rw[e,Xd (p:=1<List.length ((splitB 46 (aU s)).getD k (dfl .str))) (by omega)];simp
   ·have e:decide (bI (((splitB 46 (aU s)).getD k (dfl .str)).getD 0 0)=48)=false:=by rw[Pv]at d;exact d
    have b:¬(6:Int)<_:=fun x=>b (Xd x);have en:fE ((splitB 46 (aU s)).getD k (dfl .str))=true:=by unfold fE;rw[e];simp only[P8,Rs]at a;rw[a,Xd (p:=List.length ((splitB 46 (aU s)).getD k (dfl .str))<=6) (by omega)];simp
    have ed:ct ((splitB 46 (aU s)).getD k (dfl .str))=true/\((splitB 46 (aU s)).getD k (dfl .str)).length<=6:=by have e:=en;unfold fE at e;simp only[OU,OZ]at e;exact⟨e.1.1,e.1.2⟩
    refine⟨jf ed.1 (by omega),⟨by omega,by omega⟩,by omega,ak (by omega) (by omega),k+1,⟨by omega,yes en⟩,by omega,by omega,?_⟩
    repeat (first|exact trivial|refine⟨by first|rfl|(exact hset)|trivial,?_⟩)
   ·have b:¬(6:Int)<_:=fun x=>b (Xd x);have c:¬(1:Int)<_:=fun x=>c (Xd x);have en:fE ((splitB 46 (aU s)).getD k (dfl .str))=true:=by unfold fE;simp only[P8,Rs]at a;rw[a,Xd (p:=List.length ((splitB 46 (aU s)).getD k (dfl .str))<=6) (by omega),Xf (p:=1<List.length ((splitB 46 (aU s)).getD k (dfl .str))) (by omega)];simp
    have ed:ct ((splitB 46 (aU s)).getD k (dfl .str))=true/\((splitB 46 (aU s)).getD k (dfl .str)).length<=6:=by have e:=en;unfold fE at e;simp only[OU,OZ]at e;exact⟨e.1.1,e.1.2⟩
    refine⟨jf ed.1 (by omega),⟨by omega,by omega⟩,by omega,ak (by omega) (by omega),k+1,⟨by omega,yes en⟩,by omega,by omega,?_⟩
    repeat (first|exact trivial|refine⟨by first|rfl|(exact hset)|trivial,?_⟩)
  ·have hk:k=3:=by have:¬((k:Int)<((splitB 46 (aU s)).length:Int)):=fun e=>h (Xd e);omega
   subst hk;rw[tR (by omega)]at h2;rw[OQ h2]at he;have ev:(⟨List.getD (q9 s 3) (Int.toNat 0) (dfl (Ty.int IntKind.i64)),List.getD (q9 s 3) (Int.toNat 1) (dfl (Ty.int IntKind.i64)),List.getD (q9 s 3) (Int.toNat 2) (dfl (Ty.int IntKind.i64)),dj s⟩:Vers)=eD s:=rfl;refine⟨⟨by omega,by omega⟩,by decide,⟨by omega,by omega⟩,by decide,⟨by omega,by omega⟩,by decide,?_⟩;apply a6<;>intro a
   ·have a:¬bY (eD s)=0:=by rw[<-ev];simpa using a
    rw[OP a]at he;have a4:=(tT (eD s)).resolve_left a;rw[he,ev,a4]
    repeat (first|exact trivial|refine⟨by first|rfl|(exact hset)|trivial,?_⟩)
   ·have a:bY (eD s)=0:=by rw[<-ev];simpa using a
    rw[OQ a]at he;rw[he]
    repeat (first|exact trivial|refine⟨by first|rfl|(exact hset)|trivial,?_⟩)
 ·have he:=kD a (fun e=>absurd e b);refine⟨⟨0,⟨by omega,rfl⟩,?_⟩,?_⟩
  ·exact Xr
  rintro k ⟨h1,h2⟩;have lr:(q9 s k).length=3:=rfl;simp only[OW,lr];apply a6<;>intro h
  ·have hk:k<(splitB 46 (aU s)).length:=by have:=Xo h;omega
   refine⟨⟨by omega,by omega⟩,?_⟩;have no:fE ((splitB 46 (aU s)).getD k (dfl .str))=false->cz s=(noV,40):=fun e=>by rw[he,qa (dfl .str) hk e,OP PB]
   have yes:fE ((splitB 46 (aU s)).getD k (dfl .str))=true->((splitB 46 (aU s)).take (k+1)).all fE=true:=iY (dfl .str) hk h2;have hset:=Au (s:=s) (k:=k) (by omega);refine a6 (fun a=>bad (no ?_)) (fun a=>a6 (fun b=>bad (no ?_)) (fun b=>a6 (fun c=>⟨⟨by omega,by have:=Xo c;omega⟩,a6 (fun d=>bad (no ?_)) (fun d=>?_)⟩) (fun c=>?_)))
   ·unfold fE;rw[P8]at a;rw[a,Ph,Ph]
   ·have:=Xo b;unfold fE;rw[Xf (p:=List.length ((splitB 46 (aU s)).getD k (dfl .str))<=6) (by omega),PM,Ph]
   ·have e:decide (bI (((splitB 46 (aU s)).getD k (dfl .str)).getD 0 0)=48)=true:=d;have c:=Xo c;unfold fE;rw[e,Xd (p:=1<List.length ((splitB 46 (aU s)).getD k (dfl .str))) (by omega)];simp
   ·have e:decide (bI (((splitB 46 (aU s)).getD k (dfl .str)).getD 0 0)=48)=false:=by rw[Pv]at d;exact d
    have b:¬(6:Int)<_:=fun x=>b (Xd x);have en:fE ((splitB 46 (aU s)).getD k (dfl .str))=true:=by unfold fE;rw[e];simp only[P8,Rs]at a;rw[a,Xd (p:=List.length ((splitB 46 (aU s)).getD k (dfl .str))<=6) (by omega)];simp
    have ed:ct ((splitB 46 (aU s)).getD k (dfl .str))=true/\((splitB 46 (aU s)).getD k (dfl .str)).length<=6:=by have e:=en;unfold fE at e;simp only[OU,OZ]at e;exact⟨e.1.1,e.1.2⟩
    refine⟨jf ed.1 (by omega),⟨by omega,by omega⟩,by omega,ak (by omega) (by omega),k+1,⟨by omega,yes en⟩,by omega,by omega,?_⟩
    repeat (first|exact trivial|refine⟨by first|rfl|(exact hset)|trivial,?_⟩)
   ·have b:¬(6:Int)<_:=fun x=>b (Xd x);have c:¬(1:Int)<_:=fun x=>c (Xd x);have en:fE ((splitB 46 (aU s)).getD k (dfl .str))=true:=by unfold fE;simp only[P8,Rs]at a;rw[a,Xd (p:=List.length ((splitB 46 (aU s)).getD k (dfl .str))<=6) (by omega),Xf (p:=1<List.length ((splitB 46 (aU s)).getD k (dfl .str))) (by omega)];simp
    have ed:ct ((splitB 46 (aU s)).getD k (dfl .str))=true/\((splitB 46 (aU s)).getD k (dfl .str)).length<=6:=by have e:=en;unfold fE at e;simp only[OU,OZ]at e;exact⟨e.1.1,e.1.2⟩
    refine⟨jf ed.1 (by omega),⟨by omega,by omega⟩,by omega,ak (by omega) (by omega),k+1,⟨by omega,yes en⟩,by omega,by omega,?_⟩
    repeat (first|exact trivial|refine⟨by first|rfl|(exact hset)|trivial,?_⟩)
  ·have hk:k=3:=by have:¬((k:Int)<((splitB 46 (aU s)).length:Int)):=fun e=>h (Xd e);omega
   subst hk;rw[tR (by omega)]at h2;rw[OQ h2]at he;have ev:(⟨List.getD (q9 s 3) (Int.toNat 0) (dfl (Ty.int IntKind.i64)),List.getD (q9 s 3) (Int.toNat 1) (dfl (Ty.int IntKind.i64)),List.getD (q9 s 3) (Int.toNat 2) (dfl (Ty.int IntKind.i64)),dj s⟩:Vers)=eD s:=rfl;refine⟨⟨by omega,by omega⟩,by decide,⟨by omega,by omega⟩,by decide,⟨by omega,by omega⟩,by decide,?_⟩;apply a6<;>intro a
   ·have a:¬bY (eD s)=0:=by rw[<-ev];simpa using a
    rw[OP a]at he;have a4:=(tT (eD s)).resolve_left a;rw[he,ev,a4]
    repeat (first|exact trivial|refine⟨by first|rfl|(exact hset)|trivial,?_⟩)
   ·have a:bY (eD s)=0:=by rw[<-ev];simpa using a
    rw[OQ a]at he;rw[he]
    repeat (first|exact trivial|refine⟨by first|rfl|(exact hset)|trivial,?_⟩)
theorem KE(s:Str)(c:SC)(n:Nat)(e a:Int)(ho:n=c.out.length) :
  let A:=gf e a c;True/\false=false/\s=s/\c.pos=A.2.pos/\c.out=A.2.out/\e=A.2.err/\a=A.2.fat/\n=List.length A.2.out/\True:=by
 conv=>zeta
 exact⟨trivial,rfl,rfl,rfl,rfl,rfl,rfl,ho,trivial⟩
theorem Hl(s:Str)(c:SC)(n:Nat)(a b:Int)(ho:n=c.out.length/\s.length<=4096/\0<=a/\a<=b/\b<=(s.length:Int)) :
  let A:=List.drop (Int.toNat a) (List.take (Int.toNat b) s);let B:=yl A;let C:=jn s a b c;let D:=gf B.err (a+B.pos) c;((0:Int)<=a/\a<=b/\b<=(↑(List.length s):Int))/\List.length A<=(4096:Nat)/\if(!decide (B.err=(0:Int)))=true then inR IntKind.i64 (a+B.pos)/\n=List.length c.out/\True/\false=C.1/\s=s/\D.2.pos=C.2.pos/\D.2.out=C.2.out/\D.2.err=C.2.err/\D.2.fat=C.2.fat/\List.length D.2.out=List.length C.2.out/\True else True/\true=C.1/\s=s/\c.pos=C.2.pos/\c.out=C.2.out/\c.err=C.2.err/\c.fat=C.2.fat/\n=List.length C.2.out/\True:=by
 conv=>zeta
 obtain⟨h1,h2,h3,h4,h5⟩:=ho;have hl:=sB h3 h4 h5;have hc:List.drop (Int.toNat a) (List.take (Int.toNat b) s)=cut s a b:=rfl;simp only[hc];refine⟨⟨h3,h4,h5⟩,by omega,?_⟩;unfold jn
 cases hb:dv (cut s a b)with
 |none=>
  rw[GL hb];refine⟨trivial,rfl,?_⟩
  repeat (first|exact trivial|exact⟨h1,trivial⟩|refine⟨by first|rfl|trivial,?_⟩)
 |some k=>rw[GM hb];have:=GN hb;refine⟨ak (by show _<=a+(k:Int);omega) (by show a+(k:Int)<=_;omega),h1,trivial,?_⟩;exact Xr
theorem MO(s:Str)(c:SC)(n:Nat)(k:Int)(t:Str)(fr:Int)(ho:n=c.out.length/\(n+1) *32<=140737488355328) :
  let A:=[{kind:=k,text:=t,pos:=fr:Tokn}];let B:=je k t fr c;(List.length c.out=n/\(List.length c.out+List.length A)*(32:Nat)<=(140737488355328:Nat))/\True/\true=true/\fr=fr/\s=s/\c.pos=B.2.pos/\c.out++A=B.2.out/\c.err=B.2.err/\c.fat=B.2.fat/\List.length (c.out++A)=n+(1:Nat)/\True:=by
 conv=>zeta
 obtain⟨h1,h2⟩:=ho;refine⟨⟨h1.symm,by simp only[OS];omega⟩,trivial,by trivial,by trivial,by trivial,rfl,rfl,rfl,rfl,?_,trivial⟩;rw[OT,OS,h1]
theorem Dw(s:Str)(c:SC)(n:Nat)(ho:n=c.out.length/\n<=4096/\s.length<=4096/\0<=c.pos/\c.pos<=(s.length:Int)/\c.pos<(s.length:Int)) :
  let A:=(1:Int);let B:=(0:Int);let C:=(↑(List.length s):Int);let D:=c.pos=c.pos;let E:=s=s;let F:=True;let G:=List.length s<=(4096:Nat);let H:=(2:Int);let I:=dm s c;let J:=[]=I.1;let K:=false=I.2.1;let L:=(60:Int);let M:=([110,116,34,92]:Str);let N:=([10,9,34,92]:Str);let O:=(0:UInt8);let P:=(140737488355328:Nat);inR IntKind.i64 (c.pos+A)/\(∃(x:Nat×Str×SC),(x.2.2.out=c.out/\x.2.2.err=c.err/\x.2.2.fat=c.fat/\B<=x.2.2.pos/\x.2.2.pos<=C/\(↑(List.length x.2.1):Int)<=x.2.2.pos/\C<x.2.2.pos+(↑x.1:Int)/\dm s c=cW s c.pos x.1 x.2.1 x.2.2)/\aT x.2.1=[]/\D/\E/\c.pos+A=x.2.2.pos/\c.out=x.2.2.out/\c.err=x.2.2.err/\c.fat=x.2.2.fat/\List.length (aT x.2.1)=(0:Nat)/\n=n/\F)/\∀(x:Nat×Str×SC),let Q:=B<=x.2.2.pos;let R:=x.2.2.pos<=C;let S:=x.2.2.pos+B;let T:=n=List.length x.2.2.out;let U:=gf L c.pos x.2.2;let V:=T/\F/\J/\K/\E/\U.2.pos=I.2.2.pos/\U.2.out=I.2.2.out/\U.2.err=I.2.2.err/\U.2.fat=I.2.2.fat/\List.length U.2.out=List.length I.2.2.out/\F;let W:=x.2.2.pos+A;let X:=aT x.2.1;let Y:=bAt s W;let Z:=List.length X=List.length X;let a:=[(↑(UInt8.toNat (List.getD N (Int.toNat (qT M Y)) O)):Int)];let b:=(↑(aj b6 s x.2.2.pos):Int);let d:=x.2.2.pos+b;let e:=cut s x.2.2.pos d;let f:=(↑(List.length e):Int);let g:=x.2.2.pos+b-f;let h:=(jn s g d {pos:=x.2.2.pos+b,out:=x.2.2.out,err:=x.2.2.err,fat:=x.2.2.fat:SC});x.2.2.out=c.out/\x.2.2.err=c.err/\x.2.2.fat=c.fat/\Q/\R/\(↑(List.length x.2.1):Int)<=x.2.2.pos/\C<x.2.2.pos+(↑x.1:Int)/\dm s c=cW s c.pos x.1 x.2.1 x.2.2->(G/\Q/\R/\B<=B/\B<=H)/\if decide (bAt s S<(32:Int))=true then V else if decide (bAt s S=(34:Int))=true then inR IntKind.i64 W/\F/\List.map (fun(n:Int)=>UInt8.ofNat (Int.toNat n)) X=I.1/\true=I.2.1/\E/\x.2.2.pos+A=I.2.2.pos/\x.2.2.out=I.2.2.out/\x.2.2.err=I.2.2.err/\x.2.2.fat=I.2.2.fat/\n=List.length I.2.2.out/\F else if decide (bAt s S=(92:Int))=true then(G/\Q/\R/\B<=A/\A<=H)/\if decide (qT M Y<B)=true then V else(B<=qT M Y/\qT M Y<(↑(List.length N):Int))/\(Z/\(List.length X+List.length a)*(1:Nat)<=P)/\inR IntKind.i64 (x.2.2.pos+H)/\∃(y:Nat×Str×SC),(y.2.2.out=c.out/\y.2.2.err=c.err/\y.2.2.fat=c.fat/\B<=y.2.2.pos/\y.2.2.pos<=C/\(↑(List.length y.2.1):Int)<=y.2.2.pos/\C<y.2.2.pos+(↑y.1:Int)/\dm s c=cW s c.pos y.1 y.2.1 y.2.2)/\y.1<x.1/\aT x.2.1++a=aT y.2.1/\D/\E/\x.2.2.pos+H=y.2.2.pos/\x.2.2.out=y.2.2.out/\x.2.2.err=y.2.2.err/\x.2.2.fat=y.2.2.fat/\List.length (aT x.2.1++a)=List.length (aT y.2.1)/\n=n/\F else(G/\Q/\R)/\inR IntKind.i64 g/\(T/\G/\B<=x.2.2.pos+b-f/\x.2.2.pos+b-f<=x.2.2.pos+b/\x.2.2.pos+b<=C)/\if(!h.1)=true then F/\J/\K/\E/\h.2.pos=I.2.2.pos/\h.2.out=I.2.2.out/\h.2.err=I.2.2.err/\h.2.fat=I.2.2.fat/\List.length h.2.out=List.length I.2.2.out/\F else(Z/\(List.length X+List.length e)*(1:Nat)<=P)/\∃(y:Nat×Str×SC),(y.2.2.out=c.out/\y.2.2.err=c.err/\y.2.2.fat=c.fat/\B<=y.2.2.pos/\y.2.2.pos<=C/\(↑(List.length y.2.1):Int)<=y.2.2.pos/\C<y.2.2.pos+(↑y.1:Int)/\dm s c=cW s c.pos y.1 y.2.1 y.2.2)/\y.1<x.1/\aT x.2.1++aT e=aT y.2.1/\D/\E/\h.2.pos=y.2.2.pos/\h.2.out=y.2.2.out/\h.2.err=y.2.2.err/\h.2.fat=y.2.2.fat/\List.length (aT x.2.1++aT e)=List.length (aT y.2.1)/\List.length h.2.out=n/\F:=by
 conv=>zeta
 obtain⟨ho1,ho2,ho3,ho4,ho5,ho6⟩:=ho;refine⟨ak (by omega) (by omega),⟨(s.length+2,[],cG c (c.pos+1)),⟨rfl,rfl,rfl,by show 0<=c.pos+1;omega,by show c.pos+1<=_;omega,by show((0:Nat):Int)<=c.pos+1;omega,by show _<c.pos+1+((s.length+2:Nat):Int);omega,rfl⟩,?_⟩,?_⟩
 ·exact Xr
 rintro⟨f,acc,d⟩ ⟨d1,d2,d3,d4,d5,d6,d7,d8⟩;simp only at d1 d2 d3 d4 d5 d6 d7 d8;obtain⟨f,rfl⟩:∃g,f=g+1:=⟨f-1,by omega⟩;rw[cW]at d8;have e0:d.pos+0=d.pos:=Int.add_zero _;have hn:n=d.out.length:=by rw[d1];exact ho1
 simp only[e0];refine⟨⟨by omega,by omega,by omega,by omega,by omega⟩,a6 (fun h=>?_) (fun h=>?_)⟩
 ·replace h:=Xo h;rw[OQ h]at d8;rw[d8];refine⟨hn,trivial,?_⟩;exact Xr
 replace h:¬bAt s d.pos<32:=fun e=>h (Xd e);rw[OP h]at d8;apply a6<;>intro k
 ·replace k:=Xo k;rw[OQ k]at d8;rw[d8];refine⟨ak (by omega) (by omega),trivial,pc acc,by trivial,by trivial,rfl,rfl,rfl,rfl,hn,trivial⟩
 replace k:¬bAt s d.pos=34:=fun e=>k (Xd e);rw[OP k]at d8;apply a6<;>intro j
 ·replace j:=Xo j;rw[OQ j]at d8;refine⟨⟨by omega,by omega,by omega,by omega,by omega⟩,?_⟩
  cases he:jt (bAt s (d.pos+1))with
  |none=>have hi:=JW he;rw[he]at d8;simp only at d8;refine a6 (fun _=>?_) (fun e=>absurd (Xd hi) e);rw[d8];refine⟨hn,trivial,?_⟩;exact Xr
  |some x=>obtain⟨i1,i2,i3⟩:=JX he;have hp:=qU he;rw[he]at d8;simp only at d8;refine a6 (fun e=>absurd (Xo e) (by omega)) (fun _=>?_);simp only[i3];refine⟨⟨i1,i2⟩,⟨by trivial,by have:(aT acc).length=acc.length:=Qg _;rw[this];simp only[OS];omega⟩,ak (by omega) (by omega),(f,acc++[UInt8.ofNat x.toNat],cG d (d.pos+2)),⟨d1,d2,d3,by show 0<=d.pos+2;omega,by show d.pos+2<=_;omega,by show((acc++[_]).length:Int)<=d.pos+2;rw[OT,OS];omega,by show _<d.pos+2+(f:Int);omega,d8⟩,by show f<f+1;omega,by show _=aT (acc++[UInt8.ofNat x.toNat]);rw[fo];rfl,by trivial,by trivial,rfl,rfl,rfl,rfl,by rw[fo];rfl,by trivial,trivial⟩
 replace j:¬bAt s d.pos=92:=fun e=>j (Xd e);rw[OP j]at d8;obtain⟨p1,p2⟩:=qV h k j;have p2:=p2 d4;have p3:=dX (pr:=b6) d4 (RJ p1);have hcl:=sB (s:=s) d4 (b:=d.pos+(aj b6 s d.pos:Int)) (by omega) p3;have e1:d.pos+(aj b6 s d.pos:Int)-((cut s d.pos (d.pos+(aj b6 s d.pos:Int))).length:Int)=d.pos:=by omega
 simp only[e1];refine⟨⟨by omega,by omega,by omega⟩,ak (by omega) (by omega),⟨hn,by omega,by omega,by omega,by omega⟩,?_⟩;unfold jn
 cases hb:dv (cut s d.pos (d.pos+(aj b6 s d.pos:Int)))with
 |some q=>rw[hb]at d8;simp only at d8;rw[d8];refine a6 (fun _=>?_) (fun e=>absurd rfl e);refine⟨trivial,?_⟩;exact Xr
 |none=>
  rw[hb]at d8;simp only at d8;refine a6 (fun e=>Bool.noConfusion e) (fun _=>?_);have hbl:∀x:Str,(aT x).length=x.length:=fun _=>Qg _;refine⟨⟨by trivial,by rw[hbl];omega⟩,(f,acc++cut s d.pos (d.pos+(aj b6 s d.pos:Int)),cG d (d.pos+(aj b6 s d.pos:Int))),⟨d1,d2,d3,by show 0<=d.pos+_;omega,p3,by show((acc++cut s _ _).length:Int)<=d.pos+_;rw[OT];omega,by show _<d.pos+_+(f:Int);omega,d8⟩,by show f<f+1;omega,(fo _ _).symm,by trivial,by trivial,rfl,rfl,rfl,rfl,by rw[fo],?_⟩
  first|exact⟨hn,trivial⟩|exact⟨hn.symm,trivial⟩
theorem MP(s:Str)  :
  let A:=True;let B:=A/\true=ig s/\A;if decide (s=([60,61]:Str))=true then B else if decide (s=([62,61]:Str))=true then B else if decide (s=([45,62]:Str))=true then B else if decide ((↑(List.length s):Int)=(1:Int))=true then List.length s=(1:Nat)/\A/\decide (List.getD s (0:Nat) (0:UInt8)∈([40,41,123,125,91,93,60,62,61,94,42,44,58,46,47,64,124]:Str))=ig s/\A else A/\false=ig s/\A:=by
 conv=>zeta
 unfold ig;apply a6<;>intro h
 ·rw[h];exact Xr
 rw[Pv]at h;apply a6<;>intro k
 ·rw[k,h];exact Xr
 rw[Pv]at k;apply a6<;>intro j
 ·rw[k,h,j];exact Xr
 rw[Pv]at j;rw[h,k,j];simp only[Bool.false_or];apply a6<;>intro i
 ·have i:=Xo i;have e:s.length=1:=by omega
  rw[Xd e,Pg];exact⟨e,trivial,rfl,trivial⟩
 ·have i:¬(s.length:Int)=1:=fun e=>i (Xd e);rw[Xf (p:=s.length=1) (by omega),Ph];exact Xr
theorem Hm(s:Str)(c:SC)(n:Nat)(ho:n=c.out.length/\n<=4096/\s.length<=4096/\0<=c.pos/\c.pos<=(s.length:Int)/\c.pos<(s.length:Int)) :
  let A:=(4096:Nat);let B:=List.length s<=A;let C:=(0:Int);let D:=C<=c.pos;let E:=(↑(List.length s):Int);let F:=c.pos<=E;let G:=(2:Int);let H:=Ty.st SN.token;let I:=(AV.agg [AV.str s,AV.int IntKind.i64 c.pos,AV.lst H c.out (some (901:Nat)),AV.int IntKind.i64 c.err,AV.int IntKind.i64 c.fat]);let J:=True;let K:=c.pos+C;let L:=bAt s K;let M:=B/\D/\F;let N:=(↑(aj bT s c.pos):Int);let O:=cut s c.pos (c.pos+N);let P:=n=List.length c.out;let Q:=(1:Nat);let R:=(140737488355328:Nat);let S:=(P/\(n+Q)*(32:Nat)<=R);let T:=bg s c;let U:=true=T.1;let V:=s=s;let W:=(je (5:Int) O c.pos {pos:=c.pos+N,out:=c.out,err:=c.err,fat:=c.fat:SC});let X:=n+Q=List.length T.2.out/\J;let Y:=(1:Int);let Z:=(je Y O c.pos {pos:=c.pos+N,out:=c.out,err:=c.err,fat:=c.fat:SC});let a:=(je G O c.pos {pos:=c.pos+N,out:=c.out,err:=c.err,fat:=c.fat:SC});let b:=false=T.1;let d:=(60:Int);let e:=(gf d c.pos {pos:=c.pos+N,out:=c.out,err:=c.err,fat:=c.fat:SC});let f:=M/\if kz O=true then S/\J/\U/\V/\W.2.pos=T.2.pos/\W.2.out=T.2.out/\W.2.err=T.2.err/\W.2.fat=T.2.fat/\X else if aX O=true then S/\J/\U/\V/\Z.2.pos=T.2.pos/\Z.2.out=T.2.out/\Z.2.err=T.2.err/\Z.2.fat=T.2.fat/\X else if dI O=true then S/\J/\U/\V/\a.2.pos=T.2.pos/\a.2.out=T.2.out/\a.2.err=T.2.err/\a.2.fat=T.2.fat/\X else P/\J/\b/\V/\e.2.pos=T.2.pos/\e.2.out=T.2.out/\e.2.err=T.2.err/\e.2.fat=T.2.fat/\List.length e.2.out=List.length T.2.out/\J;let g:=(↑(aj aW s c.pos):Int);let h:=cut s c.pos (c.pos+g);let i:=(↑(List.length h):Int);let j:=(je (3:Int) h c.pos {pos:=c.pos+g,out:=c.out,err:=c.err,fat:=c.fat:SC});let k:=S/\J/\U/\V/\j.2.pos=T.2.pos/\j.2.out=T.2.out/\j.2.err=T.2.err/\j.2.fat=T.2.fat/\X;let l:=(je (7:Int) h c.pos {pos:=c.pos+g,out:=c.out,err:=c.err,fat:=c.fat:SC});let m:=(gf d c.pos {pos:=c.pos+g,out:=c.out,err:=c.err,fat:=c.fat:SC});let o:=List.length h<=A/\if decide ((cz h).2=C)=true then S/\J/\U/\V/\l.2.pos=T.2.pos/\l.2.out=T.2.out/\l.2.err=T.2.err/\l.2.fat=T.2.fat/\X else P/\J/\b/\V/\m.2.pos=T.2.pos/\m.2.out=T.2.out/\m.2.err=T.2.err/\m.2.fat=T.2.fat/\List.length m.2.out=List.length T.2.out/\J;let p:=dm s c;let q:=(je (4:Int) p.1 c.pos p.2.2);let r:=(2:Nat);let t:=ij s c.pos G=false;let u:=(0:Nat);let v:=ij s c.pos Y=false;let w:=false=false;let z:=bAt s K=bAt s K/\w/\w/\w/\V/\c.pos=c.pos/\c.out=c.out/\c.err=c.err/\c.fat=c.fat/\n=n/\c.pos=c.pos/\J;let A0:=Int.toNat c.pos;let A1:=(6:Int);let A2:=gf d c.pos c;((B/\D/\F/\C<=C/\C<=G)/\SObj.box I=SObj.box I/\SObj.tail H n=SObj.tail H n/\J)/\if bU L=true then f else if bX L=true then f else if b8 L=true then M/\([48,49,50,51,52,53,54,55,56,57]:Str)=sa/\if decide ((↑(List.length (oN h)):Int)=C)=true then if decide (i<=(15:Int))=true then if decide (cut s c.pos (c.pos+g)=([48]:Str))=true then k else(C<=C/\C<i)/\if(!decide ((↑(UInt8.toNat (List.getD h (Int.toNat C) (0:UInt8))):Int)=(48:Int)))=true then k else o else o else o else if decide (bAt s K=(34:Int))=true then(P/\n<=A/\B/\D/\F/\c.pos<E)/\if p.2.1=true then(List.length p.2.2.out=List.length p.2.2.out/\(List.length p.2.2.out+Q)*(32:Nat)<=R)/\J/\U/\V/\q.2.pos=T.2.pos/\q.2.out=T.2.out/\q.2.err=T.2.err/\q.2.fat=T.2.fat/\List.length p.2.2.out+Q=List.length T.2.out/\J else J/\b/\V/\p.2.2.pos=T.2.pos/\p.2.2.out=T.2.out/\p.2.2.err=T.2.err/\p.2.2.fat=T.2.fat/\List.length p.2.2.out=List.length T.2.out/\J else(∃(x:Nat),(x<=r/\(x<=Q->t)/\(x=u->v))/\G=(↑x:Int)/\z)/\∀(x:Nat),let A3:=(↑x:Int);let A4:=inR IntKind.i64 (c.pos+A3);let A5:=c.pos+A3<=E;let A6:=D/\c.pos<=c.pos+A3/\A5;let A7:=List.drop A0 (List.take (Int.toNat (c.pos+A3)) s);let A8:=(je A1 A7 c.pos {pos:=c.pos+A3,out:=c.out,err:=c.err,fat:=c.fat:SC});let A9:=inR IntKind.i64 (A3-Y)/\∃(y:Nat),(y<=r/\(y<=Q->t)/\(y=u->v))/\y<x/\A3-Y=(↑y:Int)/\z;x<=r/\(x<=Q->t)/\(x=u->v)->if decide (C<A3)=true then A4/\if decide (A5)=true then A4/\A6/\if ig A7=true then A4/\A6/\S/\J/\U/\V/\A8.2.pos=T.2.pos/\A8.2.out=T.2.out/\A8.2.err=T.2.err/\A8.2.fat=T.2.fat/\X else A9 else A9 else P/\J/\b/\V/\A2.2.pos=T.2.pos/\A2.2.out=T.2.out/\A2.2.err=T.2.err/\A2.2.fat=T.2.fat/\List.length A2.2.out=List.length T.2.out/\J:=by
 conv=>zeta
 obtain⟨ho1,ho2,ho3,ho4,ho5,ho6⟩:=ho;have e0:c.pos+0=c.pos:=Int.add_zero _;have hout:∀(k:Int)(t:Str)(e:Int),n+1=(je k t c.pos (cG c e)).2.out.length:=fun k t e=>by show n+1=(c.out++[_]).length;rw[OT,OS,ho1]
 have hwr:=dX (pr:=bT) ho4 ho5;have hwl:=dX (pr:=aW) ho4 ho5;simp only[e0];refine⟨⟨⟨by omega,by omega,by omega,by omega,by omega⟩,(by first|rfl|trivial),(by first|rfl|trivial),trivial⟩,a6 (fun a=>?_) (fun a=>?_)⟩
 ·have hw:bg s c=yi (cut s c.pos (c.pos+(aj bT s c.pos:Int))) (c.pos+(aj bT s c.pos:Int)) c:=by unfold bg;rw[OQ (.inl a)]
  unfold yi at hw;refine⟨⟨by omega,by omega,by omega⟩,a6 (fun h=>?_) (fun h=>?_)⟩
  ·rw[OQ h]at hw;rw[hw];refine⟨⟨ho1,by omega⟩,trivial,?_⟩
   repeat (first|exact trivial|exact⟨hout _ _ _,trivial⟩|refine⟨by first|rfl|trivial,?_⟩)
  rw[OP h]at hw;apply a6<;>intro i
  ·rw[OQ i]at hw;rw[hw];refine⟨⟨ho1,by omega⟩,trivial,?_⟩
   repeat (first|exact trivial|exact⟨hout _ _ _,trivial⟩|refine⟨by first|rfl|trivial,?_⟩)
  rw[OP i]at hw;apply a6<;>intro j
  ·rw[OQ j]at hw;rw[hw];refine⟨⟨ho1,by omega⟩,trivial,?_⟩
   repeat (first|exact trivial|exact⟨hout _ _ _,trivial⟩|refine⟨by first|rfl|trivial,?_⟩)
  rw[OP j]at hw;rw[hw];refine⟨ho1,trivial,?_⟩;exact Xr
 apply a6<;>intro b
 ·have hw:bg s c=yi (cut s c.pos (c.pos+(aj bT s c.pos:Int))) (c.pos+(aj bT s c.pos:Int)) c:=by unfold bg;rw[OQ (.inr b)]
  unfold yi at hw;refine⟨⟨by omega,by omega,by omega⟩,a6 (fun h=>?_) (fun h=>?_)⟩
  ·rw[OQ h]at hw;rw[hw];refine⟨⟨ho1,by omega⟩,trivial,?_⟩
   repeat (first|exact trivial|exact⟨hout _ _ _,trivial⟩|refine⟨by first|rfl|trivial,?_⟩)
  rw[OP h]at hw;apply a6<;>intro i
  ·rw[OQ i]at hw;rw[hw];refine⟨⟨ho1,by omega⟩,trivial,?_⟩
   repeat (first|exact trivial|exact⟨hout _ _ _,trivial⟩|refine⟨by first|rfl|trivial,?_⟩)
  rw[OP i]at hw;apply a6<;>intro j
  ·rw[OQ j]at hw;rw[hw];refine⟨⟨ho1,by omega⟩,trivial,?_⟩
   repeat (first|exact trivial|exact⟨hout _ _ _,trivial⟩|refine⟨by first|rfl|trivial,?_⟩)
  rw[OP j]at hw;rw[hw];refine⟨ho1,trivial,?_⟩;exact Xr
 have hn1:¬(bU (bAt s c.pos)=true∨bX (bAt s c.pos)=true):=fun e=>e.elim a b;apply a6<;>intro d
 ·have hw:bg s c=Db (cut s c.pos (c.pos+(aj aW s c.pos:Int))) (c.pos+(aj aW s c.pos:Int)) c:=by unfold bg;rw[OP hn1,OQ d]
  unfold Db at hw;have hcl:=sB (s:=s) ho4 (b:=c.pos+(aj aW s c.pos:Int)) (by omega) hwl;have hne:=cU (pr:=aW) ho4 ho6 (by rw[nv ho6]at d;unfold aW;rw[d,Q3];rfl);have htr:=wD (cut s c.pos (c.pos+(aj aW s c.pos:Int)));have hall:∀x:Str,(x.all fun c=>b8 (bI c))=x.all eX:=fun _=>rfl;have hnt:gA (cut s c.pos (c.pos+(aj aW s c.pos:Int)))=((cut s c.pos (c.pos+(aj aW s c.pos:Int))).all eX&&decide ((cut s c.pos (c.pos+(aj aW s c.pos:Int))).length<=15)&&(decide (cut s c.pos (c.pos+(aj aW s c.pos:Int))=[48])||!decide (bI ((cut s c.pos (c.pos+(aj aW s c.pos:Int))).getD 0 0)=48))):=rfl;refine⟨⟨by omega,by omega,by omega⟩,(by first | rfl | trivial),?_⟩;have eb:∀b:UInt8,(b.toNat:Int)=bI b:=fun _=>rfl;simp only[eb,Ql];generalize cut s c.pos (c.pos+(aj aW s c.pos:Int))=t at hw hcl htr hnt⊢;apply a6<;>intro f
  ·have f1:t.all eX=true:=htr.1 (P6 (by have:=Xo f;omega));apply a6<;>intro g
   ·have g1:=Xo g;apply a6<;>intro i
    ·have hnum:gA t=true:=by rw[hnt,f1,Xd (p:=t.length<=15) (by omega),i];rfl
     rw[hnum,OQ rfl]at hw;rw[hw];refine⟨⟨ho1,by omega⟩,trivial,?_⟩
     repeat (first|exact trivial|exact⟨hout _ _ _,trivial⟩|refine⟨by first|rfl|trivial,?_⟩)
    ·rw[Pv]at i;refine⟨⟨by omega,by omega⟩,a6 (fun j=>?_) (fun j=>?_)⟩
     ·have hnum:gA t=true:=by rw[hnt,f1,Xd (p:=t.length<=15) (by omega),j,Q3];rfl
      rw[hnum,OQ rfl]at hw;rw[hw];refine⟨⟨ho1,by omega⟩,trivial,?_⟩
      repeat (first|exact trivial|exact⟨hout _ _ _,trivial⟩|refine⟨by first|rfl|trivial,?_⟩)
     ·rw[Pv]at j;have hnum:gA t=false:=by rw[hnt,i,j,Rw,PM]
      rw[hnum,OP PB]at hw;refine⟨by omega,a6 (fun z=>?_) (fun z=>?_)⟩
      ·rw[OQ (Xo z)]at hw;rw[hw];refine⟨⟨ho1,by omega⟩,trivial,?_⟩
       repeat (first|exact trivial|exact⟨hout _ _ _,trivial⟩|refine⟨by first|rfl|trivial,?_⟩)
      ·rw[OP (fun e=>z (Xd e))]at hw;rw[hw];refine⟨ho1,trivial,?_⟩;exact Xr
   ·have g1:¬(t.length:Int)<=15:=fun e=>g (Xd e);have hnum:gA t=false:=by rw[hnt,Xf (p:=t.length<=15) (by omega),PM,Ph]
    rw[hnum,OP PB]at hw;refine⟨by omega,a6 (fun z=>?_) (fun z=>?_)⟩
    ·rw[OQ (Xo z)]at hw;rw[hw];refine⟨⟨ho1,by omega⟩,trivial,?_⟩
     repeat (first|exact trivial|exact⟨hout _ _ _,trivial⟩|refine⟨by first|rfl|trivial,?_⟩)
    ·rw[OP (fun e=>z (Xd e))]at hw;rw[hw];refine⟨ho1,trivial,?_⟩;exact Xr
  ·have f1:t.all eX=false:=by rw[Ps];intro e;refine f (Xd ?_);rw[htr.2 e];rfl
   have hnum:gA t=false:=by rw[hnt,f1,Ph,Ph]
   rw[hnum,OP PB]at hw;refine⟨by omega,a6 (fun z=>?_) (fun z=>?_)⟩
   ·rw[OQ (Xo z)]at hw;rw[hw];refine⟨⟨ho1,by omega⟩,trivial,?_⟩
    repeat (first|exact trivial|exact⟨hout _ _ _,trivial⟩|refine⟨by first|rfl|trivial,?_⟩)
   ·rw[OP (fun e=>z (Xd e))]at hw;rw[hw];refine⟨ho1,trivial,?_⟩;exact Xr
 apply a6<;>intro q
 ·have q:=Xo q;have hw:bg s c=Dc c.pos (dm s c):=by unfold bg;rw[OP hn1,OP d,OQ q]
  obtain⟨q1,q2,q3⟩:=gw s c.pos (s.length+2) [] (cG c (c.pos+1)) (by show 0<=c.pos+1;omega) (by show c.pos+1<=_;omega);have q1':(dm s c).2.2.out=c.out:=q1;unfold Dc at hw;refine⟨⟨ho1,ho2,ho3,ho4,ho5,ho6⟩,a6 (fun r=>?_) (fun r=>?_)⟩
  ·rw[OQ r]at hw;rw[hw];refine⟨⟨by trivial,by rw[q1'];omega⟩,trivial,?_⟩
   repeat (first|exact trivial|refine⟨by first|rfl|trivial|(show _=(_++[_]).length;rw[OT,OS]),?_⟩)
  ·rw[OP r]at hw;rw[hw];refine⟨trivial,?_⟩;exact Xr
 have q:¬bAt s c.pos=34:=fun e=>q (Xd e);have hw:bg s c=Ap s c:=by unfold bg;rw[OP hn1,OP d,OP q]
 refine⟨⟨2,⟨by omega,fun e=>by omega,fun e=>by omega⟩,?_⟩,?_⟩
 ·exact Xr
 rintro k ⟨h1,h2,h3⟩;have hcut:∀k:Int,List.drop (Int.toNat c.pos) (List.take (Int.toNat (c.pos+k)) s)=cut s c.pos (c.pos+k):=fun _=>rfl;simp only[hcut];apply a6<;>intro f
 ·have f:=Xo f;have hk:k=2∨k=1:=by omega
  have hsa:ij s c.pos (k:Int)=(decide (c.pos+(k:Int)<=(s.length:Int))&&ig (cut s c.pos (c.pos+(k:Int)))):=rfl;refine⟨ak (by omega) (by omega),a6 (fun g=>?_) (fun g=>?_)⟩
  ·have g1:=Xo g;refine⟨ak (by omega) (by omega),⟨by omega,by omega,by omega⟩,a6 (fun i=>?_) (fun i=>?_)⟩
   ·rw[g,i]at hsa
    have hw:bg s c=je 6 (cut s c.pos (c.pos+(k:Int))) c.pos (cG c (c.pos+(k:Int))):=by
     rw[hw];unfold Ap;rcases hk with rfl|rfl
     ·rw[OQ (show ij s c.pos 2=true from hsa)];rfl
     ·rw[OP (by rw[h2 (by omega)];exact PB),OQ (show ij s c.pos 1=true from hsa)];rfl
    rw[hw];refine⟨ak (by omega) (by omega),⟨by omega,by omega,by omega⟩,⟨ho1,by omega⟩,trivial,?_⟩
    repeat (first|exact trivial|exact⟨hout _ _ _,trivial⟩|refine⟨by first|rfl|trivial,?_⟩)
   ·rw[Pv]at i;have hmiss:ij s c.pos (k:Int)=false:=by rw[hsa,i,PM]
    have hmiss:=hmiss
    ·refine⟨ak (by omega) (by omega),k-1,⟨by omega,fun _=>?_,fun _=>?_⟩,by omega,by omega,?_⟩
     ·rcases hk with rfl|rfl
      ·exact hmiss
      ·exact h2 (by omega)
     ·have:k=1:=by omega
      subst this;exact hmiss
     ·exact Xr
  ·have hmiss:ij s c.pos (k:Int)=false:=by rw[hsa,Xf (fun e=>g (Xd e)),Ph]
   have hmiss:=hmiss
   ·refine⟨ak (by omega) (by omega),k-1,⟨by omega,fun _=>?_,fun _=>?_⟩,by omega,by omega,?_⟩
    ·rcases hk with rfl|rfl
     ·exact hmiss
     ·exact h2 (by omega)
    ·have:k=1:=by omega
     subst this;exact hmiss
    ·exact Xr
 ·have hk:k=0:=by have:¬(0:Int)<(k:Int):=fun e=>f (Xd e);omega
  have hw:bg s c=gf 60 c.pos c:=by rw[hw];unfold Ap;rw[OP (by rw[h2 (by omega)];exact PB),OP (by rw[h3 hk];exact PB)]
  rw[hw];refine⟨ho1,trivial,?_⟩;exact Xr
theorem MQ(s:Str)(hs:Wf .str s) :
  let A:=(↑(List.length s):Int);let B:=True;let C:=bB s;let D:=C.1=[];let E:=(0:Int);let F:=s=s;let G:=false=false;let H:=E=E/\E=E/\B;let I:=(4096:Nat);let J:=List.length s<=I;let K:=[{kind:=E,text:=[],pos:=A:Tokn}];let L:=(1:Int);if decide ((4096:Int)<A)=true then B/\D/\(3:Int)=C.2.err/\(4096:Int)=C.2.pos/\B else(∃(x:Nat×SC),((↑(List.length x.2.out):Int)<=x.2.pos/\A<x.2.pos+(↑x.1:Int)/\E<=x.2.pos/\x.2.pos<=A/\bB s=fy s x.1 x.2)/\F/\G/\F/\E=x.2.pos/\x.2.out=[]/\E=x.2.err/\E=x.2.fat/\List.length x.2.out=(0:Nat)/\H)/\∀(x:Nat×SC),let M:=E<=x.2.pos;let N:=x.2.pos<=A;let O:=List.length x.2.out=List.length x.2.out;let P:=x.2.pos+E;let Q:=x.2.pos+L;let R:=inR IntKind.i64 Q/\∃(y:Nat×SC),((↑(List.length y.2.out):Int)<=y.2.pos/\A<y.2.pos+(↑y.1:Int)/\E<=y.2.pos/\y.2.pos<=A/\bB s=fy s y.1 y.2)/\y.1<x.1/\F/\G/\F/\x.2.pos+L=y.2.pos/\x.2.out=y.2.out/\x.2.err=y.2.err/\x.2.fat=y.2.fat/\List.length x.2.out=List.length y.2.out/\H;let S:=(↑(aj cD s x.2.pos):Int);let T:=(jn s x.2.pos (x.2.pos+S) {pos:=x.2.pos+S,out:=x.2.out,err:=x.2.err,fat:=x.2.fat:SC});let U:=bg s x.2;let V:=(O/\List.length x.2.out<=I/\J/\M/\N/\x.2.pos<A)/\if(!U.1)=true then B/\D/\U.2.err=C.2.err/\U.2.fat=C.2.pos/\B else ∃(y:Nat×SC),((↑(List.length y.2.out):Int)<=y.2.pos/\A<y.2.pos+(↑y.1:Int)/\E<=y.2.pos/\y.2.pos<=A/\bB s=fy s y.1 y.2)/\y.1<x.1/\F/\G/\F/\U.2.pos=y.2.pos/\U.2.out=y.2.out/\U.2.err=y.2.err/\U.2.fat=y.2.fat/\List.length U.2.out=List.length y.2.out/\H;(↑(List.length x.2.out):Int)<=x.2.pos/\A<x.2.pos+(↑x.1:Int)/\M/\N/\bB s=fy s x.1 x.2->(J/\M/\N/\E<=E/\E<=(2:Int))/\if decide (x.2.pos=A)=true then(O/\(List.length x.2.out+List.length K)*(32:Nat)<=(140737488355328:Nat))/\B/\x.2.out++K=C.1/\E=C.2.err/\E=C.2.pos/\B else if decide (bAt s P=(32:Int))=true then R else if decide (bAt s P=(10:Int))=true then R else if decide (bAt s P=(9:Int))=true then R else if decide (bAt s P=(13:Int))=true then R else if decide (bAt s P=(45:Int))=true then(J/\M/\N/\E<=L/\L<=(2:Int))/\if decide (bAt s Q=(45:Int))=true then(J/\M/\N)/\(O/\J/\M/\x.2.pos<=x.2.pos+S/\x.2.pos+S<=A)/\if(!T.1)=true then B/\D/\T.2.err=C.2.err/\T.2.fat=C.2.pos/\B else ∃(y:Nat×SC),((↑(List.length y.2.out):Int)<=y.2.pos/\A<y.2.pos+(↑y.1:Int)/\E<=y.2.pos/\y.2.pos<=A/\bB s=fy s y.1 y.2)/\y.1<x.1/\F/\G/\F/\T.2.pos=y.2.pos/\T.2.out=y.2.out/\T.2.err=y.2.err/\T.2.fat=y.2.fat/\List.length T.2.out=List.length y.2.out/\H else V else V:=by
 conv=>zeta
 apply a6<;>intro h
 ·have h:=Xo h;have e:bB s=([],⟨3,4096⟩):=by unfold bB;rw[OQ (by omega)]
  rw[e];exact Xr
 have h:¬(4096:Int)<(s.length:Int):=fun e=>h (Xd e);have hs0:bB s=fy s (s.length+2) ⟨0,[],0,0⟩:=by unfold bB;rw[OP (by omega)]
 refine⟨⟨(s.length+2,⟨0,[],0,0⟩),⟨by show((0:Nat):Int)<=0;omega,by show _<0+((s.length+2:Nat):Int);omega,by show(0:Int)<=0;omega,by show(0:Int)<=_;omega,hs0⟩,?_⟩,?_⟩
 ·exact Xr
 rintro⟨f,d⟩ ⟨d1,d2,d3,d4,d5⟩;simp only at d1 d2 d3 d4 d5;obtain⟨f,rfl⟩:∃g,f=g+1:=⟨f-1,by omega⟩;rw[fy]at d5;have e0:d.pos+0=d.pos:=Int.add_zero _;simp only[e0];refine⟨⟨by omega,by omega,by omega,by omega,by omega⟩,a6 (fun k=>?_) (fun k=>?_)⟩
 ·replace k:=Xo k;rw[OQ k]at d5;rw[d5];refine⟨⟨by trivial,by simp only[OS];omega⟩,trivial,?_⟩;exact Xr
 replace k:¬d.pos=(s.length:Int):=fun e=>k (Xd e);have hlt:d.pos<(s.length:Int):=by omega
 rw[OP k]at d5;clear k;apply a6<;>intro k
 ·replace k:=Xo k;rw[OQ ((eT _).2 (by omega))]at d5;refine⟨ak (by omega) (by omega),(f,cG d (d.pos+1)),⟨by show(d.out.length:Int)<=d.pos+1;omega,by show _<d.pos+1+(f:Int);omega,by show 0<=d.pos+1;omega,by show d.pos+1<=_;omega,d5⟩,by show f<f+1;omega,?_⟩;exact Xr
 replace k:¬bAt s d.pos=32:=fun e=>k (Xd e);have k32:=k;clear k;apply a6<;>intro k
 ·replace k:=Xo k;rw[OQ ((eT _).2 (by omega))]at d5;refine⟨ak (by omega) (by omega),(f,cG d (d.pos+1)),⟨by show(d.out.length:Int)<=d.pos+1;omega,by show _<d.pos+1+(f:Int);omega,by show 0<=d.pos+1;omega,by show d.pos+1<=_;omega,d5⟩,by show f<f+1;omega,?_⟩;exact Xr
 replace k:¬bAt s d.pos=10:=fun e=>k (Xd e);have k10:=k;clear k;apply a6<;>intro k
 ·replace k:=Xo k;rw[OQ ((eT _).2 (by omega))]at d5;refine⟨ak (by omega) (by omega),(f,cG d (d.pos+1)),⟨by show(d.out.length:Int)<=d.pos+1;omega,by show _<d.pos+1+(f:Int);omega,by show 0<=d.pos+1;omega,by show d.pos+1<=_;omega,d5⟩,by show f<f+1;omega,?_⟩;exact Xr
 replace k:¬bAt s d.pos=9:=fun e=>k (Xd e);have k9:=k;clear k;apply a6<;>intro k
 ·replace k:=Xo k;rw[OQ ((eT _).2 (by omega))]at d5;refine⟨ak (by omega) (by omega),(f,cG d (d.pos+1)),⟨by show(d.out.length:Int)<=d.pos+1;omega,by show _<d.pos+1+(f:Int);omega,by show 0<=d.pos+1;omega,by show d.pos+1<=_;omega,d5⟩,by show f<f+1;omega,?_⟩;exact Xr
 replace k:¬bAt s d.pos=13:=fun e=>k (Xd e);have k13:=k;clear k;have hbl:¬aZ (bAt s d.pos)=true:=fun e=>by have:=(eT _).1 e;omega
 rw[OP hbl]at d5;apply a6<;>intro k
 ·replace k:=Xo k;refine⟨⟨by omega,by omega,by omega,by omega,by omega⟩,a6 (fun j=>?_) (fun j=>?_)⟩
  ·replace j:=Xo j;rw[OQ ⟨k,j⟩]at d5;have hw:=dX (pr:=cD) d3 d4;have hp:=sC (s:=s) (a:=d.pos+1) (by omega);have hh:=cU (pr:=cD) d3 hlt (by rw[<-nv hlt,k];rfl);refine⟨⟨by omega,by omega,by omega⟩,⟨by trivial,by omega,by omega,by omega,by omega⟩,?_⟩;unfold jn
   cases hb:dv (cut s d.pos (d.pos+(aj cD s d.pos:Int)))with|some q=>rw[hb]at d5;simp only at d5;rw[d5];refine a6 (fun _=>?_) (fun e=>absurd rfl e);refine⟨trivial,?_⟩;exact Xr|none=>rw[hb]at d5;simp only at d5;refine a6 (fun e=>Bool.noConfusion e) (fun _=>?_);refine⟨(f,cG d (d.pos+(aj cD s d.pos:Int))),⟨by show(d.out.length:Int)<=d.pos+_;omega,by show _<d.pos+_+(f:Int);omega,by show 0<=d.pos+_;omega,hw,d5⟩,by show f<f+1;omega,?_⟩;exact Xr
  replace j:¬bAt s (d.pos+1)=45:=fun e=>j (Xd e)
  ·refine⟨⟨by trivial,by omega,by omega,by omega,by omega,by omega⟩,?_⟩;have hne:¬(bAt s d.pos=45/\bAt s (d.pos+1)=45):=by omega
   rw[OP hne]at d5
   cases ht:(bg s d).1 with
   |false=>rw[ht,OP PB]at d5;refine a6 (fun _=>?_) (fun e=>absurd rfl e);rw[d5];refine⟨trivial,?_⟩;exact Xr
   |true=>rw[ht,OQ rfl]at d5;obtain⟨t1,t2,t3⟩:=jz d3 hlt ht;refine a6 (fun e=>Bool.noConfusion e) (fun _=>?_);refine⟨(f,(bg s d).2),⟨by show((bg s d).2.out.length:Int)<=(bg s d).2.pos;omega,by show _<(bg s d).2.pos+(f:Int);omega,by show 0<=(bg s d).2.pos;omega,t2,d5⟩,by show f<f+1;omega,?_⟩;exact Xr
 replace k:¬bAt s d.pos=45:=fun e=>k (Xd e)
 ·refine⟨⟨by trivial,by omega,by omega,by omega,by omega,by omega⟩,?_⟩;have hne:¬(bAt s d.pos=45/\bAt s (d.pos+1)=45):=by omega
  rw[OP hne]at d5
  cases ht:(bg s d).1 with
  |false=>rw[ht,OP PB]at d5;refine a6 (fun _=>?_) (fun e=>absurd rfl e);rw[d5];refine⟨trivial,?_⟩;exact Xr
  |true=>rw[ht,OQ rfl]at d5;obtain⟨t1,t2,t3⟩:=jz d3 hlt ht;refine a6 (fun e=>Bool.noConfusion e) (fun _=>?_);refine⟨(f,(bg s d).2),⟨by show((bg s d).2.out.length:Int)<=(bg s d).2.pos;omega,by show _<(bg s d).2.pos+(f:Int);omega,by show 0<=(bg s d).2.pos;omega,t2,d5⟩,by show f<f+1;omega,?_⟩;exact Xr
theorem KF(l:List Tokn)(a:Int)(hl:Wf (.lst (.st .token)) l)(hN:aO l) :
  let A:=bH l a;let B:=True;let C:=(0:Int);let D:=bE l a;let E:=C=D.1.kind;let F:=[]=D.1.pkg;let G:=[]=D.1.name;let H:=C=D.1.n;let I:=D.1.names=[];let J:=D.1.vars=[];let K:=D.1.shapes=[];let L:=D.1.parts=[];let M:=C=D.1.pos;let N:=C=D.2.1;let O:=(a7 (5000:Nat) A);let P:=dr (bJ O.1) (aH A).pos O.2;let Q:=C=D.2.2.err/\C=D.2.2.pos/\B;let R:=if b7 P=true then B/\E/\F/\G/\H/\I/\J/\K/\L/\M/\N/\P.err=D.2.2.err/\P.fat=D.2.2.pos/\B else B/\O.1=D.1/\P.pos=D.2.1/\Q;let S:=if b7 O.2=true then B/\E/\F/\G/\H/\I/\J/\K/\L/\M/\N/\O.2.err=D.2.2.err/\O.2.fat=D.2.2.pos/\B else B/\O.1=D.1/\O.2.pos=D.2.1/\Q;if b7 A=true then B/\E/\F/\G/\H/\I/\J/\K/\L/\M/\N/\A.err=D.2.2.err/\A.fat=D.2.2.pos/\B else a8 A/\(a8 A/\rem A<(5000:Nat))/\if(!b7 O.2)=true then dD O.1=true/\if decide (bJ O.1=(3:Int))=true then R else if decide (bJ O.1=(91:Int))=true then R else S else S:=by
 conv=>zeta
 apply a6<;>intro h
 ·have hG:bE l a=(oM,0,⟨(bH l a).err,(bH l a).fat⟩):=by unfold bE;rw[OQ h]
  rw[hG];exact Xr
 have b':b7 (bH l a)=false:=by simpa using h
 have g:=mg hN b';have hG:bE l a=FM l a (a7 5000 (bH l a)):=by unfold bE;rw[OP h]
 have hf:=(uc g.2.2.1 5000 (bH l a) rfl).1;refine⟨g,⟨g,by have:=tJ g;omega⟩,?_⟩;unfold FM at hG;generalize a7 5000 (bH l a)=p at hG hf⊢;apply a6<;>intro k
 ·have k:b7 p.2=false:=by simpa using k
  rw[OP (by rw[k];exact PB)]at hG
  have fin:∀q:Par,bE l a=pZ oM (p.1,q)->if b7 q=true then True/\(0:Int)=(bE l a).1.kind/\[]=(bE l a).1.pkg/\[]=(bE l a).1.name/\(0:Int)=(bE l a).1.n/\(bE l a).1.names=[]/\(bE l a).1.vars=[]/\(bE l a).1.shapes=[]/\(bE l a).1.parts=[]/\(0:Int)=(bE l a).1.pos/\(0:Int)=(bE l a).2.1/\q.err=(bE l a).2.2.err/\q.fat=(bE l a).2.2.pos/\True
    else True/\p.1=(bE l a).1/\q.pos=(bE l a).2.1/\(0:Int)=(bE l a).2.2.err/\(0:Int)=(bE l a).2.2.pos/\True:=by
   intro q hq;unfold pZ at hq;apply a6<;>intro j
   ·rw[OQ j]at hq;rw[hq];exact Xr
   ·rw[OP j]at hq;rw[hq];exact Xr
  refine⟨hf,a6 (fun j=>?_) (fun j=>a6 (fun i=>?_) (fun i=>?_))⟩
  ·rw[OQ (.inl (Xo j))]at hG;exact fin _ hG
  ·rw[OQ (.inr (Xo i))]at hG;exact fin _ hG
  ·rw[OP (fun e=>e.elim (fun e=>j (Xd e)) (fun e=>i (Xd e)))]at hG;exact fin _ hG
 ·have k:b7 p.2=true:=by simpa using k
  rw[OQ k]at hG;unfold pZ at hG;rw[OQ k]at hG;refine a6 (fun _=>?_) (fun j=>absurd k j);rw[hG];exact Xr
theorem AR(s:Str)  :
  let A:=bB s;let B:=(0:Int);let C:=True;let D:=kf s;let E:=B=D.1.kind;let F:=[]=D.1.pkg;let G:=[]=D.1.name;let H:=D.1.names=[];let I:=D.1.parts=[];let J:=eV A.1 B;let K:=cC A.1 J.2.1=D.2/\C;let L:=J.2.2=D.2/\C;if(!decide (A.2.err=B))=true then C/\E/\F/\G/\H/\I/\A.2=D.2/\C else aO A.1/\if decide (J.2.2.err=B)=true then(B<=J.2.1/\J.2.1<(↑(List.length A.1):Int))/\if(!decide ((cC A.1 J.2.1).err=B))=true then C/\E/\F/\G/\H/\I/\K else C/\J.1=D.1/\K else if(!decide (J.2.2.err=B))=true then C/\E/\F/\G/\H/\I/\L else C/\J.1=D.1/\L:=by
 conv=>zeta
 have e0:kf s=oQ tO (fun l=>eV l 0) s:=rfl;unfold oQ at e0;simp only at e0;apply a6<;>intro h
 ·have h:¬(bB s).2.err=0:=by simpa using h
  rw[OP h]at e0;rw[e0];exact Xr
 have h:(bB s).2.err=0:=by simpa using h
 rw[OQ h]at e0;have hN:=mj h;obtain⟨l1,l2⟩:=ml h;refine⟨hN,a6 (fun k=>?_) (fun k=>?_)⟩
 ·replace k:=Xo k;rw[OQ k]at e0;refine⟨wL hN l1 l2 k,a6 (fun j=>?_) (fun j=>?_)⟩
  ·have j:¬(cC (bB s).1 (eV (bB s).1 0).2.1).err=0:=by simpa using j
   rw[OP j]at e0;rw[e0];exact Xr
  ·have j:(cC (bB s).1 (eV (bB s).1 0).2.1).err=0:=by simpa using j
   rw[OQ j]at e0;rw[e0];exact Xr
 ·have k:¬(eV (bB s).1 0).2.2.err=0:=fun e=>k (Xd e);rw[OP k]at e0;refine a6 (fun _=>?_) (fun j=>absurd (by simp[k]) j);rw[e0];exact Xr
theorem AT(s:Str)  :
  let A:=bB s;let B:=(0:Int);let C:=True;let D:=kg s;let E:=B=D.1.kind;let F:=[]=D.1.pkg;let G:=[]=D.1.name;let H:=B=D.1.n;let I:=D.1.names=[];let J:=D.1.vars=[];let K:=D.1.shapes=[];let L:=D.1.parts=[];let M:=B=D.1.pos;let N:=bE A.1 B;let O:=cC A.1 N.2.1=D.2/\C;let P:=N.2.2=D.2/\C;if(!decide (A.2.err=B))=true then C/\E/\F/\G/\H/\I/\J/\K/\L/\M/\A.2=D.2/\C else aO A.1/\if decide (N.2.2.err=B)=true then(B<=N.2.1/\N.2.1<(↑(List.length A.1):Int))/\if(!decide ((cC A.1 N.2.1).err=B))=true then C/\E/\F/\G/\H/\I/\J/\K/\L/\M/\O else C/\N.1=D.1/\O else if(!decide (N.2.2.err=B))=true then C/\E/\F/\G/\H/\I/\J/\K/\L/\M/\P else C/\N.1=D.1/\P:=by
 conv=>zeta
 have e0:kg s=oQ oM (fun l=>bE l 0) s:=rfl;unfold oQ at e0;simp only at e0;apply a6<;>intro h
 ·have h:¬(bB s).2.err=0:=by simpa using h
  rw[OP h]at e0;rw[e0];exact Xr
 have h:(bB s).2.err=0:=by simpa using h
 rw[OQ h]at e0;have hN:=mj h;obtain⟨l1,l2⟩:=ml h;refine⟨hN,a6 (fun k=>?_) (fun k=>?_)⟩
 ·replace k:=Xo k;rw[OQ k]at e0;refine⟨uh hN l1 l2 k,a6 (fun j=>?_) (fun j=>?_)⟩
  ·have j:¬(cC (bB s).1 (bE (bB s).1 0).2.1).err=0:=by simpa using j
   rw[OP j]at e0;rw[e0];exact Xr
  ·have j:(cC (bB s).1 (bE (bB s).1 0).2.1).err=0:=by simpa using j
   rw[OQ j]at e0;rw[e0];exact Xr
 ·have k:¬(bE (bB s).1 0).2.2.err=0:=fun e=>k (Xd e);rw[OP k]at e0;refine a6 (fun _=>?_) (fun j=>absurd (by simp[k]) j);rw[e0];exact Xr
end Go.AL.Seat
end
section
open Go Go.AL Go.Proofs Go.Shelf Go.Pd
namespace Go.AL.Seat
open Go.Proofs.Tryz
variable [Tabs]
def nn:Nat->Bool:=fun _=>false
def cf(k:Nat->Bool)(l:Nat->List (Option Nat))(p r m:Nat->Bool)(s:Nat->List AV->List (Nat×SObj)->Option Ans):Cfg:=⟨tbl,s,k,l,p,r,m⟩
def a0:An:=⟨[],[],[]⟩
theorem g1(k:Nat->Bool)(l:Nat->List (Option Nat))(p r m:Nat->Bool){s:Nat->List AV->List (Nat×SObj)->Option Ans}(hS:eM prog s)(a:An){f:Nat}{fn:Func}(hf:Tryz.prog.funcs[f]?=some fn)
 {args:List AV}{S:List (Nat×SObj)}{A:Ans}{Q:Prop}(q:Q)(h:fwp (cf k l p r m s) a fn args S A=Q:=by kernel_rfl):aB prog f args S A:=Ju (C:=cf k l p r m s) mixed K4 hS hf q h
theorem g0{s:Nat->List AV->List (Nat×SObj)->Option Ans}(hS:eM prog s)(a:An){f:Nat}{fn:Func}(hf:Tryz.prog.funcs[f]?=some fn)
 {args:List AV}{S:List (Nat×SObj)}{A:Ans}{Q:Prop}(q:Q)(h:fwp (cf nn (fun _=>[]) nn nn nn s) a fn args S A=Q:=by kernel_rfl):aB prog f args S A:=Ju (C:=cf nn (fun _=>[]) nn nn nn s) mixed K4 hS hf q h
theorem sc{f:Nat}{g:Pat}{l:List (Nat×Pat)}(h:ab prog f g)(hl:eM prog (oJ l)):eM prog (oJ ((f,g)::l)):=tG h hl
theorem sn:eM prog (oJ []):=wu
theorem ee{f:Nat}{fn:Func}(h:Tryz.prog.funcs[f]?=some fn)(e:(fn.body.isNone || (fn.name == "runtime.NumGoroutine"))=false:=by kernel_rfl):aA prog f:=aA.mk' h e
variable [SeatLaid]
theorem lF:ab prog 126 (p1 (.int .u8) fun c=>.ret (.bool (bU c))):=
 ba (ee func126) fun c _ _=>g0 sn a0 func126 (Ka c)
theorem lG:ab prog 127 (p1 (.int .u8) fun c=>.ret (.bool (bX c))):=
 ba (ee func127) fun c _ _=>g0 sn a0 func127 (Kb c)
theorem qX:ab prog 132 (p1 (.int .u8) fun c=>.ret (.bool (b8 c))):=
 ba (ee func132) fun c _ _=>g0 sn a0 func132 (Kc c)
theorem ui:ab prog 128 (p1 (.int .u8) fun c=>.ret (.bool (bT c))):=
 ba (ee func128) fun c _ _=>g0 (sc lF (sc lG (sc qX sn))) a0 func128 (Mw c)
theorem Dx:ab prog 181 (pf .str 126 fun s=>.ret (.bool (ei bU s))):=
 rO (ee func181) fun s hs _=>g0 (sc lF (sc lG (sc ui sn))) ⟨[(4,fun S0=>⟨Nat,fun k=>k<=s.length/\ei bU s=(s.drop k).all fun c=>bT (bI c),fun k=>[(22,.int .i64 k)],fun _=>[],fun k=>s.length-k⟩)],[],[]⟩ func181 (GV s hs)
theorem Dy:ab prog 181 (pf .str 127 fun s=>.ret (.bool (ei bX s))):=
 rO (ee func181) fun s hs _=>g0 (sc lF (sc lG (sc ui sn))) ⟨[(4,fun S0=>⟨Nat,fun k=>k<=s.length/\ei bX s=(s.drop k).all fun c=>bT (bI c),fun k=>[(22,.int .i64 k)],fun _=>[],fun k=>s.length-k⟩)],[],[]⟩ func181 (GW s hs)
theorem AU:ab prog 129 (p1 .str fun s=>.ret (.bool (kz s))):=
 ba (ee func129) fun s _ _=>g0 sn a0 func129 (Mx s)
theorem nE:ab prog 130 (p1 .str fun s=>.ret (.bool (aX s))):=
 ba (ee func130) fun s _ _=>g0 (sc Dx (sc AU sn)) a0 func130 (My s)
theorem qY:ab prog 131 (p1 .str fun s=>.ret (.bool (dI s))):=
 ba (ee func131) fun s _ _=>g0 (sc Dy sn) a0 func131 (Kd s)
theorem Dz:ab prog 163 (p2 (.lst .str) .str fun a v=>.ret (.int .i64 (ic a v 0))):=
 dy (ee func163) fun a v ha _ _=>g0 sn ⟨[(2,fun S0=>⟨Nat,fun k=>k<=a.length/\ic a v 0=ic (a.drop k) v k,fun k=>[(8,.int .i64 k)],fun _=>[],fun k=>a.length-k⟩)],[],[]⟩ func163 (GX a v ha)
theorem vI:ab prog 116 (p2 (.lst .str) .str fun a v=>.ret (.bool (decide (v∈a)))):=
 dy (ee func116) fun a v _ _ _=>g0 (sc Dz sn) a0 func116 (yo a v)
theorem Hn:ab prog 154 (p1 .str fun s=>.ret (.bool (nk s))):=
 ba (ee func154) fun s _ _=>g0 sn a0 func154 (Ke s)
theorem uj:ab prog 201 (p1 (.lst .str) fun a=>⟨none,none,.fn 230 [.ptr 1 0],[(1,.box (.lst .str a none))]⟩):=
 ba (ee func201) fun a _ _=>g0 sn a0 func201 (GY a)
theorem Ho:ab prog 153 (p1 (.st .shape) fun s=>⟨some (s.parts.length *16<=140737488355328),none,.bool (fj s),[]⟩):=
 ba (ee func153) fun s hs ho=>g0 (sc nE (sc uj (sc (tZ) (sc (rU) sn)))) ⟨[(4,fun S0=>⟨Nat,fun k=>k<=s.names.length/\s.names.length=s.parts.length/\fj s=(((s.names.drop k).all aX)&&decide s.names.Nodup),fun k=>[(16,.int .i64 k)],fun _=>[],fun k=>s.names.length-k⟩)],[],[]⟩ func153 (Kf s hs (ho _ rfl))
theorem KH:ab prog 92 (p1 (.st .shape) fun s=>⟨some (s.parts.length *16<=140737488355328),none,.bool (bN s),[]⟩):=
 ba (ee func92) fun s hs ho=>g0 (sc Ho (sc qY (sc nE (sc Hn sn)))) a0 func92 (Mz s hs (ho _ rfl))
theorem um:aA prog 91:=ee func91
theorem vJ(n:Nat)(s:AL.Shape)(hs:Wf (.st .shape) s)(hn:sz s<=n+1)(hb:n<=1000000)(hA:ab prog 91 (pf (.st .shape) 92 fun s=>⟨some (sz s<=n),none,.bool (allS bN s),[]⟩)):aB prog 91 [.st .shape s,.fn 92 []] [] (.ret (.bool (allS bN s))):=
 g0 (sc KH (sc (hA) sn)) ⟨[(4,fun S0=>⟨Nat,fun k=>k<=s.parts.length/\allS bN s=allL bN (s.parts.drop k),fun k=>[(14,.int .i64 k)],fun _=>[],fun k=>s.parts.length-k⟩)],[],[]⟩ func91 (Dm n s hs hn hb)
theorem AW:∀n:Nat,n<=1000000->ab prog 91 (pf (.st .shape) 92 fun s=>⟨some (sz s<=n),none,.bool (allS bN s),[]⟩):=by
 intro n
 induction n with
 |zero=>exact fun _=>rO um fun a hs ho=>absurd (ho _ rfl) (by have:=jZ a;omega)
 |succ n ih=>exact fun hb=>rO um fun a hs ho=>vJ n a hs (ho _ rfl) (by omega) (ih (by omega))
theorem KI:ab prog 152 (y5 146):=
 D5 (ee func152) fun c hc=>g0 sn a0 func152 (MA c hc)
theorem FO:aA prog 151:=ee func151
theorem DA(n:Nat)(s:AL.Shape)(l c:Int)(hs:Wf (.st .shape) s)(hn:sz s<=n+1)(hc:0<=c/\c<=400/\1<=l/\l<=c+1)(hA:ab prog 151 (sx 146 152 n)):aB prog 151 [.st .shape s,.int .i64 l,.fn 152 [.ptr 900 0]] [(900,.box (.int .i64 c))] (Jz 146 s l c (sz s<=n+1)):=
 g0 (sc KI (sc (hA) sn)) ⟨[(4,fun S0=>⟨Nat×Int,fun x=>x.1<=s.parts.length/\c+1+(szL (s.parts.take x.1):Int)<=400/\deepL (s.parts.drop x.1) (l+1) x.2=deepS s l,fun x=>[(7,.int .i64 x.2),(16,.int .i64 x.1)],fun x=>[(900,.box (.int .i64 (c+1+(szL (s.parts.take x.1):Int))))],fun x=>s.parts.length-x.1⟩)],[],[]⟩ func151 (MB n s l c hs hn hc)
theorem KJ:∀n:Nat,ab prog 151 (sx 146 152 n):=by
 intro n
 induction n with
 |zero=>exact tI FO fun s l c hs hn hc=>absurd hn (by have:=jZ s;omega)
 |succ n ih=>exact tI FO fun s l c hs hn hc=>DA n s l c hs hn hc ih
theorem AX(s:AL.Shape)(hs:Wf (.st .shape) s) :aB prog 90 [.st .shape s] [] (.ret (.tup [.int .i64 (if sz s<=400 then(sz s:Int)else 401),.int .i64 (if sz s<=400 then deepS s 1 else 0),.bool (decide (sz s<=400))])):=
 fwpR_sound (C:=⟨tbl,_,fun _=>false,fun _=>[],fun _=>false,fun _=>false,fun _=>false⟩) (ann:=⟨[],[],[]⟩) (annC:=⟨[],[],[]⟩) mixed K4 (tG (KJ (sz s)) (wu)) func90 func150 (enters_of func150 (by kernel_rfl) rfl) (@Eq.mpr _ _ (by kernel_rfl) (Kg s hs))
theorem Hp:ab prog 90 (p1 (.st .shape) fun s=>.ret (.tup [.int .i64 (if sz s<=400 then(sz s:Int)else 401),.int .i64 (if sz s<=400 then deepS s 1 else 0),.bool (decide (sz s<=400))])):=
 ba (ee func90) fun s hs _=>AX s hs
theorem wM:ab prog 46 (p1 (.st .shape) fun s=>.ret (.int .i64 (bG s))):=
 ba (ee func46) fun s _ _=>g0 (sc (Hp) (sc (AW 400 (by decide)) sn)) a0 func46 (Kh s)
theorem eJ:ab prog 29 (pP0 fun s=>⟨none,none,.bool (b7 s),[(900,.box (.st .par (s)))]⟩):=
 kc (ee func29) (fun _=>rfl) (fun _=>by simp[aC]) fun s ho=>g0 sn a0 func29 (NX s)
theorem iq:ab prog 33 (pP0 fun s=>⟨some (a8 s),none,.st .token (aH s),[(900,.box (.st .par (s)))]⟩):=
 kc (ee func33) (fun _=>rfl) (fun _=>by simp[aC]) fun s ho=>g0 sn a0 func33 (MC s (ho _ rfl))
theorem jg:ab prog 36 (pP2 (.int .i64) (.int .i64) fun s e a=>⟨none,none,.tup [],[(900,.box (.st .par (dr e a s)))]⟩):=
 NL (ee func36) (fun _ _ _=>rfl) (fun _ _ _=>by simp[aC]) fun s e a hwe hwa ho=>g0 (sc eJ sn) a0 func36 (MD s e a)
theorem O2:ab prog 115 (pP1 .str fun s t=>⟨some (a8 s),none,.bool (isF t s),[(900,.box (.st .par (s)))]⟩):=
 tK (ee func115) (fun _ _=>rfl) (fun _ _=>by simp[aC]) fun s t hwt ho=>g0 (sc iq (sc eJ sn)) a0 func115 (Ol s t (ho _ rfl))
theorem gB:ab prog 59 (pP1 .str fun s t=>⟨some (a8 s),none,.bool (isF t s),[(900,.box (.st .par (dk t s)))]⟩):=
 tK (ee func59) (fun _ _=>rfl) (fun _ _=>by simp[aC]) fun s t hwt ho=>g0 (sc O2 sn) a0 func59 (NY s t (ho _ rfl))
theorem dL:ab prog 58 (pP1 .str fun s t=>⟨some (a8 s),none,.tup [],[(900,.box (.st .par (au t s)))]⟩):=
 tK (ee func58) (fun _ _=>rfl) (fun _ _=>by simp[aC]) fun s t hwt ho=>g0 (sc gB (sc iq (sc jg sn))) a0 func58 (ME s t (ho _ rfl))
theorem lH:ab prog 63 (pP1 (.int .i64) fun s k=>⟨some (a8 s/\¬k=0),none,.st .token (bh k s).1,[(900,.box (.st .par ((bh k s).2)))]⟩):=
 tK (ee func63) (fun _ _=>rfl) (fun _ _=>by simp[aC]) fun s k hwk ho=>g0 (sc iq (sc eJ (sc jg sn))) a0 func63 (MF s k (ho _ rfl))
theorem oe:ab prog 62 (pP1 (.lst .str) fun s ns=>⟨some (a8 s),none,.str (cr ns s).1,[(900,.box (.st .par ((cr ns s).2)))]⟩):=
 tK (ee func62) (fun _ _=>rfl) (fun _ _=>by simp[aC]) fun s ns hwns ho=>g0 (sc lH (sc eJ (sc jg (sc vI sn)))) a0 func62 (Ki s ns (ho _ rfl) hwns)
theorem Hq:ab prog 107 (p2 .str .str fun p n=>.ret (.st .shape (gh p n))):=
 dy (ee func107) fun p n _ _ _=>g0 sn a0 func107 (Kj p n)
theorem KK:aA prog 106:=ee func106
def OE(n:Nat):=pP0 fun s=>⟨some (a8 s/\rem s<n),none,.st .shape (ao n s).1,[(900,.box (.st .par (ao n s).2))]⟩
theorem AY(n:Nat)(s:Par) (ho:a8 s/\rem (au [58] s)<n)(hS:ab prog 53 (OE n)):aB prog 106 [.ptr 900 0] [(900,.box (.st .par s))] (⟨some (a8 s/\rem (au [58] s)<n),none,.st .shape (ao n (au [58] s)).1,[(900,.box (.st .par ((ao n (au [58] s)).2)))]⟩):=
 g0 (sc dL (sc (hS) sn)) a0 func106 (Kk n s ho)
theorem Hr(n:Nat)(hS:ab prog 53 (OE n)):ab prog 106 (pP0 fun s=>⟨some (a8 s/\rem (au [58] s)<n),none,.st .shape (ao n (au [58] s)).1,[(900,.box (.st .par ((ao n (au [58] s)).2)))]⟩):=
 kc KK (fun _=>rfl) (fun _=>by simp[aC]) fun s ho=>AY n s (ho _ rfl) hS
theorem Hs:aA prog 105:=ee func105
def OK(n:Nat):=pP0 fun s=>⟨some (a8 s/\rem (au [58] s)<n),none,.st .shape (ao n (au [58] s)).1,[(900,.box (.st .par (ao n (au [58] s)).2))]⟩
theorem yr(n:Nat)(x:Shape)(s:Par)(hi:a8 s)(h0:s.err=0)(hn:rem s<=n)(hl:x.names.length+x.parts.length<=100000)(hT:ab prog 106 (OK n)):aB prog 105 [.ptr 900 0,.ptr 901 0] (JD x (.st .par s) x.names.length x.parts.length) (⟨some (a8 s/\s.err=0/\rem s<=n/\x.names.length=x.names.length/\x.parts.length=x.parts.length/\x.names.length+x.parts.length<=100000),none,.tup [],[(900,.box (.ptr 902 0)),(901,.box (.agg [.int .i64 ((aE (ao n) x s).1).kind,.str ((aE (ao n) x s).1).pkg,.str ((aE (ao n) x s).1).name,.lst .str ((aE (ao n) x s).1).names (some 903),.lst (.st .shape) ((aE (ao n) x s).1).parts (some 904)])),(902,.box (.st .par (aE (ao n) x s).2)),(903,.tail .str (aE (ao n) x s).1.names.length),(904,.tail (.st .shape) (aE (ao n) x s).1.parts.length)]⟩):=
 g1 nn (fun _=>[]) (fun d=>Nat.beq d 21) nn nn (sc oe (sc (hT) sn)) a0 func105 (GZ n x s hi h0 hn hl)
def Oz(n:Nat):=tL fun x s m m'=>⟨some (a8 s/\s.err=0/\rem s<=n/\m=x.names.length/\m'=x.parts.length/\m+m'<=100000),none,.tup [],[(900,.box (.ptr 902 0)),(901,.box (.agg [.int .i64 ((aE (ao n) x s).1).kind,.str ((aE (ao n) x s).1).pkg,.str ((aE (ao n) x s).1).name,.lst .str ((aE (ao n) x s).1).names (some 903),.lst (.st .shape) ((aE (ao n) x s).1).parts (some 904)])),(902,.box (.st .par (aE (ao n) x s).2)),(903,.tail .str (aE (ao n) x s).1.names.length),(904,.tail (.st .shape) (aE (ao n) x s).1.parts.length)]⟩
theorem DB(n:Nat)(hT:ab prog 106 (OK n)):ab prog 105 (Oz n):=
 GD Hs (fun _ _ _ _=>rfl) (fun _ _ _ _=>by simp[aC]) fun x s m m' ho=>by obtain⟨q1,q2,q3,q4,q5,q6⟩:=ho _ rfl;subst q4 q5;exact yr n x s q1 q2 q3 q6 hT
theorem KL:aA prog 108:=ee func108
theorem AZ(n:Nat)(x:Shape)(s:Par)(hi:a8 s)(hn:rem s<n)(hl:x.parts.length<=100000)(hS:ab prog 53 (OE n)):aB prog 108 [.ptr 900 0,.ptr 901 0] (Nu x (.st .par s) x.parts.length) (⟨some (a8 s/\rem s<n/\x.parts.length=x.parts.length/\x.parts.length<=100000),none,.tup [],[(900,.box (.agg [.int .i64 ((aI (ao n) x s).1).kind,.str ((aI (ao n) x s).1).pkg,.str ((aI (ao n) x s).1).name,.nils,.lst (.st .shape) ((aI (ao n) x s).1).parts (some 902)])),(901,.box (.ptr 903 0)),(902,.tail (.st .shape) (aI (ao n) x s).1.parts.length),(903,.box (.st .par (aI (ao n) x s).2))]⟩):=
 g1 nn (fun _=>[]) (fun d=>Nat.beq d 8) nn nn (sc (hS) sn) a0 func108 (Kl n x s hi hn hl)
def OA(n:Nat):=Ah fun x s m=>⟨some (a8 s/\rem s<n/\m=x.parts.length/\m<=100000),none,.tup [],[(900,.box (.agg [.int .i64 ((aI (ao n) x s).1).kind,.str ((aI (ao n) x s).1).pkg,.str ((aI (ao n) x s).1).name,.nils,.lst (.st .shape) ((aI (ao n) x s).1).parts (some 902)])),(901,.box (.ptr 903 0)),(902,.tail (.st .shape) (aI (ao n) x s).1.parts.length),(903,.box (.st .par (aI (ao n) x s).2))]⟩
theorem Ht(n:Nat)(hS:ab prog 53 (OE n)):ab prog 108 (OA n):=
 JE KL (fun _ _ _=>rfl) (fun _ _ _=>by simp[aC]) fun x s m hx ho=>by obtain⟨q1,q2,q3,q4⟩:=ho _ rfl;subst q3;exact AZ n x s q1 q2 q4 hS
theorem KM:aA prog 60:=ee func60
theorem Ba(n:Nat)(b e:Str)(k:Int)(s:Par)(hi:a8 s)(hn:rem s<=n)(hC:ab prog 105 (Oz n)):aB prog 60 [.ptr 900 0,.str b,.str e,.fn 105 [.ptr 901 0,.ptr 902 0]] (JF k (.st .par s)) (⟨some (a8 s/\rem s<=n),none,.tup [],[(900,.box (.st .par (ah b e (aE (ao n)) (⟨k,[],[],[],[]⟩) s).2)),(901,.box (.ptr 900 0)),(902,.box (.agg [.int .i64 ((ah b e (aE (ao n)) (⟨k,[],[],[],[]⟩) s).1).kind,.str ((ah b e (aE (ao n)) (⟨k,[],[],[],[]⟩) s).1).pkg,.str ((ah b e (aE (ao n)) (⟨k,[],[],[],[]⟩) s).1).name,.lst .str ((ah b e (aE (ao n)) (⟨k,[],[],[],[]⟩) s).1).names (some 701),.lst (.st .shape) ((ah b e (aE (ao n)) (⟨k,[],[],[],[]⟩) s).1).parts (some 702)])),(701,.tail .str (ah b e (aE (ao n)) (⟨k,[],[],[],[]⟩) s).1.names.length),(702,.tail (.st .shape) (ah b e (aE (ao n)) (⟨k,[],[],[],[]⟩) s).1.parts.length)]⟩):=
 g0 (sc gB (sc eJ (sc dL (sc (hC) sn)))) ⟨[(1,fun S0=>⟨Nat×Shape×Par,fun y=>a8 y.2.2/\rem y.2.2<y.1/\rem y.2.2<=n/\y.2.1.names.length+y.1<=5000/\y.2.1.parts.length+y.1<=5000/\bD b e (aE (ao n)) y.1 y.2.1 y.2.2=(ah b e (aE (ao n)) (⟨k,[],[],[],[]⟩) s),fun _=>[],fun y=>[(900,.box (.st .par y.2.2)),(902,.box (.agg [.int .i64 (y.2.1).kind,.str (y.2.1).pkg,.str (y.2.1).name,.lst .str (y.2.1).names (some 701),.lst (.st .shape) (y.2.1).parts (some 702)])),(701,.tail .str y.2.1.names.length),(702,.tail (.st .shape) y.2.1.parts.length)],fun y=>y.1⟩)],[],[]⟩ func60 (Km n b e k s hi hn)
def OB(n:Nat):=y8 105 fun b e k s=>⟨some (a8 s/\rem s<=n),none,.tup [],[(900,.box (.st .par (ah b e (aE (ao n)) (⟨k,[],[],[],[]⟩) s).2)),(901,.box (.ptr 900 0)),(902,.box (.agg [.int .i64 ((ah b e (aE (ao n)) (⟨k,[],[],[],[]⟩) s).1).kind,.str ((ah b e (aE (ao n)) (⟨k,[],[],[],[]⟩) s).1).pkg,.str ((ah b e (aE (ao n)) (⟨k,[],[],[],[]⟩) s).1).name,.lst .str ((ah b e (aE (ao n)) (⟨k,[],[],[],[]⟩) s).1).names (some 701),.lst (.st .shape) ((ah b e (aE (ao n)) (⟨k,[],[],[],[]⟩) s).1).parts (some 702)])),(701,.tail .str (ah b e (aE (ao n)) (⟨k,[],[],[],[]⟩) s).1.names.length),(702,.tail (.st .shape) (ah b e (aE (ao n)) (⟨k,[],[],[],[]⟩) s).1.parts.length)]⟩
theorem Hu(n:Nat)(hC:ab prog 105 (Oz n)):ab prog 60 (OB n):=
 GF KM (fun _ _ _ _=>rfl) (fun _ _ _ _=>by simp[aC]) fun b e k s ho=>Ba n b e k s (ho _ rfl).1 (ho _ rfl).2 hC
theorem KN:aA prog 60:=ee func60
theorem Bb(n:Nat)(b e:Str)(k:Int)(s:Par)(hi:a8 s)(hn:rem s<n)(hC:ab prog 108 (OA n)):aB prog 60 [.ptr 900 0,.str b,.str e,.fn 108 [.ptr 901 0,.ptr 902 0]] (JG k (.st .par s)) (⟨some (a8 s/\rem s<n),none,.tup [],[(900,.box (.st .par (ah b e (aI (ao n)) (⟨k,[],[],[],[]⟩) s).2)),(901,.box (.agg [.int .i64 ((ah b e (aI (ao n)) (⟨k,[],[],[],[]⟩) s).1).kind,.str ((ah b e (aI (ao n)) (⟨k,[],[],[],[]⟩) s).1).pkg,.str ((ah b e (aI (ao n)) (⟨k,[],[],[],[]⟩) s).1).name,.nils,.lst (.st .shape) ((ah b e (aI (ao n)) (⟨k,[],[],[],[]⟩) s).1).parts (some 702)])),(902,.box (.ptr 900 0)),(702,.tail (.st .shape) (ah b e (aI (ao n)) (⟨k,[],[],[],[]⟩) s).1.parts.length)]⟩):=
 g0 (sc gB (sc eJ (sc dL (sc (hC) sn)))) ⟨[(1,fun S0=>⟨Nat×Shape×Par,fun y=>a8 y.2.2/\rem y.2.2<y.1/\rem y.2.2<n/\y.2.1.parts.length+y.1<=5000/\y.2.1.names=[]/\bD b e (aI (ao n)) y.1 y.2.1 y.2.2=(ah b e (aI (ao n)) (⟨k,[],[],[],[]⟩) s),fun _=>[],fun y=>[(900,.box (.st .par y.2.2)),(901,.box (.agg [.int .i64 (y.2.1).kind,.str (y.2.1).pkg,.str (y.2.1).name,.nils,.lst (.st .shape) (y.2.1).parts (some 702)])),(702,.tail (.st .shape) y.2.1.parts.length)],fun y=>y.1⟩)],[],[]⟩ func60 (Kn n b e k s hi hn)
def OC(n:Nat):=y9 108 fun b e k s=>⟨some (a8 s/\rem s<n),none,.tup [],[(900,.box (.st .par (ah b e (aI (ao n)) (⟨k,[],[],[],[]⟩) s).2)),(901,.box (.agg [.int .i64 ((ah b e (aI (ao n)) (⟨k,[],[],[],[]⟩) s).1).kind,.str ((ah b e (aI (ao n)) (⟨k,[],[],[],[]⟩) s).1).pkg,.str ((ah b e (aI (ao n)) (⟨k,[],[],[],[]⟩) s).1).name,.nils,.lst (.st .shape) ((ah b e (aI (ao n)) (⟨k,[],[],[],[]⟩) s).1).parts (some 702)])),(902,.box (.ptr 900 0)),(702,.tail (.st .shape) (ah b e (aI (ao n)) (⟨k,[],[],[],[]⟩) s).1.parts.length)]⟩
theorem Hv(n:Nat)(hC:ab prog 108 (OA n)):ab prog 60 (OC n):=
 GH KN (fun _ _ _ _=>rfl) (fun _ _ _ _=>by simp[aC]) fun b e k s ho=>Bb n b e k s (ho _ rfl).1 (ho _ rfl).2 hC
theorem Bc:aA prog 53:=ee func53
theorem Bd(n:Nat)(s:Par)(hi:a8 s)(hn:rem s<n+1)(hS:ab prog 53 (OE n))(hL:ab prog 60 (OB n))(hM:ab prog 60 (OC n)):aB prog 53 [.ptr 900 0] [(900,.box (.st .par s))] (⟨some (a8 s/\rem s<n+1),none,.st .shape (ao (n+1) s).1,[(900,.box (.st .par (ao (n+1) s).2))]⟩):=
 g1 nn (fun _=>[]) (fun d=>Nat.beq d 129) nn nn (sc iq (sc eJ (sc dL (sc lH (sc gB (sc jg (sc Hq (sc (hS) (sc (hL) (sc (hM) sn)))))))))) a0 func53 (Ko n s hi hn)
theorem og:∀n:Nat,ab prog 53 (OE n)
 |0=>kc Bc (fun _=>rfl) (fun _=>by simp[aC]) fun s ho=>absurd (ho _ rfl).2 (Qq _)
 |n+1=>kc Bc (fun _=>rfl) (fun _=>by simp[aC]) fun s ho=>
  Bd n s (ho _ rfl).1 (ho _ rfl).2 (og n) (Hu n (DB n (Hr n (og n)))) (Hv n (Ht n (og n)))
theorem lI:ab prog 30 (pP0 fun s=>⟨some (a8 s),none,.st .shape (cm s).1,[(900,.box (.st .par ((cm s).2)))]⟩):=
 kc (ee func30) (fun _=>rfl) (fun _=>by simp[aC]) fun s ho=>g0 (sc iq (sc (og big) (sc eJ (sc wM (sc jg sn))))) a0 func30 (Kp s (ho _ rfl))
theorem Hw:aA prog 56:=ee func56
def Ou(n:Nat):=pP0 fun s=>⟨some (a8 s/\rem s<n),none,.st .term (a7 n s).1,[(900,.box (.st .par (a7 n s).2))]⟩
theorem yt(n:Nat)(x:Trm)(s:Par)(hi:a8 s)(hn:rem s<n)(zn:x.names=[])(zv:x.vars=[])(zs:x.shapes=[])(zp:x.parts=[])(hT:ab prog 34 (Ou n)):aB prog 56 [.ptr 900 0,.ptr 901 0] (sT_ x (.st .par s)) (⟨some (a8 s/\rem s<n),none,.tup [],[(900,.box (.agg [.int .i64 x.kind,.str x.pkg,.str x.name,.int .i64 x.n,.nils,.nils,.nils,.lst (.st .term) ((x.parts++[(a7 n s).1])) (some 8),.int .i64 x.pos])),(901,.box (.ptr 902 0)),(902,.box (.st .par (a7 n s).2)),(8,.tail (.st .term) (x.parts++[(a7 n s).1]).length)]⟩):=
 g1 nn (fun _=>[]) (fun d=>Nat.beq d 8) nn nn (sc (hT) sn) a0 func56 (H0 n x s hi hn zn zv zs zp)
def OG(n:Nat):=pT_ fun x s=>⟨some (a8 s/\rem s<n),none,.tup [],[(900,.box (.agg [.int .i64 x.kind,.str x.pkg,.str x.name,.int .i64 x.n,.nils,.nils,.nils,.lst (.st .term) ((x.parts++[(a7 n s).1])) (some 8),.int .i64 x.pos])),(901,.box (.ptr 902 0)),(902,.box (.st .par (a7 n s).2)),(8,.tail (.st .term) (x.parts++[(a7 n s).1]).length)]⟩
theorem DC(n:Nat)(hT:ab prog 34 (Ou n)):ab prog 56 (OG n):=
 NM Hw (fun _ _=>rfl) (fun _ _=>by simp[aC]) fun x s zn zv zs zp ho=>by obtain⟨q1,q2⟩:=ho _ rfl;exact yt n x s q1 q2 zn zv zs zp hT
theorem Hx:aA prog 56:=ee func56
theorem yu(n:Nat)(x:Trm)(s:Par)(hi:a8 s)(hn:rem s<n)(zn:x.names=[])(zv:x.vars=[])(zs:x.shapes=[])(hl:x.parts.length<=100000)(hT:ab prog 34 (Ou n)):aB prog 56 [.ptr 900 0,.ptr 901 0] (NN x (.st .par s) x.parts.length) (⟨some (a8 s/\rem s<n/\x.parts.length=x.parts.length/\x.parts.length<=100000),none,.tup [],[(900,.box (.agg [.int .i64 x.kind,.str x.pkg,.str x.name,.int .i64 x.n,.nils,.nils,.nils,.lst (.st .term) ((x.parts++[(a7 n s).1])) (some 902),.int .i64 x.pos])),(901,.box (.ptr 903 0)),(902,.tail (.st .term) (x.parts++[(a7 n s).1]).length),(903,.box (.st .par (a7 n s).2))]⟩):=
 g1 nn (fun _=>[]) (fun d=>Nat.beq d 8) nn nn (sc (hT) sn) a0 func56 (H2 n x s hi hn zn zv zs hl)
def Ot(n:Nat):=yb fun x s mp=>⟨some (a8 s/\rem s<n/\mp=x.parts.length/\mp<=100000),none,.tup [],[(900,.box (.agg [.int .i64 x.kind,.str x.pkg,.str x.name,.int .i64 x.n,.nils,.nils,.nils,.lst (.st .term) ((x.parts++[(a7 n s).1])) (some 902),.int .i64 x.pos])),(901,.box (.ptr 903 0)),(902,.tail (.st .term) (x.parts++[(a7 n s).1]).length),(903,.box (.st .par (a7 n s).2))]⟩
theorem uo(n:Nat)(hT:ab prog 34 (Ou n)):ab prog 56 (Ot n):=
 FF Hx (fun _ _ _=>rfl) (fun _ _ _=>by simp[aC]) fun x s mp zn zv zs ho=>by obtain⟨q1,q2,ep,ql⟩:=ho _ rfl;subst ep;exact yu n x s q1 q2 zn zv zs ql hT
theorem DD:aA prog 56:=ee func56
theorem vK(n:Nat)(x:Trm)(s:Par)(hi:a8 s)(hn:rem s<n)(zv:x.vars=[])(zp:x.parts=[])(hl:x.names.length+x.shapes.length<=100000)(hT:ab prog 34 (Ou n)):aB prog 56 [.ptr 900 0,.ptr 901 0] (Nv x (.st .par s) x.names.length x.shapes.length) (⟨some (a8 s/\rem s<n/\x.names.length=x.names.length/\x.shapes.length=x.shapes.length/\x.names.length+x.shapes.length<=100000),none,.tup [],[(900,.box (.agg [.int .i64 x.kind,.str x.pkg,.str x.name,.int .i64 x.n,.lst .str (x.names) (some 902),.nils,.lst (.st .shape) (x.shapes) (some 903),.lst (.st .term) ((x.parts++[(a7 n s).1])) (some 8),.int .i64 x.pos])),(901,.box (.ptr 904 0)),(902,.tail .str x.names.length),(903,.tail (.st .shape) x.shapes.length),(904,.box (.st .par (a7 n s).2)),(8,.tail (.st .term) (x.parts++[(a7 n s).1]).length)]⟩):=
 g1 nn (fun _=>[]) (fun d=>Nat.beq d 8) nn nn (sc (hT) sn) a0 func56 (Dn n x s hi hn zv zp hl)
def OD(n:Nat):=FH fun x s mn ms=>⟨some (a8 s/\rem s<n/\mn=x.names.length/\ms=x.shapes.length/\mn+ms<=100000),none,.tup [],[(900,.box (.agg [.int .i64 x.kind,.str x.pkg,.str x.name,.int .i64 x.n,.lst .str (x.names) (some 902),.nils,.lst (.st .shape) (x.shapes) (some 903),.lst (.st .term) ((x.parts++[(a7 n s).1])) (some 8),.int .i64 x.pos])),(901,.box (.ptr 904 0)),(902,.tail .str x.names.length),(903,.tail (.st .shape) x.shapes.length),(904,.box (.st .par (a7 n s).2)),(8,.tail (.st .term) (x.parts++[(a7 n s).1]).length)]⟩
theorem Be(n:Nat)(hT:ab prog 34 (Ou n)):ab prog 56 (OD n):=
 JH DD (fun _ _ _ _=>rfl) (fun _ _ _ _=>by simp[aC]) fun x s mn ms zv zp ho=>by obtain⟨q1,q2,en,es,ql⟩:=ho _ rfl;subst en;subst es;exact vK n x s q1 q2 zv zp ql hT
theorem yw:aA prog 56:=ee func56
theorem se(n:Nat)(x:Trm)(s:Par)(hi:a8 s)(hn:rem s<n)(hl:x.names.length+x.vars.length+x.shapes.length+x.parts.length<=100000)(hT:ab prog 34 (Ou n)):aB prog 56 [.ptr 900 0,.ptr 901 0] (FI x (.st .par s) x.names.length x.vars.length x.shapes.length x.parts.length) (⟨some (a8 s/\rem s<n/\x.names.length=x.names.length/\x.vars.length=x.vars.length/\x.shapes.length=x.shapes.length/\x.parts.length=x.parts.length/\x.names.length+x.vars.length+x.shapes.length+x.parts.length<=100000),none,.tup [],[(900,.box (.agg [.int .i64 x.kind,.str x.pkg,.str x.name,.int .i64 x.n,.lst .str (x.names) (some 902),.lst .str (x.vars) (some 903),.lst (.st .shape) (x.shapes) (some 904),.lst (.st .term) ((x.parts++[(a7 n s).1])) (some 905),.int .i64 x.pos])),(901,.box (.ptr 906 0)),(902,.tail .str x.names.length),(903,.tail .str x.vars.length),(904,.tail (.st .shape) x.shapes.length),(905,.tail (.st .term) (x.parts++[(a7 n s).1]).length),(906,.box (.st .par (a7 n s).2))]⟩):=
 g1 nn (fun _=>[]) (fun d=>Nat.beq d 8) nn nn (sc (hT) sn) a0 func56 (yp n x s hi hn hl)
def Ov(n:Nat):=pY fun x s mn mv ms mp=>⟨some (a8 s/\rem s<n/\mn=x.names.length/\mv=x.vars.length/\ms=x.shapes.length/\mp=x.parts.length/\mn+mv+ms+mp<=100000),none,.tup [],[(900,.box (.agg [.int .i64 x.kind,.str x.pkg,.str x.name,.int .i64 x.n,.lst .str (x.names) (some 902),.lst .str (x.vars) (some 903),.lst (.st .shape) (x.shapes) (some 904),.lst (.st .term) ((x.parts++[(a7 n s).1])) (some 905),.int .i64 x.pos])),(901,.box (.ptr 906 0)),(902,.tail .str x.names.length),(903,.tail .str x.vars.length),(904,.tail (.st .shape) x.shapes.length),(905,.tail (.st .term) (x.parts++[(a7 n s).1]).length),(906,.box (.st .par (a7 n s).2))]⟩
theorem vL(n:Nat)(hT:ab prog 34 (Ou n)):ab prog 56 (Ov n):=
 D9 yw (fun _ _ _ _ _ _=>rfl) (fun _ _ _ _ _ _=>by simp[aC]) fun x s mn mv ms mp _ ho=>by obtain⟨q1,q2,en,ev,es,ep,ql⟩:=ho _ rfl;subst en;subst ev;subst es;subst ep;exact se n x s q1 q2 ql hT
theorem Hy:aA prog 118:=ee func118
theorem yx(n:Nat)(x:Trm)(s:Par)(hi:a8 s)(hn:rem s<n)(zn:x.names=[])(zv:x.vars=[])(zs:x.shapes=[])(hl:x.parts.length<=100000)(hT:ab prog 34 (Ou n)):aB prog 118 [.ptr 900 0,.ptr 901 0] (NN x (.st .par s) x.parts.length) (⟨some (a8 s/\rem s<n/\x.parts.length=x.parts.length/\x.parts.length<=100000),none,.tup [],[(900,.box (.agg [.int .i64 x.kind,.str x.pkg,.str x.name,.int .i64 x.n,.nils,.nils,.nils,.lst (.st .term) ((x.parts++[(a7 n s).1])) (some 902),.int .i64 x.pos])),(901,.box (.ptr 903 0)),(902,.tail (.st .term) (x.parts++[(a7 n s).1]).length),(903,.box (.st .par (a7 n s).2))]⟩):=
 g1 nn (fun _=>[]) (fun d=>Nat.beq d 8) nn nn (sc (hT) sn) a0 func118 (H3 n x s hi hn zn zv zs hl)
theorem DE(n:Nat)(hT:ab prog 34 (Ou n)):ab prog 118 (Ot n):=
 FF Hy (fun _ _ _=>rfl) (fun _ _ _=>by simp[aC]) fun x s mp zn zv zs ho=>by obtain⟨q1,q2,ep,ql⟩:=ho _ rfl;subst ep;exact yx n x s q1 q2 zn zv zs ql hT
theorem ur:ab prog 57 (JJ fun x a s mn ms=>⟨some (a8 s/\mn=x.names.length/\ms=x.shapes.length/\mn+ms<=100000),none,.tup [],[(900,.box (.ptr 902 0)),(901,.box (.agg [.int .i64 x.kind,.str x.pkg,.str x.name,.int .i64 x.n,.lst .str (x.names) (some 903),.nils,.lst (.st .shape) ((x.shapes++[(cm (au a s)).1])) (some 904),.nils,.int .i64 x.pos])),(902,.box (.st .par (cm (au a s)).2)),(903,.tail .str x.names.length),(904,.tail (.st .shape) (x.shapes++[(cm (au a s)).1]).length)]⟩):=
 JK (ee func57) (fun _ _ _ _ _=>rfl) (fun _ _ _ _ _=>by simp[aC]) fun x a s mn ms zv zp ho=>by obtain⟨q1,en,es,ql⟩:=ho _ rfl;subst en;subst es;exact g1 nn (fun _=>[]) (fun d=>Nat.beq d 15) nn nn (sc dL (sc lI sn)) a0 func57 (H4 x a s q1 zv zp ql)
theorem Hz:ab prog 57 (NO fun x a s mp=>⟨some (a8 s/\mp=x.parts.length/\mp<=100000),none,.tup [],[(900,.box (.ptr 902 0)),(901,.box (.agg [.int .i64 x.kind,.str x.pkg,.str x.name,.int .i64 x.n,.nils,.nils,.lst (.st .shape) ((x.shapes++[(cm (au a s)).1])) (some 15),.lst (.st .term) (x.parts) (some 903),.int .i64 x.pos])),(902,.box (.st .par (cm (au a s)).2)),(903,.tail (.st .term) x.parts.length),(15,.tail (.st .shape) (x.shapes++[(cm (au a s)).1]).length)]⟩):=
 Mm (ee func57) (fun _ _ _ _=>rfl) (fun _ _ _ _=>by simp[aC]) fun x a s mp zn zv zs ho=>by obtain⟨q1,ep,ql⟩:=ho _ rfl;subst ep;exact g1 nn (fun _=>[]) (fun d=>Nat.beq d 15) nn nn (sc dL (sc lI sn)) a0 func57 (Kq x a s q1 zn zv zs ql)
theorem qd:ab prog 57 (ye fun x a s mn mv ms mp=>⟨some (a8 s/\mn=x.names.length/\mv=x.vars.length/\ms=x.shapes.length/\mp=x.parts.length/\mn+mv+ms+mp<=100000),none,.tup [],[(900,.box (.ptr 902 0)),(901,.box (.agg [.int .i64 x.kind,.str x.pkg,.str x.name,.int .i64 x.n,.lst .str (x.names) (some 903),.lst .str (x.vars) (some 904),.lst (.st .shape) ((x.shapes++[(cm (au a s)).1])) (some 905),.lst (.st .term) (x.parts) (some 906),.int .i64 x.pos])),(902,.box (.st .par (cm (au a s)).2)),(903,.tail .str x.names.length),(904,.tail .str x.vars.length),(905,.tail (.st .shape) (x.shapes++[(cm (au a s)).1]).length),(906,.tail (.st .term) x.parts.length)]⟩):=
 Da (ee func57) (fun _ _ _ _ _ _ _=>rfl) (fun _ _ _ _ _ _ _=>by simp[aC]) fun x a s mn mv ms mp _ ho=>by obtain⟨q1,en,ev,es,ep,ql⟩:=ho _ rfl;subst en;subst ev;subst es;subst ep;exact g1 nn (fun _=>[]) (fun d=>Nat.beq d 15) nn nn (sc dL (sc lI sn)) a0 func57 (AJ x a s q1 ql)
theorem KO:aA prog 165:=ee func165
theorem Bf(n:Nat)(x:Trm)(s:Par)(hi:a8 s)(h0:s.err=0)(hn:rem s<=n)(zv:x.vars=[])(zs:x.shapes=[])(hl:x.names.length+x.parts.length<=100000)(hT:ab prog 34 (Ou n)):aB prog 165 [.ptr 900 0,.ptr 901 0] (Nw x (.st .par s) x.names.length x.parts.length) (⟨some (a8 s/\s.err=0/\rem s<=n/\x.names.length=x.names.length/\x.parts.length=x.parts.length/\x.names.length+x.parts.length<=100000),none,.tup [],[(900,.box (.agg [.int .i64 ((aq (a7 n) x s).1).kind,.str ((aq (a7 n) x s).1).pkg,.str ((aq (a7 n) x s).1).name,.int .i64 ((aq (a7 n) x s).1).n,.lst .str ((aq (a7 n) x s).1).names (some 902),.nils,.nils,.lst (.st .term) ((aq (a7 n) x s).1).parts (some 903),.int .i64 ((aq (a7 n) x s).1).pos])),(901,.box (.ptr 904 0)),(902,.tail .str (aq (a7 n) x s).1.names.length),(903,.tail (.st .term) (aq (a7 n) x s).1.parts.length),(904,.box (.st .par (aq (a7 n) x s).2))]⟩):=
 g1 nn (fun _=>[]) (fun d=>Nat.beq d 23) nn nn (sc oe (sc dL (sc (hT) sn))) a0 func165 (Kr n x s hi h0 hn zv zs hl)
def Ox(n:Nat):=Al fun x s mn mp=>⟨some (a8 s/\s.err=0/\rem s<=n/\mn=x.names.length/\mp=x.parts.length/\mn+mp<=100000),none,.tup [],[(900,.box (.agg [.int .i64 ((aq (a7 n) x s).1).kind,.str ((aq (a7 n) x s).1).pkg,.str ((aq (a7 n) x s).1).name,.int .i64 ((aq (a7 n) x s).1).n,.lst .str ((aq (a7 n) x s).1).names (some 902),.nils,.nils,.lst (.st .term) ((aq (a7 n) x s).1).parts (some 903),.int .i64 ((aq (a7 n) x s).1).pos])),(901,.box (.ptr 904 0)),(902,.tail .str (aq (a7 n) x s).1.names.length),(903,.tail (.st .term) (aq (a7 n) x s).1.parts.length),(904,.box (.st .par (aq (a7 n) x s).2))]⟩
theorem HA(n:Nat)(hT:ab prog 34 (Ou n)):ab prog 165 (Ox n):=
 JI KO (fun _ _ _ _=>rfl) (fun _ _ _ _=>by simp[aC]) fun x s mn mp zv zs ho=>by obtain⟨q1,q2,q3,en,ep,ql⟩:=ho _ rfl;subst en;subst ep;exact Bf n x s q1 q2 q3 zv zs ql hT
theorem MR:ab prog 61 (NP 57 fun x s mn ms=>⟨some (a8 s/\mn=x.names.length/\ms=x.shapes.length/\mn+ms<=90000),none,.tup [],[(900,.box (.agg [.int .i64 ((aJ x s).1).kind,.str ((aJ x s).1).pkg,.str ((aJ x s).1).name,.int .i64 ((aJ x s).1).n,.lst .str ((aJ x s).1).names (some 903),.nils,.lst (.st .shape) ((aJ x s).1).shapes (some 904),.nils,.int .i64 ((aJ x s).1).pos])),(901,.box (.ptr 905 0)),(902,.box (.fn 57 [.ptr 901 0,.ptr 900 0])),(903,.tail .str (aJ x s).1.names.length),(904,.tail (.st .shape) (aJ x s).1.shapes.length),(905,.box (.st .par (aJ x s).2))]⟩):=
 Mo (ee func61) (fun _ _ _ _=>rfl) (fun _ _ _ _=>by simp[aC]) fun x s mn ms zv zp ho=>by obtain⟨q1,en,es,ql⟩:=ho _ rfl;subst en;subst es;exact g0 (sc oe (sc ur sn)) a0 func61 (NZ x s q1 zv zp ql)
theorem O3:aA prog 64:=ee func64
theorem HB(n:Nat)(x:Trm)(s:Par)(hi:a8 s)(h0:s.err=0)(hn:rem s<=n)(hl:x.names.length+x.vars.length+x.shapes.length+x.parts.length<=90000)(hP:ab prog 56 (Ov n)):aB prog 64 [.ptr 900 0,.ptr 901 0,.ptr 902 0,.ptr 903 0] (sWay 57 56 x (.st .par s) x.names.length x.vars.length x.shapes.length x.parts.length) (⟨some (a8 s/\s.err=0/\rem s<=n/\x.names.length=x.names.length/\x.vars.length=x.vars.length/\x.shapes.length=x.shapes.length/\x.parts.length=x.parts.length/\x.names.length+x.vars.length+x.shapes.length+x.parts.length<=90000),none,.tup [],[(900,.box (.agg [.int .i64 ((ax (a7 n) x s).1).kind,.str ((ax (a7 n) x s).1).pkg,.str ((ax (a7 n) x s).1).name,.int .i64 ((ax (a7 n) x s).1).n,.lst .str ((ax (a7 n) x s).1).names (some 904),.lst .str ((ax (a7 n) x s).1).vars (some 905),.lst (.st .shape) ((ax (a7 n) x s).1).shapes (some 906),.lst (.st .term) ((ax (a7 n) x s).1).parts (some 907),.int .i64 ((ax (a7 n) x s).1).pos])),(901,.box (.ptr 908 0)),(902,.box (.fn 57 [.ptr 901 0,.ptr 900 0])),(903,.box (.fn 56 [.ptr 900 0,.ptr 901 0])),(904,.tail .str (ax (a7 n) x s).1.names.length),(905,.tail .str (ax (a7 n) x s).1.vars.length),(906,.tail (.st .shape) (ax (a7 n) x s).1.shapes.length),(907,.tail (.st .term) (ax (a7 n) x s).1.parts.length),(908,.box (.st .par (ax (a7 n) x s).2))]⟩):=
 g0 (sc oe (sc dL (sc lH (sc qd (sc (hP) sn))))) a0 func64 (O0 n x s hi h0 hn hl)
theorem MS(n:Nat)(hP:ab prog 56 (Ov n)):ab prog 64 (JL 57 56 fun x s mn mv ms mp=>⟨some (a8 s/\s.err=0/\rem s<=n/\mn=x.names.length/\mv=x.vars.length/\ms=x.shapes.length/\mp=x.parts.length/\mn+mv+ms+mp<=90000),none,.tup [],[(900,.box (.agg [.int .i64 ((ax (a7 n) x s).1).kind,.str ((ax (a7 n) x s).1).pkg,.str ((ax (a7 n) x s).1).name,.int .i64 ((ax (a7 n) x s).1).n,.lst .str ((ax (a7 n) x s).1).names (some 904),.lst .str ((ax (a7 n) x s).1).vars (some 905),.lst (.st .shape) ((ax (a7 n) x s).1).shapes (some 906),.lst (.st .term) ((ax (a7 n) x s).1).parts (some 907),.int .i64 ((ax (a7 n) x s).1).pos])),(901,.box (.ptr 908 0)),(902,.box (.fn 57 [.ptr 901 0,.ptr 900 0])),(903,.box (.fn 56 [.ptr 900 0,.ptr 901 0])),(904,.tail .str (ax (a7 n) x s).1.names.length),(905,.tail .str (ax (a7 n) x s).1.vars.length),(906,.tail (.st .shape) (ax (a7 n) x s).1.shapes.length),(907,.tail (.st .term) (ax (a7 n) x s).1.parts.length),(908,.box (.st .par (ax (a7 n) x s).2))]⟩):=
 Mp O3 (fun _ _ _ _ _ _=>rfl) (fun _ _ _ _ _ _=>by simp[aC]) fun x s mn mv ms mp _ ho=>by obtain⟨q1,q2,q3,en,ev,es,ep,ql⟩:=ho _ rfl;subst en;subst ev;subst es;subst ep;exact HB n x s q1 q2 q3 ql hP
theorem KP:aA prog 166:=ee func166
theorem Bg(n:Nat)(s:Par) (ho:a8 s/\rem (au [40] s)<n)(hT:ab prog 34 (Ou n)):aB prog 166 [.ptr 900 0] [(900,.box (.st .par s))] (⟨some (a8 s/\rem (au [40] s)<n),none,.lst (.st .term) (dR (a7 n) s).1 none,[(900,.box (.st .par ((dR (a7 n) s).2)))]⟩):=
 g0 (sc dL (sc (hT) sn)) a0 func166 (Ks n s ho)
theorem HC(n:Nat)(hT:ab prog 34 (Ou n)):ab prog 166 (pP0 fun s=>⟨some (a8 s/\rem (au [40] s)<n),none,.lst (.st .term) (dR (a7 n) s).1 none,[(900,.box (.st .par ((dR (a7 n) s).2)))]⟩):=
 kc KP (fun _=>rfl) (fun _=>by simp[aC]) fun s ho=>Bg n s (ho _ rfl) hT
theorem MT:aA prog 60:=ee func60
theorem DF(n:Nat)(k pp z:Int)(g q:Str)(b e:Str)(s:Par)(hi:a8 s)(hn:rem s<=n) :aB prog 60 [.ptr 900 0,.str b,.str e,.fn 61 [.ptr 901 0,.ptr 902 0,.ptr 903 0]] (Nx 61 57 (⟨k,g,q,z,[],[],[],[],pp⟩:Trm) (.st .par s)) (⟨some (a8 s/\rem s<=n),none,.tup [],[(900,.box (.st .par (ah b e (aJ) ⟨k,g,q,z,[],[],[],[],pp⟩ s).2)),(901,.box (.agg [.int .i64 ((ah b e (aJ) ⟨k,g,q,z,[],[],[],[],pp⟩ s).1).kind,.str ((ah b e (aJ) ⟨k,g,q,z,[],[],[],[],pp⟩ s).1).pkg,.str ((ah b e (aJ) ⟨k,g,q,z,[],[],[],[],pp⟩ s).1).name,.int .i64 ((ah b e (aJ) ⟨k,g,q,z,[],[],[],[],pp⟩ s).1).n,.lst .str ((ah b e (aJ) ⟨k,g,q,z,[],[],[],[],pp⟩ s).1).names (some 701),.nils,.lst (.st .shape) ((ah b e (aJ) ⟨k,g,q,z,[],[],[],[],pp⟩ s).1).shapes (some 702),.nils,.int .i64 ((ah b e (aJ) ⟨k,g,q,z,[],[],[],[],pp⟩ s).1).pos])),(902,.box (.ptr 900 0)),(903,.box (.fn 57 [.ptr 902 0,.ptr 901 0])),(701,.tail .str (ah b e (aJ) ⟨k,g,q,z,[],[],[],[],pp⟩ s).1.names.length),(702,.tail (.st .shape) (ah b e (aJ) ⟨k,g,q,z,[],[],[],[],pp⟩ s).1.shapes.length)]⟩):=
 g0 (sc gB (sc eJ (sc dL (sc (MR) sn)))) ⟨[(1,fun S0=>⟨Nat×Trm×Par,fun y=>a8 y.2.2/\rem y.2.2<y.1/\rem y.2.2<=n/\y.2.1.names.length+y.1<=5000/\y.2.1.shapes.length+y.1<=5000/\y.2.1.vars=[]/\y.2.1.parts=[]/\bD b e (aJ) y.1 y.2.1 y.2.2=(ah b e (aJ) ⟨k,g,q,z,[],[],[],[],pp⟩ s),fun _=>[],fun y=>[(900,.box (.st .par y.2.2)),(901,.box (.agg [.int .i64 (y.2.1).kind,.str (y.2.1).pkg,.str (y.2.1).name,.int .i64 (y.2.1).n,.lst .str (y.2.1).names (some 701),.nils,.lst (.st .shape) (y.2.1).shapes (some 702),.nils,.int .i64 (y.2.1).pos])),(701,.tail .str y.2.1.names.length),(702,.tail (.st .shape) y.2.1.shapes.length)],fun y=>y.1⟩)],[],[]⟩ func60 (MG n k pp z g q b e s hi hn)
theorem KQ(n:Nat) :ab prog 60 (FJ 61 57 fun x b e s=>⟨some (a8 s/\rem s<=n),none,.tup [],[(900,.box (.st .par (ah b e (aJ) x s).2)),(901,.box (.agg [.int .i64 ((ah b e (aJ) x s).1).kind,.str ((ah b e (aJ) x s).1).pkg,.str ((ah b e (aJ) x s).1).name,.int .i64 ((ah b e (aJ) x s).1).n,.lst .str ((ah b e (aJ) x s).1).names (some 701),.nils,.lst (.st .shape) ((ah b e (aJ) x s).1).shapes (some 702),.nils,.int .i64 ((ah b e (aJ) x s).1).pos])),(902,.box (.ptr 900 0)),(903,.box (.fn 57 [.ptr 902 0,.ptr 901 0])),(701,.tail .str (ah b e (aJ) x s).1.names.length),(702,.tail (.st .shape) (ah b e (aJ) x s).1.shapes.length)]⟩):=
 JM MT (fun _ _ _ _=>rfl) (fun _ _ _ _=>by simp[aC]) fun x b e s zn zv zs zp ho=>by obtain⟨k,g,q,z,ns,vs,ss,us,pp⟩:=x;simp only at zn zv zs zp;obtain⟨q1,q2⟩:=ho _ rfl;subst zn zv zs zp;exact DF n k pp z g q b e s q1 q2
theorem MU:aA prog 60:=ee func60
theorem DG(n:Nat)(k pp z:Int)(g q:Str)(us:List Trm)(b e:Str)(s:Par)(hi:a8 s)(hn:rem s<=n)(hu:us.length<=1)(hC:ab prog 64 (JL 57 56 fun x s mn mv ms mp=>⟨some (a8 s/\s.err=0/\rem s<=n/\mn=x.names.length/\mv=x.vars.length/\ms=x.shapes.length/\mp=x.parts.length/\mn+mv+ms+mp<=90000),none,.tup [],[(900,.box (.agg [.int .i64 ((ax (a7 n) x s).1).kind,.str ((ax (a7 n) x s).1).pkg,.str ((ax (a7 n) x s).1).name,.int .i64 ((ax (a7 n) x s).1).n,.lst .str ((ax (a7 n) x s).1).names (some 904),.lst .str ((ax (a7 n) x s).1).vars (some 905),.lst (.st .shape) ((ax (a7 n) x s).1).shapes (some 906),.lst (.st .term) ((ax (a7 n) x s).1).parts (some 907),.int .i64 ((ax (a7 n) x s).1).pos])),(901,.box (.ptr 908 0)),(902,.box (.fn 57 [.ptr 901 0,.ptr 900 0])),(903,.box (.fn 56 [.ptr 900 0,.ptr 901 0])),(904,.tail .str (ax (a7 n) x s).1.names.length),(905,.tail .str (ax (a7 n) x s).1.vars.length),(906,.tail (.st .shape) (ax (a7 n) x s).1.shapes.length),(907,.tail (.st .term) (ax (a7 n) x s).1.parts.length),(908,.box (.st .par (ax (a7 n) x s).2))]⟩)):aB prog 60 [.ptr 900 0,.str b,.str e,.fn 64 [.ptr 901 0,.ptr 902 0,.ptr 903 0,.ptr 904 0]] (Ny 64 57 56 (⟨k,g,q,z,[],[],[],us,pp⟩:Trm) (.st .par s) us.length) (⟨some (a8 s/\rem s<=n/\us.length=us.length/\us.length<=1),none,.tup [],[(900,.box (.st .par (ah b e (ax (a7 n)) ⟨k,g,q,z,[],[],[],us,pp⟩ s).2)),(901,.box (.agg [.int .i64 ((ah b e (ax (a7 n)) ⟨k,g,q,z,[],[],[],us,pp⟩ s).1).kind,.str ((ah b e (ax (a7 n)) ⟨k,g,q,z,[],[],[],us,pp⟩ s).1).pkg,.str ((ah b e (ax (a7 n)) ⟨k,g,q,z,[],[],[],us,pp⟩ s).1).name,.int .i64 ((ah b e (ax (a7 n)) ⟨k,g,q,z,[],[],[],us,pp⟩ s).1).n,.lst .str ((ah b e (ax (a7 n)) ⟨k,g,q,z,[],[],[],us,pp⟩ s).1).names (some 701),.lst .str ((ah b e (ax (a7 n)) ⟨k,g,q,z,[],[],[],us,pp⟩ s).1).vars (some 702),.lst (.st .shape) ((ah b e (ax (a7 n)) ⟨k,g,q,z,[],[],[],us,pp⟩ s).1).shapes (some 703),.lst (.st .term) ((ah b e (ax (a7 n)) ⟨k,g,q,z,[],[],[],us,pp⟩ s).1).parts (some 905),.int .i64 ((ah b e (ax (a7 n)) ⟨k,g,q,z,[],[],[],us,pp⟩ s).1).pos])),(902,.box (.ptr 900 0)),(903,.box (.fn 57 [.ptr 902 0,.ptr 901 0])),(904,.box (.fn 56 [.ptr 901 0,.ptr 902 0])),(701,.tail .str (ah b e (ax (a7 n)) ⟨k,g,q,z,[],[],[],us,pp⟩ s).1.names.length),(702,.tail .str (ah b e (ax (a7 n)) ⟨k,g,q,z,[],[],[],us,pp⟩ s).1.vars.length),(703,.tail (.st .shape) (ah b e (ax (a7 n)) ⟨k,g,q,z,[],[],[],us,pp⟩ s).1.shapes.length),(905,.tail (.st .term) (ah b e (ax (a7 n)) ⟨k,g,q,z,[],[],[],us,pp⟩ s).1.parts.length)]⟩):=
 g0 (sc gB (sc eJ (sc dL (sc (hC) sn)))) ⟨[(1,fun S0=>⟨Nat×Trm×Par,fun y=>a8 y.2.2/\rem y.2.2<y.1/\rem y.2.2<=n/\y.2.1.names.length+y.1<=5000/\y.2.1.vars.length+y.1<=5000/\y.2.1.shapes.length+y.1<=5000/\y.2.1.parts.length+y.1<=5000/\bD b e (ax (a7 n)) y.1 y.2.1 y.2.2=(ah b e (ax (a7 n)) ⟨k,g,q,z,[],[],[],us,pp⟩ s),fun _=>[],fun y=>[(900,.box (.st .par y.2.2)),(901,.box (.agg [.int .i64 (y.2.1).kind,.str (y.2.1).pkg,.str (y.2.1).name,.int .i64 (y.2.1).n,.lst .str (y.2.1).names (some 701),.lst .str (y.2.1).vars (some 702),.lst (.st .shape) (y.2.1).shapes (some 703),.lst (.st .term) (y.2.1).parts (some 905),.int .i64 (y.2.1).pos])),(701,.tail .str y.2.1.names.length),(702,.tail .str y.2.1.vars.length),(703,.tail (.st .shape) y.2.1.shapes.length),(905,.tail (.st .term) y.2.1.parts.length)],fun y=>y.1⟩)],[],[]⟩ func60 (MH n k pp z g q us b e s hi hn hu)
theorem KR(n:Nat)(hC:ab prog 64 (JL 57 56 fun x s mn mv ms mp=>⟨some (a8 s/\s.err=0/\rem s<=n/\mn=x.names.length/\mv=x.vars.length/\ms=x.shapes.length/\mp=x.parts.length/\mn+mv+ms+mp<=90000),none,.tup [],[(900,.box (.agg [.int .i64 ((ax (a7 n) x s).1).kind,.str ((ax (a7 n) x s).1).pkg,.str ((ax (a7 n) x s).1).name,.int .i64 ((ax (a7 n) x s).1).n,.lst .str ((ax (a7 n) x s).1).names (some 904),.lst .str ((ax (a7 n) x s).1).vars (some 905),.lst (.st .shape) ((ax (a7 n) x s).1).shapes (some 906),.lst (.st .term) ((ax (a7 n) x s).1).parts (some 907),.int .i64 ((ax (a7 n) x s).1).pos])),(901,.box (.ptr 908 0)),(902,.box (.fn 57 [.ptr 901 0,.ptr 900 0])),(903,.box (.fn 56 [.ptr 900 0,.ptr 901 0])),(904,.tail .str (ax (a7 n) x s).1.names.length),(905,.tail .str (ax (a7 n) x s).1.vars.length),(906,.tail (.st .shape) (ax (a7 n) x s).1.shapes.length),(907,.tail (.st .term) (ax (a7 n) x s).1.parts.length),(908,.box (.st .par (ax (a7 n) x s).2))]⟩)):ab prog 60 (FK 64 57 56 fun x b e s mp=>⟨some (a8 s/\rem s<=n/\mp=x.parts.length/\mp<=1),none,.tup [],[(900,.box (.st .par (ah b e (ax (a7 n)) x s).2)),(901,.box (.agg [.int .i64 ((ah b e (ax (a7 n)) x s).1).kind,.str ((ah b e (ax (a7 n)) x s).1).pkg,.str ((ah b e (ax (a7 n)) x s).1).name,.int .i64 ((ah b e (ax (a7 n)) x s).1).n,.lst .str ((ah b e (ax (a7 n)) x s).1).names (some 701),.lst .str ((ah b e (ax (a7 n)) x s).1).vars (some 702),.lst (.st .shape) ((ah b e (ax (a7 n)) x s).1).shapes (some 703),.lst (.st .term) ((ah b e (ax (a7 n)) x s).1).parts (some 905),.int .i64 ((ah b e (ax (a7 n)) x s).1).pos])),(902,.box (.ptr 900 0)),(903,.box (.fn 57 [.ptr 902 0,.ptr 901 0])),(904,.box (.fn 56 [.ptr 901 0,.ptr 902 0])),(701,.tail .str (ah b e (ax (a7 n)) x s).1.names.length),(702,.tail .str (ah b e (ax (a7 n)) x s).1.vars.length),(703,.tail (.st .shape) (ah b e (ax (a7 n)) x s).1.shapes.length),(905,.tail (.st .term) (ah b e (ax (a7 n)) x s).1.parts.length)]⟩):=
 JN MU (fun _ _ _ _ _=>rfl) (fun _ _ _ _ _=>by simp[aC]) fun x b e s mp zn zv zs ho=>by obtain⟨k,g,q,z,ns,vs,ss,us,pp⟩:=x;simp only at zn zv zs;obtain⟨q1,q2,e1,ql⟩:=ho _ rfl;subst zn zv zs e1;exact DG n k pp z g q us b e s q1 q2 ql hC
theorem KS:aA prog 60:=ee func60
theorem Bh(n:Nat)(k pp z:Int)(g q:Str)(b e:Str)(s:Par)(hi:a8 s)(hn:rem s<n)(hC:ab prog 56 (Ot n)):aB prog 60 [.ptr 900 0,.str b,.str e,.fn 56 [.ptr 901 0,.ptr 902 0]] (JO 56 (⟨k,g,q,z,[],[],[],[],pp⟩:Trm) (.st .par s)) (⟨some (a8 s/\rem s<n),none,.tup [],[(900,.box (.st .par (ah b e (aF (a7 n)) ⟨k,g,q,z,[],[],[],[],pp⟩ s).2)),(901,.box (.agg [.int .i64 ((ah b e (aF (a7 n)) ⟨k,g,q,z,[],[],[],[],pp⟩ s).1).kind,.str ((ah b e (aF (a7 n)) ⟨k,g,q,z,[],[],[],[],pp⟩ s).1).pkg,.str ((ah b e (aF (a7 n)) ⟨k,g,q,z,[],[],[],[],pp⟩ s).1).name,.int .i64 ((ah b e (aF (a7 n)) ⟨k,g,q,z,[],[],[],[],pp⟩ s).1).n,.nils,.nils,.nils,.lst (.st .term) ((ah b e (aF (a7 n)) ⟨k,g,q,z,[],[],[],[],pp⟩ s).1).parts (some 701),.int .i64 ((ah b e (aF (a7 n)) ⟨k,g,q,z,[],[],[],[],pp⟩ s).1).pos])),(902,.box (.ptr 900 0)),(701,.tail (.st .term) (ah b e (aF (a7 n)) ⟨k,g,q,z,[],[],[],[],pp⟩ s).1.parts.length)]⟩):=
 g0 (sc gB (sc eJ (sc dL (sc (hC) sn)))) ⟨[(1,fun S0=>⟨Nat×Trm×Par,fun y=>a8 y.2.2/\rem y.2.2<y.1/\rem y.2.2<n/\y.2.1.parts.length+y.1<=5000/\y.2.1.names=[]/\y.2.1.vars=[]/\y.2.1.shapes=[]/\bD b e (aF (a7 n)) y.1 y.2.1 y.2.2=(ah b e (aF (a7 n)) ⟨k,g,q,z,[],[],[],[],pp⟩ s),fun _=>[],fun y=>[(900,.box (.st .par y.2.2)),(901,.box (.agg [.int .i64 (y.2.1).kind,.str (y.2.1).pkg,.str (y.2.1).name,.int .i64 (y.2.1).n,.nils,.nils,.nils,.lst (.st .term) (y.2.1).parts (some 701),.int .i64 (y.2.1).pos])),(701,.tail (.st .term) y.2.1.parts.length)],fun y=>y.1⟩)],[],[]⟩ func60 (Kt n k pp z g q b e s hi hn)
def OF(n:Nat):=tM 56 fun x b e s=>⟨some (a8 s/\rem s<n),none,.tup [],[(900,.box (.st .par (ah b e (aF (a7 n)) x s).2)),(901,.box (.agg [.int .i64 ((ah b e (aF (a7 n)) x s).1).kind,.str ((ah b e (aF (a7 n)) x s).1).pkg,.str ((ah b e (aF (a7 n)) x s).1).name,.int .i64 ((ah b e (aF (a7 n)) x s).1).n,.nils,.nils,.nils,.lst (.st .term) ((ah b e (aF (a7 n)) x s).1).parts (some 701),.int .i64 ((ah b e (aF (a7 n)) x s).1).pos])),(902,.box (.ptr 900 0)),(701,.tail (.st .term) (ah b e (aF (a7 n)) x s).1.parts.length)]⟩
theorem HD(n:Nat)(hC:ab prog 56 (Ot n)):ab prog 60 (OF n):=
 Am KS (fun _ _ _ _=>rfl) (fun _ _ _ _=>by simp[aC]) fun x b e s zn zv zs zp ho=>by obtain⟨k,g,q,z,ns,vs,ss,us,pp⟩:=x;simp only at zn zv zs zp;obtain⟨q1,q2⟩:=ho _ rfl;subst zn zv zs zp;exact Bh n k pp z g q b e s q1 q2 hC
theorem HE:aA prog 60:=ee func60
theorem yy(n:Nat)(k pp z:Int)(g q:Str)(b e:Str)(s:Par)(hi:a8 s)(hn:rem s<=n)(hC:ab prog 165 (Ox n)):aB prog 60 [.ptr 900 0,.str b,.str e,.fn 165 [.ptr 901 0,.ptr 902 0]] (JO 165 (⟨k,g,q,z,[],[],[],[],pp⟩:Trm) (.st .par s)) (⟨some (a8 s/\rem s<=n),none,.tup [],[(900,.box (.st .par (ah b e (aq (a7 n)) ⟨k,g,q,z,[],[],[],[],pp⟩ s).2)),(901,.box (.agg [.int .i64 ((ah b e (aq (a7 n)) ⟨k,g,q,z,[],[],[],[],pp⟩ s).1).kind,.str ((ah b e (aq (a7 n)) ⟨k,g,q,z,[],[],[],[],pp⟩ s).1).pkg,.str ((ah b e (aq (a7 n)) ⟨k,g,q,z,[],[],[],[],pp⟩ s).1).name,.int .i64 ((ah b e (aq (a7 n)) ⟨k,g,q,z,[],[],[],[],pp⟩ s).1).n,.lst .str ((ah b e (aq (a7 n)) ⟨k,g,q,z,[],[],[],[],pp⟩ s).1).names (some 701),.nils,.nils,.lst (.st .term) ((ah b e (aq (a7 n)) ⟨k,g,q,z,[],[],[],[],pp⟩ s).1).parts (some 702),.int .i64 ((ah b e (aq (a7 n)) ⟨k,g,q,z,[],[],[],[],pp⟩ s).1).pos])),(902,.box (.ptr 900 0)),(701,.tail .str (ah b e (aq (a7 n)) ⟨k,g,q,z,[],[],[],[],pp⟩ s).1.names.length),(702,.tail (.st .term) (ah b e (aq (a7 n)) ⟨k,g,q,z,[],[],[],[],pp⟩ s).1.parts.length)]⟩):=
 g0 (sc gB (sc eJ (sc dL (sc (hC) sn)))) ⟨[(1,fun S0=>⟨Nat×Trm×Par,fun y=>a8 y.2.2/\rem y.2.2<y.1/\rem y.2.2<=n/\y.2.1.names.length+y.1<=5000/\y.2.1.parts.length+y.1<=5000/\y.2.1.vars=[]/\y.2.1.shapes=[]/\bD b e (aq (a7 n)) y.1 y.2.1 y.2.2=(ah b e (aq (a7 n)) ⟨k,g,q,z,[],[],[],[],pp⟩ s),fun _=>[],fun y=>[(900,.box (.st .par y.2.2)),(901,.box (.agg [.int .i64 (y.2.1).kind,.str (y.2.1).pkg,.str (y.2.1).name,.int .i64 (y.2.1).n,.lst .str (y.2.1).names (some 701),.nils,.nils,.lst (.st .term) (y.2.1).parts (some 702),.int .i64 (y.2.1).pos])),(701,.tail .str y.2.1.names.length),(702,.tail (.st .term) y.2.1.parts.length)],fun y=>y.1⟩)],[],[]⟩ func60 (H5 n k pp z g q b e s hi hn)
def Ow(n:Nat):=tM 165 fun x b e s=>⟨some (a8 s/\rem s<=n),none,.tup [],[(900,.box (.st .par (ah b e (aq (a7 n)) x s).2)),(901,.box (.agg [.int .i64 ((ah b e (aq (a7 n)) x s).1).kind,.str ((ah b e (aq (a7 n)) x s).1).pkg,.str ((ah b e (aq (a7 n)) x s).1).name,.int .i64 ((ah b e (aq (a7 n)) x s).1).n,.lst .str ((ah b e (aq (a7 n)) x s).1).names (some 701),.nils,.nils,.lst (.st .term) ((ah b e (aq (a7 n)) x s).1).parts (some 702),.int .i64 ((ah b e (aq (a7 n)) x s).1).pos])),(902,.box (.ptr 900 0)),(701,.tail .str (ah b e (aq (a7 n)) x s).1.names.length),(702,.tail (.st .term) (ah b e (aq (a7 n)) x s).1.parts.length)]⟩
theorem DH(n:Nat)(hC:ab prog 165 (Ox n)):ab prog 60 (Ow n):=
 Am HE (fun _ _ _ _=>rfl) (fun _ _ _ _=>by simp[aC]) fun x b e s zn zv zs zp ho=>by obtain⟨k,g,q,z,ns,vs,ss,us,pp⟩:=x;simp only at zn zv zs zp;obtain⟨q1,q2⟩:=ho _ rfl;subst zn zv zs zp;exact yy n k pp z g q b e s q1 q2 hC
theorem KT:aA prog 60:=ee func60
theorem Bi(n:Nat)(k pp z:Int)(g q:Str)(us:List Trm)(b e:Str)(s:Par)(hi:a8 s)(hn:rem s<n)(hu:us.length<=1)(hC:ab prog 118 (Ot n)):aB prog 60 [.ptr 900 0,.str b,.str e,.fn 118 [.ptr 901 0,.ptr 902 0]] (JP 118 (⟨k,g,q,z,[],[],[],us,pp⟩:Trm) (.st .par s) us.length) (⟨some (a8 s/\rem s<n/\us.length=us.length/\us.length<=1),none,.tup [],[(900,.box (.st .par (ah b e (aF (a7 n)) ⟨k,g,q,z,[],[],[],us,pp⟩ s).2)),(901,.box (.agg [.int .i64 ((ah b e (aF (a7 n)) ⟨k,g,q,z,[],[],[],us,pp⟩ s).1).kind,.str ((ah b e (aF (a7 n)) ⟨k,g,q,z,[],[],[],us,pp⟩ s).1).pkg,.str ((ah b e (aF (a7 n)) ⟨k,g,q,z,[],[],[],us,pp⟩ s).1).name,.int .i64 ((ah b e (aF (a7 n)) ⟨k,g,q,z,[],[],[],us,pp⟩ s).1).n,.nils,.nils,.nils,.lst (.st .term) ((ah b e (aF (a7 n)) ⟨k,g,q,z,[],[],[],us,pp⟩ s).1).parts (some 903),.int .i64 ((ah b e (aF (a7 n)) ⟨k,g,q,z,[],[],[],us,pp⟩ s).1).pos])),(902,.box (.ptr 900 0)),(903,.tail (.st .term) (ah b e (aF (a7 n)) ⟨k,g,q,z,[],[],[],us,pp⟩ s).1.parts.length)]⟩):=
 g0 (sc gB (sc eJ (sc dL (sc (hC) sn)))) ⟨[(1,fun S0=>⟨Nat×Trm×Par,fun y=>a8 y.2.2/\rem y.2.2<y.1/\rem y.2.2<n/\y.2.1.parts.length+y.1<=5000/\y.2.1.names=[]/\y.2.1.vars=[]/\y.2.1.shapes=[]/\bD b e (aF (a7 n)) y.1 y.2.1 y.2.2=(ah b e (aF (a7 n)) ⟨k,g,q,z,[],[],[],us,pp⟩ s),fun _=>[],fun y=>[(900,.box (.st .par y.2.2)),(901,.box (.agg [.int .i64 (y.2.1).kind,.str (y.2.1).pkg,.str (y.2.1).name,.int .i64 (y.2.1).n,.nils,.nils,.nils,.lst (.st .term) (y.2.1).parts (some 903),.int .i64 (y.2.1).pos])),(903,.tail (.st .term) y.2.1.parts.length)],fun y=>y.1⟩)],[],[]⟩ func60 (Ku n k pp z g q us b e s hi hn hu)
def Oy(n:Nat):=tN 118 fun x b e s mp=>⟨some (a8 s/\rem s<n/\mp=x.parts.length/\mp<=1),none,.tup [],[(900,.box (.st .par (ah b e (aF (a7 n)) x s).2)),(901,.box (.agg [.int .i64 ((ah b e (aF (a7 n)) x s).1).kind,.str ((ah b e (aF (a7 n)) x s).1).pkg,.str ((ah b e (aF (a7 n)) x s).1).name,.int .i64 ((ah b e (aF (a7 n)) x s).1).n,.nils,.nils,.nils,.lst (.st .term) ((ah b e (aF (a7 n)) x s).1).parts (some 903),.int .i64 ((ah b e (aF (a7 n)) x s).1).pos])),(902,.box (.ptr 900 0)),(903,.tail (.st .term) (ah b e (aF (a7 n)) x s).1.parts.length)]⟩
theorem HF(n:Nat)(hC:ab prog 118 (Ot n)):ab prog 60 (Oy n):=
 GI KT (fun _ _ _ _ _=>rfl) (fun _ _ _ _ _=>by simp[aC]) fun x b e s mp zn zv zs ho=>by obtain⟨k,g,q,z,ns,vs,ss,us,pp⟩:=x;simp only at zn zv zs;obtain⟨q1,q2,e1,ql⟩:=ho _ rfl;subst zn zv zs e1;exact Bi n k pp z g q us b e s q1 q2 ql hC
theorem MV:aA prog 65:=ee func65
def OL(n:Nat):=pP0 fun s=>⟨some (a8 s/\rem s<n+1),none,.st .term (er (a7 n) s).1,[(900,.box (.st .par (er (a7 n) s).2))]⟩
theorem DI(n:Nat)(s:Par) (ho:a8 s/\rem s<n+1)(hA:ab prog 117 (OL n))(hL:ab prog 60 (Oy n)):aB prog 65 [.ptr 900 0] [(900,.box (.st .par s))] (⟨some (a8 s/\rem s<n+1),none,.st .term (gr (a7 n) s).1,[(900,.box (.st .par ((gr (a7 n) s).2)))]⟩):=
 g0 (sc iq (sc (hA) (sc eJ (sc gB (sc lH (sc (hL) sn)))))) ⟨[(3,fun S0=>⟨Nat×Trm×Par,fun y=>a8 y.2.2/\rem y.2.2<y.1/\rem y.2.2<n+1/\gP (a7 n) (aH s).pos y.1 y.2.1 y.2.2=gr (a7 n) s,fun _=>[],fun y=>[(900,.box (.st .par y.2.2)),(4,.box (.st .term y.2.1))],fun y=>y.1⟩)],[],[]⟩ func65 (MI n s ho)
theorem KU(n:Nat)(hA:ab prog 117 (OL n))(hL:ab prog 60 (Oy n)):ab prog 65 (pP0 fun s=>⟨some (a8 s/\rem s<n+1),none,.st .term (gr (a7 n) s).1,[(900,.box (.st .par ((gr (a7 n) s).2)))]⟩):=
 kc MV (fun _=>rfl) (fun _=>by simp[aC]) fun s ho=>DI n s (ho _ rfl) hA hL
theorem MW:aA prog 117:=ee func117
def OI(n:Nat):=pP0 fun s=>⟨some (a8 s/\rem (au [40] s)<n),none,.lst (.st .term) (dR (a7 n) s).1 none,[(900,.box (.st .par (dR (a7 n) s).2))]⟩
theorem DJ(n:Nat)(s:Par) (ho:a8 s/\rem s<n+1)(hT:ab prog 34 (Ou n))(hL:ab prog 60 (Ow n))(hI:ab prog 166 (OI n)):aB prog 117 [.ptr 900 0] [(900,.box (.st .par s))] (⟨some (a8 s/\rem s<n+1),none,.st .term (er (a7 n) s).1,[(900,.box (.st .par ((er (a7 n) s).2)))]⟩):=
 g0 (sc iq (sc eJ (sc (AB) (sc gB (sc lH (sc dL (sc lI (sc jg (sc (hT) (sc (hL) (sc (hI) sn))))))))))) a0 func117 (MJ n s ho)
theorem KV(n:Nat)(hT:ab prog 34 (Ou n))(hL:ab prog 60 (Ow n))(hI:ab prog 166 (OI n)):ab prog 117 (pP0 fun s=>⟨some (a8 s/\rem s<n+1),none,.st .term (er (a7 n) s).1,[(900,.box (.st .par ((er (a7 n) s).2)))]⟩):=
 kc MW (fun _=>rfl) (fun _=>by simp[aC]) fun s ho=>DJ n s (ho _ rfl) hT hL hI
theorem FQ:aA prog 34:=ee func34
theorem DK(n:Nat)(s:Par) (ho:a8 s/\rem s<n+1)(hPo:ab prog 56 (OG n))(hPp:ab prog 56 (Ot n))(hPns:ab prog 56 (OD n))(hF:ab prog 60 (FJ 61 57 fun x b e s=>⟨some (a8 s/\rem s<=n),none,.tup [],[(900,.box (.st .par (ah b e (aJ) x s).2)),(901,.box (.agg [.int .i64 ((ah b e (aJ) x s).1).kind,.str ((ah b e (aJ) x s).1).pkg,.str ((ah b e (aJ) x s).1).name,.int .i64 ((ah b e (aJ) x s).1).n,.lst .str ((ah b e (aJ) x s).1).names (some 701),.nils,.lst (.st .shape) ((ah b e (aJ) x s).1).shapes (some 702),.nils,.int .i64 ((ah b e (aJ) x s).1).pos])),(902,.box (.ptr 900 0)),(903,.box (.fn 57 [.ptr 902 0,.ptr 901 0])),(701,.tail .str (ah b e (aJ) x s).1.names.length),(702,.tail (.st .shape) (ah b e (aJ) x s).1.shapes.length)]⟩))(hW:ab prog 60 (FK 64 57 56 fun x b e s mp=>⟨some (a8 s/\rem s<=n/\mp=x.parts.length/\mp<=1),none,.tup [],[(900,.box (.st .par (ah b e (ax (a7 n)) x s).2)),(901,.box (.agg [.int .i64 ((ah b e (ax (a7 n)) x s).1).kind,.str ((ah b e (ax (a7 n)) x s).1).pkg,.str ((ah b e (ax (a7 n)) x s).1).name,.int .i64 ((ah b e (ax (a7 n)) x s).1).n,.lst .str ((ah b e (ax (a7 n)) x s).1).names (some 701),.lst .str ((ah b e (ax (a7 n)) x s).1).vars (some 702),.lst (.st .shape) ((ah b e (ax (a7 n)) x s).1).shapes (some 703),.lst (.st .term) ((ah b e (ax (a7 n)) x s).1).parts (some 905),.int .i64 ((ah b e (ax (a7 n)) x s).1).pos])),(902,.box (.ptr 900 0)),(903,.box (.fn 57 [.ptr 902 0,.ptr 901 0])),(904,.box (.fn 56 [.ptr 901 0,.ptr 902 0])),(701,.tail .str (ah b e (ax (a7 n)) x s).1.names.length),(702,.tail .str (ah b e (ax (a7 n)) x s).1.vars.length),(703,.tail (.st .shape) (ah b e (ax (a7 n)) x s).1.shapes.length),(905,.tail (.st .term) (ah b e (ax (a7 n)) x s).1.parts.length)]⟩))(hE:ab prog 60 (OF n))(hO:ab prog 65 (pP0 fun s=>⟨some (a8 s/\rem s<n+1),none,.st .term (gr (a7 n) s).1,[(900,.box (.st .par (gr (a7 n) s).2))]⟩)):aB prog 34 [.ptr 900 0] [(900,.box (.st .par s))] (⟨some (a8 s/\rem s<n+1),none,.st .term (a7 (n+1) s).1,[(900,.box (.st .par ((a7 (n+1) s).2)))]⟩):=
 g0 (sc iq (sc gB (sc dL (sc lH (sc Hz (sc qd (sc ur (sc (hPo) (sc (hPp) (sc (hPns) (sc (hF) (sc (hW) (sc (hE) (sc (hO) sn)))))))))))))) a0 func34 (MK n s ho)
theorem Bj:∀n:Nat,ab prog 34 (Ou n)
 |0=>kc FQ (fun _=>rfl) (fun _=>by simp[aC]) fun s ho=>absurd (ho _ rfl).2 (Qq _)
 |n+1=>by
  have hT:=Bj n
  exact kc FQ (fun _=>rfl) (fun _=>by simp[aC]) fun s ho=>
   DK n s (ho _ rfl) (DC n hT) (uo n hT) (Be n hT) (KQ n) (KR n (MS n (vL n hT))) (HD n (uo n hT))
    (KU n (KV n hT (DH n (HA n hT)) (HC n hT)) (HF n (DE n hT)))
theorem wN:ab prog 28 (p2 (.lst (.st .token)) (.int .i64) fun l a=>⟨none,none,.ptr 10 0,[(10,.box (.st .par (bH l a)))]⟩):=
 dy (ee func28) fun l a hl _ _=>g0 (sc jg sn) a0 func28 (Kv l a hl)
theorem uu:ab prog 42 (p2 (.lst (.st .token)) (.int .i64) fun l a=>⟨some (0<=a/\a<(l.length:Int)),none,.st .fault (cC l a),[]⟩):=
 dy (ee func42) fun l a hl _ ho=>g0 sn a0 func42 (H6 l a hl (ho _ rfl))
theorem KW:ab prog 12 (p2 (.lst (.st .token)) (.int .i64) fun l a=>⟨some (aO l),none,.tup [.st .shape (eV l a).1,.int .i64 (eV l a).2.1,.st .fault (eV l a).2.2],[]⟩):=
 dy (ee func12) fun l a _ _ ho=>g0 (sc wN (sc eJ (sc lI sn))) a0 func12 (ML l a (ho _ rfl))
theorem wO:aA prog 66:=ee func66
theorem yA(n:Nat)(t:Trm)(m:Int)(hs:Wf (.st .term) t)(hz:szT t<=n+1)(h0:0<=m)(h1:m<=1000000)(hA:ab prog 66 (p2 (.st .term) (.int .i64) fun t m=>⟨some (szT t<=n/\0<=m/\m<=1000000),none,.tup [.int .i64 (countT t m).1,.int .i64 (countT t m).2],[]⟩)):aB prog 66 [.st .term t,.int .i64 m] [] (⟨some (szT t<=n+1/\0<=m/\m<=1000000),none,.tup [.int .i64 (countT t m).1,.int .i64 (countT t m).2],[]⟩):=
 g0 (sc (hA) sn) ⟨[(3,fun S0=>⟨Nat×Int×Int,fun y=>y.1<=t.parts.length/\1<=y.2.1/\y.2.1<=m+1/\0<=y.2.2/\y.2.2+1<=y.2.1/\countL (t.parts.drop y.1) m y.2.1 y.2.2=countL t.parts m 1 0,fun y=>[(6,.int .i64 y.2.1),(7,.int .i64 y.2.2),(15,.int .i64 y.1)],fun _=>[],fun y=>t.parts.length-y.1⟩)],[],[]⟩ func66 (H7 n t m hs hz h0 h1)
theorem uv:∀n:Nat,ab prog 66 (p2 (.st .term) (.int .i64) fun t m=>⟨some (szT t<=n/\0<=m/\m<=1000000),none,.tup [.int .i64 (countT t m).1,.int .i64 (countT t m).2],[]⟩)
 |0=>dy wO fun t m hs _ ho=>absurd (ho _ rfl).1 (by have:=kC t;omega)
 |n+1=>dy wO fun t m hs _ ho=>yA n t m hs (ho _ rfl).1 (ho _ rfl).2.1 (ho _ rfl).2.2 (uv n)
theorem Bk:ab prog 214 (pcl .str 130 fun x=>⟨none,none,.bool (!aX x),[]⟩):=
 yh (ee func214) fun x _ ho=>g0 (sc nE sn) a0 func214 (Dp x)
theorem Bl:ab prog 244 (pfc (.lst .str) 214 130 fun l=>⟨none,none,.int .i64 (di aX l 0),[]⟩):=
 nu (ee func244) fun l hl ho=>g0 (sc Bk sn) ⟨[(2,fun S0=>⟨Nat,fun k=>k<=l.length/\di aX (l.drop k) k=di aX l 0,fun k=>[(8,.int .i64 k)],fun _=>[],fun k=>l.length-k⟩)],[],[]⟩ func244 (Dq l hl)
theorem Bm:ab prog 213 (pfc (.lst .str) 214 130 fun l=>⟨none,none,.bool (!l.all aX),[]⟩):=
 nu (ee func213) fun l _ ho=>g0 (sc Bl sn) a0 func213 (Dr l)
theorem wP:ab prog 172 (pf (.lst .str) 130 fun l=>⟨none,none,.bool (l.all aX),[]⟩):=
 rO (ee func172) fun l _ ho=>g0 (sc Bm sn) a0 func172 (Kw l)
theorem HG:ab prog 171 (p1 (.lst .str) fun l=>⟨some (l.length *16<=140737488355328),none,.bool (l.all aX&&decide l.Nodup),[]⟩):=
 ba (ee func171) fun l _ ho=>g0 (sc uj (sc (tZ) (sc wP (sc (rU) sn)))) a0 func171 (Kx l (ho _ rfl))
theorem DL:aA prog 210:=ee func210
theorem vM(n:Nat)(x:Shape) (ho:sz x<=n)(hA:ab prog 211 (p1 (.st .shape) fun s=>⟨some (sz s<=n),none,.bool (allS bp s),[]⟩)):aB prog 210 [.st .shape x,.ptr 900 0] [(900,.box (.fn 211 []))] (⟨some (sz x<=n),none,.bool (!(allS bp) x),[]⟩):=
 g0 (sc (hA) sn) a0 func210 (Ds n x ho)
theorem Bn(n:Nat)(hA:ab prog 211 (p1 (.st .shape) fun s=>⟨some (sz s<=n),none,.bool (allS bp s),[]⟩)):ab prog 210 (pcl (.st .shape) 211 fun x=>⟨some (sz x<=n),none,.bool (!(allS bp) x),[]⟩):=
 yh DL fun x _ ho=>vM n x (ho _ rfl) hA
theorem DM:aA prog 242:=ee func242
theorem vN(n:Nat)(l:List AL.Shape) (hl:Wf (.lst (.st .shape)) l)(ho:∀x∈l,sz x<=n)(hA:ab prog 211 (p1 (.st .shape) fun s=>⟨some (sz s<=n),none,.bool (allS bp s),[]⟩)):aB prog 242 [.lst (.st .shape) l none,.fn 210 [.ptr 900 0]] [(900,.box (.fn 211 []))] (⟨some (∀x∈l,sz x<=n),none,.int .i64 (di (allS bp) l 0),[]⟩):=
 g0 (sc ((Bn n hA)) sn) ⟨[(2,fun S0=>⟨Nat,fun k=>k<=l.length/\di (allS bp) (l.drop k) k=di (allS bp) l 0,fun k=>[(8,.int .i64 k)],fun _=>[],fun k=>l.length-k⟩)],[],[]⟩ func242 (Dt n l hl ho)
theorem Bp(n:Nat)(hA:ab prog 211 (p1 (.st .shape) fun s=>⟨some (sz s<=n),none,.bool (allS bp s),[]⟩)):ab prog 242 (pfc (.lst (.st .shape)) 210 211 fun l=>⟨some (∀x∈l,sz x<=n),none,.int .i64 (di (allS bp) l 0),[]⟩):=
 nu DM fun l hl ho=>vN n l hl (ho _ rfl) hA
theorem DN:aA prog 209:=ee func209
theorem vO(n:Nat)(l:List AL.Shape) (ho:∀x∈l,sz x<=n)(hA:ab prog 211 (p1 (.st .shape) fun s=>⟨some (sz s<=n),none,.bool (allS bp s),[]⟩)):aB prog 209 [.lst (.st .shape) l none,.fn 210 [.ptr 900 0]] [(900,.box (.fn 211 []))] (⟨some (∀x∈l,sz x<=n),none,.bool (!l.all (allS bp)),[]⟩):=
 g0 (sc ((Bp n hA)) sn) a0 func209 (Du n l ho)
theorem Bq(n:Nat)(hA:ab prog 211 (p1 (.st .shape) fun s=>⟨some (sz s<=n),none,.bool (allS bp s),[]⟩)):ab prog 209 (pfc (.lst (.st .shape)) 210 211 fun l=>⟨some (∀x∈l,sz x<=n),none,.bool (!l.all (allS bp)),[]⟩):=
 nu DN fun l _ ho=>vO n l (ho _ rfl) hA
theorem KX:aA prog 168:=ee func168
theorem Br(n:Nat)(l:List AL.Shape) (ho:∀x∈l,sz x<=n)(hA:ab prog 211 (p1 (.st .shape) fun s=>⟨some (sz s<=n),none,.bool (allS bp s),[]⟩)):aB prog 168 [.lst (.st .shape) l none,.fn 211 []] [] (⟨some (∀x∈l,sz x<=n),none,.bool (l.all (allS bp)),[]⟩):=
 g0 (sc ((Bq n hA)) sn) a0 func168 (Ky n l ho)
theorem HH(n:Nat)(hA:ab prog 211 (p1 (.st .shape) fun s=>⟨some (sz s<=n),none,.bool (allS bp s),[]⟩)):ab prog 168 (pf (.lst (.st .shape)) 211 fun l=>⟨some (∀x∈l,sz x<=n),none,.bool (l.all (allS bp)),[]⟩):=
 rO KX fun l _ ho=>Br n l (ho _ rfl) hA
theorem FR:aA prog 211:=ee func211
theorem DO(n:Nat)(s:AL.Shape)(ho:sz s<=n+1)(hE:ab prog 168 (pf (.lst (.st .shape)) 211 fun l=>⟨some (∀x∈l,sz x<=n),none,.bool (l.all (allS bp)),[]⟩)):aB prog 211 [.st .shape s] [] (⟨some (sz s<=n+1),none,.bool (allS bp s),[]⟩):=
 g0 (sc (hE) sn) a0 func211 (MM n s ho)
theorem Bt:∀n:Nat,ab prog 211 (p1 (.st .shape) fun s=>⟨some (sz s<=n),none,.bool (allS bp s),[]⟩)
 |0=>ba FR fun s _ ho=>absurd (ho _ rfl) (by have:=jZ s;omega)
 |n+1=>ba FR fun s _ ho=>DO n s (ho _ rfl) (HH n (Bt n))
theorem DP:ab prog 169 (p1 (.st .shape) fun s=>.ret (.bool (decide (bG s=0)&&allS bp s))):=
 ba (ee func169) fun s _ _=>g0 (sc wM (sc (Bt 400) sn)) a0 func169 (H8 s)
theorem MX:ab prog 167 (p1 (.st .term) fun t=>.ret (.agg [.int .i64 (t.names.length:Int),.int .i64 (t.vars.length:Int),.int .i64 (t.shapes.length:Int),.int .i64 (t.parts.length:Int)])):=
 ba (ee func167) fun t _ _=>g0 sn a0 func167 (O1 t)
theorem HI:ab prog 170 (p1 .str fun s=>.ret (.bool (kE s))):=
 ba (ee func170) fun s hs _=>g0 (sc (GP) sn) ⟨[(2,fun S0=>⟨Nat,fun k=>k<=s.length/\(s.all eI)=(s.drop k).all eI,fun k=>[(8,.int .i64 k)],fun _=>[],fun k=>s.length-k⟩)],[],[]⟩ func170 (Kz s hs)
theorem yB:ab prog 210 (pcl (.st .shape) 169 fun x=>⟨none,none,.bool (!cn x),[]⟩):=
 yh (ee func210) fun x _ ho=>g0 (sc DP sn) a0 func210 (AK x)
theorem yC:ab prog 242 (pfc (.lst (.st .shape)) 210 169 fun l=>⟨none,none,.int .i64 (di cn l 0),[]⟩):=
 nu (ee func242) fun l hl ho=>g0 (sc yB sn) ⟨[(2,fun S0=>⟨Nat,fun k=>k<=l.length/\di cn (l.drop k) k=di cn l 0,fun k=>[(8,.int .i64 k)],fun _=>[],fun k=>l.length-k⟩)],[],[]⟩ func242 (AM l hl)
theorem yD:ab prog 209 (pfc (.lst (.st .shape)) 210 169 fun l=>⟨none,none,.bool (!l.all cn),[]⟩):=
 nu (ee func209) fun l _ ho=>g0 (sc yC sn) a0 func209 (AN l)
theorem DQ:ab prog 168 (pf (.lst (.st .shape)) 169 fun l=>⟨none,none,.bool (l.all cn),[]⟩):=
 rO (ee func168) fun l _ ho=>g0 (sc yD sn) a0 func168 (H9 l)
theorem HJ:ab prog 119 (p1 (.st .term) fun t=>⟨some (t.names.length<=1000000),none,.bool (aS t),[]⟩):=
 ba (ee func119) fun t ht ho=>g0 (sc MX (sc DQ (sc HI (sc nE (sc HG (sc wP (sc qY sn))))))) ⟨[],[],[(2,fun S0=>⟨[(34,.bool (!kF t))],[]⟩)]⟩ func119 (KA t ht (ho _ rfl))
theorem Bu:aA prog 100:=ee func100
theorem uw(n:Nat)(x:Trm) (ho:szT x<=n/\dD x=true)(hA:ab prog 67 (p1 (.st .term) fun t=>⟨some (szT t<=n/\dD t=true),none,.bool (allT aS t),[]⟩)):aB prog 100 [.st .term x,.ptr 900 0] [(900,.box (.fn 67 []))] (⟨some (szT x<=n/\dD x=true),none,.bool (!(allT aS) x),[]⟩):=
 g0 (sc (hA) sn) a0 func100 (AO n x ho)
theorem yE(n:Nat)(hA:ab prog 67 (p1 (.st .term) fun t=>⟨some (szT t<=n/\dD t=true),none,.bool (allT aS t),[]⟩)):ab prog 100 (pcl (.st .term) 67 fun x=>⟨some (szT x<=n/\dD x=true),none,.bool (!(allT aS) x),[]⟩):=
 yh Bu fun x _ ho=>uw n x (ho _ rfl) hA
theorem Bv:aA prog 161:=ee func161
theorem uA(n:Nat)(l:List Trm) (hl:Wf (.lst (.st .term)) l)(ho:∀x∈l,szT x<=n/\dD x=true)(hA:ab prog 67 (p1 (.st .term) fun t=>⟨some (szT t<=n/\dD t=true),none,.bool (allT aS t),[]⟩)):aB prog 161 [.lst (.st .term) l none,.fn 100 [.ptr 900 0]] [(900,.box (.fn 67 []))] (⟨some (∀x∈l,szT x<=n/\dD x=true),none,.int .i64 (di (allT aS) l 0),[]⟩):=
 g0 (sc ((yE n hA)) sn) ⟨[(2,fun S0=>⟨Nat,fun k=>k<=l.length/\di (allT aS) (l.drop k) k=di (allT aS) l 0,fun k=>[(8,.int .i64 k)],fun _=>[],fun k=>l.length-k⟩)],[],[]⟩ func161 (AP n l hl ho)
theorem yF(n:Nat)(hA:ab prog 67 (p1 (.st .term) fun t=>⟨some (szT t<=n/\dD t=true),none,.bool (allT aS t),[]⟩)):ab prog 161 (pfc (.lst (.st .term)) 100 67 fun l=>⟨some (∀x∈l,szT x<=n/\dD x=true),none,.int .i64 (di (allT aS) l 0),[]⟩):=
 nu Bv fun l hl ho=>uA n l hl (ho _ rfl) hA
theorem Bw:aA prog 99:=ee func99
theorem uB(n:Nat)(l:List Trm) (ho:∀x∈l,szT x<=n/\dD x=true)(hA:ab prog 67 (p1 (.st .term) fun t=>⟨some (szT t<=n/\dD t=true),none,.bool (allT aS t),[]⟩)):aB prog 99 [.lst (.st .term) l none,.fn 100 [.ptr 900 0]] [(900,.box (.fn 67 []))] (⟨some (∀x∈l,szT x<=n/\dD x=true),none,.bool (!l.all (allT aS)),[]⟩):=
 g0 (sc ((yF n hA)) sn) a0 func99 (AQ n l ho)
theorem yG(n:Nat)(hA:ab prog 67 (p1 (.st .term) fun t=>⟨some (szT t<=n/\dD t=true),none,.bool (allT aS t),[]⟩)):ab prog 99 (pfc (.lst (.st .term)) 100 67 fun l=>⟨some (∀x∈l,szT x<=n/\dD x=true),none,.bool (!l.all (allT aS)),[]⟩):=
 nu Bw fun l _ ho=>uB n l (ho _ rfl) hA
theorem HK:aA prog 49:=ee func49
theorem yH(n:Nat)(l:List Trm) (ho:∀x∈l,szT x<=n/\dD x=true)(hA:ab prog 67 (p1 (.st .term) fun t=>⟨some (szT t<=n/\dD t=true),none,.bool (allT aS t),[]⟩)):aB prog 49 [.lst (.st .term) l none,.fn 67 []] [] (⟨some (∀x∈l,szT x<=n/\dD x=true),none,.bool (l.all (allT aS)),[]⟩):=
 g0 (sc ((yG n hA)) sn) a0 func49 (Ha n l ho)
theorem DR(n:Nat)(hA:ab prog 67 (p1 (.st .term) fun t=>⟨some (szT t<=n/\dD t=true),none,.bool (allT aS t),[]⟩)):ab prog 49 (pf (.lst (.st .term)) 67 fun l=>⟨some (∀x∈l,szT x<=n/\dD x=true),none,.bool (l.all (allT aS)),[]⟩):=
 rO HK fun l _ ho=>yH n l (ho _ rfl) hA
theorem wQ:aA prog 67:=ee func67
theorem yI(n:Nat)(t:Trm)(ho:szT t<=n+1/\dD t=true)(hE:ab prog 49 (pf (.lst (.st .term)) 67 fun l=>⟨some (∀x∈l,szT x<=n/\dD x=true),none,.bool (l.all (allT aS)),[]⟩)):aB prog 67 [.st .term t] [] (⟨some (szT t<=n+1/\dD t=true),none,.bool (allT aS t),[]⟩):=
 g0 (sc HJ (sc (hE) sn)) a0 func67 (Hb n t ho)
theorem uC:∀n:Nat,ab prog 67 (p1 (.st .term) fun t=>⟨some (szT t<=n/\dD t=true),none,.bool (allT aS t),[]⟩)
 |0=>ba wQ fun t _ ho=>absurd (ho _ rfl).1 (by have:=kC t;omega)
 |n+1=>ba wQ fun t _ ho=>yI n t (ho _ rfl) (DR n (uC n))
theorem yJ(x:Trm)(ho:dD x=true) :aB prog 35 [.st .term x] [] (⟨some (dD x=true),none,.int .i64 (bJ x),[]⟩):=
 g0 (sc (uv (szT x)) (sc (uC (szT x)) sn)) a0 func35 (Hc x ho)
theorem DS:ab prog 35 (p1 (.st .term) fun t=>⟨some (dD t=true),none,.int .i64 (bJ t),[]⟩):=
 ba (ee func35) fun t _ ho=>yJ t (ho _ rfl)
theorem qZ:ab prog 80 (pLn fun s p n k=>⟨some (s.length<=4096/\0<=p/\p<=(s.length:Int)/\0<=k/\k<=2),none,.int .u8 (bAt s (p+k)),[]⟩):=
 NQ (ee func80) fun s p n k ho=>g0 sn a0 func80 (KB s p n k (ho _ rfl))
theorem KY:ab prog 133 (p1 (.int .u8) fun c=>.ret (.bool (aW c))):=
 ba (ee func133) fun c _ _=>g0 (sc lF (sc lG (sc qX sn))) a0 func133 (MN c)
theorem HL:ab prog 82 (p1 (.int .u8) fun c=>.ret (.bool (cD c))):=
 ba (ee func82) fun c _ _=>g0 sn a0 func82 (KC c)
theorem DT:ab prog 194 (p1 (.int .u8) fun c=>.ret (.bool (b6 c))):=
 ba (ee func194) fun c _ _=>g0 sn a0 func194 (Hd c)
theorem DU:ab prog 81 (pLf 128 fun s p n=>⟨some (s.length<=4096/\0<=p/\p<=(s.length:Int)),none,.str (cut s p (p+aj bT s p)),[(900,.box (.agg [.str s,.int .i64 (p+aj bT s p)]))]⟩):=
 yj (ee func81) fun s p n ho=>g0 (sc ui sn) ⟨[(2,fun S0=>⟨Nat,fun k=>p+k<=(s.length:Int)/\aj bT s p=k+aj bT s (p+k),fun _=>[],fun k=>[(900,.box (.agg [.str s,.int .i64 (p+(k:Int))]))],fun k=>s.length-k⟩)],[],[]⟩ func81 (He s p n (ho _ rfl))
theorem DV:ab prog 81 (pLf 133 fun s p n=>⟨some (s.length<=4096/\0<=p/\p<=(s.length:Int)),none,.str (cut s p (p+aj aW s p)),[(900,.box (.agg [.str s,.int .i64 (p+aj aW s p)]))]⟩):=
 yj (ee func81) fun s p n ho=>g0 (sc KY sn) ⟨[(2,fun S0=>⟨Nat,fun k=>p+k<=(s.length:Int)/\aj aW s p=k+aj aW s (p+k),fun _=>[],fun k=>[(900,.box (.agg [.str s,.int .i64 (p+(k:Int))]))],fun k=>s.length-k⟩)],[],[]⟩ func81 (Hf s p n (ho _ rfl))
theorem DW:ab prog 81 (pLf 82 fun s p n=>⟨some (s.length<=4096/\0<=p/\p<=(s.length:Int)),none,.str (cut s p (p+aj cD s p)),[(900,.box (.agg [.str s,.int .i64 (p+aj cD s p)]))]⟩):=
 yj (ee func81) fun s p n ho=>g0 (sc HL sn) ⟨[(2,fun S0=>⟨Nat,fun k=>p+k<=(s.length:Int)/\aj cD s p=k+aj cD s (p+k),fun _=>[],fun k=>[(900,.box (.agg [.str s,.int .i64 (p+(k:Int))]))],fun k=>s.length-k⟩)],[],[]⟩ func81 (Hg s p n (ho _ rfl))
theorem DX:ab prog 81 (pLf 194 fun s p n=>⟨some (s.length<=4096/\0<=p/\p<=(s.length:Int)),none,.str (cut s p (p+aj b6 s p)),[(900,.box (.agg [.str s,.int .i64 (p+aj b6 s p)]))]⟩):=
 yj (ee func81) fun s p n ho=>g0 (sc DT sn) ⟨[(2,fun S0=>⟨Nat,fun k=>p+k<=(s.length:Int)/\aj b6 s p=k+aj b6 s (p+k),fun _=>[],fun k=>[(900,.box (.agg [.str s,.int .i64 (p+(k:Int))]))],fun k=>s.length-k⟩)],[],[]⟩ func81 (Hh s p n (ho _ rfl))
theorem DY:ab prog 123 (p1 .str fun s=>⟨some (s.length<=4096),none,.tup [.undef,.st .fault (yl s)],[]⟩):=
 ba (ee func123) fun s _ ho=>g0 (sc (u4) sn) ⟨[(3,fun S0=>⟨Nat×List Int,fun y=>y.1<=s.length/\y.2.length<=y.1/\dv s=gS s y.1,fun y=>[(4,.lst (.int .i64) y.2 (some 10)),(5,.int .i64 y.1)],fun y=>[(10,.tail (.int .i64) y.2.length)],fun y=>s.length-y.1⟩)],[],[]⟩ func123 (Hi s (ho _ rfl))
theorem rX:ab prog 191 (p1 .str fun s=>.ret (.bool (ct s))):=
 ba (ee func191) fun s _ _=>g0 (sc (AD) sn) a0 func191 (Dv s)
theorem HM:ab prog 223 (p1 .str fun s=>.ret (.bool (dz s))):=
 ba (ee func223) fun s hs _=>g0 (sc rX sn) ⟨[(4,fun S0=>⟨Nat,fun k=>k<=s.length/\(s.all fun c=>gu (bI c))=(s.drop k).all fun c=>gu (bI c),fun k=>[(22,.int .i64 k)],fun _=>[],fun k=>s.length-k⟩)],[],[]⟩ func223 (KD s hs)
theorem DZ:ab prog 192 (p1 (.st .version) fun v=>.ret (.int .i64 (bY v))):=
 ba (ee func192) fun v hv _=>g0 (sc (wF) (sc HM sn)) ⟨[(2,fun S0=>⟨Nat,fun k=>k<=3/\([v.major,v.minor,v.patch].take k).all sb=true,fun k=>[(15,.int .i64 k)],fun _=>[],fun k=>3-k⟩),(11,fun S0=>⟨Nat,fun k=>k<=(splitB 46 v.pre).length/\((splitB 46 v.pre).take k).all dz=true,fun k=>[(37,.int .i64 k)],fun _=>[],fun k=>(splitB 46 v.pre).length-k⟩)],[],[]⟩ func192 (Hj v hv)
def OM:=p1 .str fun s=>⟨some (s.length<=4096),none,.tup [.st .version (cz s).1,.int .i64 (cz s).2],[]⟩
theorem E0:ab prog 135 OM:=
 ba (ee func135) fun s _ ho=>g0 (sc (Mt) (sc (wF) (sc rX (sc (AB) (sc DZ sn))))) ⟨[(7,fun S0=>⟨Nat,fun k=>k<=3/\((splitB 46 (aU s)).take k).all fE=true,fun k=>[(34,.int .i64 k)],fun k=>[(8,.box (.row (.int .i64) (q9 s k)))],fun k=>3-k⟩)],[],[]⟩ func135 (Hk s (ho _ rfl))
theorem r6:ab prog 124 (pC2 fun s c n e a=>⟨some (n=c.out.length),none,.bool false,[(900,.box (.agg [.str s,.int .i64 ((gf e a c).2).pos,.lst (.st .token) ((gf e a c).2).out (some 901),.int .i64 ((gf e a c).2).err,.int .i64 ((gf e a c).2).fat])),(901,.tail (.st .token) ((gf e a c).2).out.length)]⟩):=
 JS (ee func124) fun s c n e a ho=>g0 sn a0 func124 (KE s c n e a (ho _ rfl))
theorem uD:ab prog 83 (pC2 fun s c n a b=>⟨some (n=c.out.length/\s.length<=4096/\0<=a/\a<=b/\b<=(s.length:Int)),none,.bool (jn s a b c).1,[(900,.box (.agg [.str s,.int .i64 ((jn s a b c).2).pos,.lst (.st .token) ((jn s a b c).2).out (some 901),.int .i64 ((jn s a b c).2).err,.int .i64 ((jn s a b c).2).fat])),(901,.tail (.st .token) ((jn s a b c).2).out.length)]⟩):=
 JS (ee func83) fun s c n a b ho=>g0 (sc DY (sc r6 sn)) a0 func83 (Hl s c n a b (ho _ rfl))
theorem KZ:ab prog 125 (pCt fun s c n k t fr=>⟨some (n=c.out.length/\(n+1) *32<=140737488355328),none,.bool true,[(902,.box (.agg [.str s,.int .i64 ((je k t fr c).2).pos,.lst (.st .token) ((je k t fr c).2).out (some 903),.int .i64 ((je k t fr c).2).err,.int .i64 ((je k t fr c).2).fat])),(903,.tail (.st .token) (n+1))]⟩):=
 NR (ee func125) fun s c n k t fr ho=>g0 sn a0 func125 (MO s c n k t fr (ho _ rfl))
theorem Bx:ab prog 136 (pC0 fun s c n=>⟨some (n=c.out.length/\n<=4096/\s.length<=4096/\0<=c.pos/\c.pos<=(s.length:Int)/\c.pos<(s.length:Int)),none,.tup [.str (dm s c).1,.bool (dm s c).2.1],[(900,.box (.agg [.str s,.int .i64 ((dm s c).2.2).pos,.lst (.st .token) ((dm s c).2.2).out (some 901),.int .i64 ((dm s c).2.2).err,.int .i64 ((dm s c).2.2).fat])),(901,.tail (.st .token) ((dm s c).2.2).out.length)]⟩):=
 JR (ee func136) fun s c n ho=>g1 nn (fun f=>if Nat.beq f 80||Nat.beq f 81 then[some 2]else[]) nn nn nn (sc qZ (sc r6 (sc (vH) (sc DX (sc uD sn))))) ⟨[(4,fun S0=>⟨Nat×Str×SC,fun y=>y.2.2.out=c.out/\y.2.2.err=c.err/\y.2.2.fat=c.fat/\0<=y.2.2.pos/\y.2.2.pos<=(s.length:Int)/\(y.2.1.length:Int)<=y.2.2.pos/\(s.length:Int)<y.2.2.pos+(y.1:Int)/\dm s c=cW s c.pos y.1 y.2.1 y.2.2,fun y=>[(5,.lst (.int .u8) (aT y.2.1) (some 701))],fun y=>[(900,.box (.agg [.str s,.int .i64 (y.2.2).pos,.lst (.st .token) (y.2.2).out (some 901),.int .i64 (y.2.2).err,.int .i64 (y.2.2).fat])),(701,.tail (.int .u8) (aT y.2.1).length)],fun y=>y.1⟩)],[],[]⟩ func136 (Dw s c n (ho _ rfl))
theorem L0:ab prog 137 (p1 .str fun s=>.ret (.bool (ig s))):=
 ba (ee func137) fun s _ _=>g0 (sc (yn) sn) a0 func137 (MP s)
theorem E1:ab prog 84 (pC0 fun s c n=>⟨some (n=c.out.length/\n<=4096/\s.length<=4096/\0<=c.pos/\c.pos<=(s.length:Int)/\c.pos<(s.length:Int)),none,.bool (bg s c).1,[(900,.box (.agg [.str s,.int .i64 ((bg s c).2).pos,.lst (.st .token) ((bg s c).2).out (some 901),.int .i64 ((bg s c).2).err,.int .i64 ((bg s c).2).fat])),(901,.tail (.st .token) ((bg s c).2).out.length)]⟩):=
 JR (ee func84) fun s c n ho=>g1 nn (fun f=>if Nat.beq f 80||Nat.beq f 81 then[some 2]else[]) nn nn (fun d=>Nat.beq d 21) (sc qZ (sc lF (sc lG (sc DU (sc AU (sc KZ (sc nE (sc qY (sc r6 (sc qX (sc DV (sc (AD) (sc E0 (sc Bx (sc L0 sn))))))))))))))) ⟨[(24,fun S0=>⟨Nat,fun k=>k<=2/\(k<=1->ij s c.pos 2=false)/\(k=0->ij s c.pos 1=false),fun k=>[(12,.int .i64 k)],fun k=>[],fun k=>k⟩)],[],[]⟩ func84 (Hm s c n (ho _ rfl))
theorem By:ab prog 41 (p1 .str fun s=>.ret (.tup [.lst (.st .token) (bB s).1 none,.st .fault (bB s).2])):=
 ba (ee func41) fun s hs _=>g1 nn (fun f=>if Nat.beq f 80||Nat.beq f 81 then[some 2]else[]) nn nn nn (sc qZ (sc DW (sc uD (sc E1 sn)))) ⟨[(4,fun S0=>⟨Nat×SC,fun y=>(y.2.out.length:Int)<=y.2.pos/\(s.length:Int)<y.2.pos+(y.1:Int)/\0<=y.2.pos/\y.2.pos<=(s.length:Int)/\bB s=fy s y.1 y.2,fun y=>[],fun y=>[(14,.box (.agg [.str s,.int .i64 (y.2).pos,.lst (.st .token) (y.2).out (some 701),.int .i64 (y.2).err,.int .i64 (y.2).fat])),(701,.tail (.st .token) y.2.out.length)],fun y=>y.1⟩)],[],[]⟩ func41 (MQ s hs)
theorem HN:ab prog 15 (p2 (.lst (.st .token)) (.int .i64) fun l a=>⟨some (aO l),none,.tup [.st .term (bE l a).1,.int .i64 (bE l a).2.1,.st .fault (bE l a).2.2],[]⟩):=
 dy (ee func15) fun l a hl _ ho=>g0 (sc wN (sc eJ (sc iq (sc (Bj 5000) (sc DS (sc jg sn)))))) a0 func15 (KF l a hl (ho _ rfl))
def ON:=p1 .str fun s=>.ret (.tup [.st .shape (kf s).1,.st .fault (kf s).2])
theorem qe:ab prog 18 ON:=
 ba (ee func18) fun s _ _=>g0 (sc By (sc KW (sc uu sn))) a0 func18 (AR s)
def OO:=p1 .str fun s=>.ret (.tup [.st .term (kg s).1,.st .fault (kg s).2])
theorem qf:ab prog 20 OO:=
 ba (ee func20) fun s _ _=>g0 (sc By (sc HN (sc uu sn))) a0 func20 (AT s)
end Go.AL.Seat
end
section
namespace Go.Pd
open Go.AL
mutual
def sizeF:Shape->Int->Int
 |⟨_,_,_,_,ps⟩,m=>sizeL ps 1 m
def sizeL:List Shape->Int->Int->Int
 |[],n,_=>n
 |p::r,n,m=>if n<=m then sizeL r (n+sizeF p (m-n)) m else n
end
mutual
theorem sizeF_bd:∀(s:Shape)(m:Int),0<=m->1<=sizeF s m/\sizeF s m<=m+1
 |⟨_,_,_,_,ps⟩,m,h=>by simp only[sizeF];exact sizeL_bd ps 1 m (by omega) (by omega)
theorem sizeL_bd:∀(l:List Shape)(n m:Int),1<=n->n<=m+1->1<=sizeL l n m/\sizeL l n m<=m+1
 |[],n,m,h1,h2=>by simp only[sizeL];omega
 |p::r,n,m,h1,h2=>by
  simp only[sizeL];split
  ·have:=sizeF_bd p (m-n) (by omega);exact sizeL_bd r _ m (by omega) (by omega)
  ·omega
end
def cN:Str->Nat
 |[]=>0
 |b::r=>if bT (bI b)=true then cN r+1 else 0
theorem wR:∀s:Str,(cN s=s.length↔(s.all fun c=>bT (bI c))=true)
 |[]=>by simp[cN]
 |b::r=>by
  simp only[cN,P4,Pl,OU];by_cases h:bT (bI b)=true
  ·rw[OQ h,<-wR r];constructor
   ·intro e;exact⟨h,by omega⟩
   ·rintro⟨_,e⟩;omega
  ·rw[OP h];constructor
   ·intro e;omega
   ·rintro⟨e,_⟩;exact absurd e h
theorem uE:∀s:Str,cN s<=s.length
 |[]=>P1 _
 |b::r=>by have:=uE r;simp only[cN,P4];split<;>omega
theorem rY(first:Int->Bool)(s:Str):ei first s=(!decide (s=[])&&decide (s.length<=24)&&first (bI (s.getD 0 0))&&decide (cN s=s.length)):=by unfold ei;congr 1;rw[QC,OZ];exact(wR s).symm
def jB(ns:List Str)(n:Int):Bool:=decide ((ns.length:Int)=n)&&ns.all aX&&decide ns.Nodup
mutual
def deepF:Shape->Nat
 |⟨_,_,_,_,ps⟩=>maxDeep ps+1
def maxDeep:List Shape->Nat
 |[]=>0
 |p::r=>max (deepF p) (maxDeep r)
end
mutual
theorem deepS_F:∀(s:Shape)(l:Int),deepS s l=l+deepF s-1
 |⟨_,_,_,_,ps⟩,l=>by simp only[deepS,deepF];rw[deepL_F ps (l+1) l (by omega)];omega
theorem deepL_F:∀(ps:List Shape)(m d:Int),m-1<=d->deepL ps m d=max d (m+maxDeep ps-1)
 |[],m,d,h=>by simp only[deepL,maxDeep];omega
 |p::r,m,d,h=>by simp only[deepL,maxDeep];rw[deepL_F r m _ (by omega),deepS_F p m];omega
end
mutual
theorem deepF_sz:∀s:Shape,deepF s<=sz s
 |⟨_,_,_,_,ps⟩=>by have:=maxDeep_sz ps;simp only[deepF,sz];omega
theorem maxDeep_sz:∀l:List Shape,maxDeep l<=szL l
 |[]=>P1 _
 |p::r=>by have:=deepF_sz p;have:=maxDeep_sz r;simp only[maxDeep,szL];omega
end
mutual
theorem sizeF_eq:∀(s:Shape)(m:Int),0<=m->sizeF s m=min (sz s:Int) (m+1)
 |⟨_,_,_,_,ps⟩,m,h=>by simp only[sizeF,sz];rw[sizeL_eq ps 1 m (by omega)];omega
theorem sizeL_eq:∀(l:List Shape)(n m:Int),n<=m+1->sizeL l n m=min (n+szL l) (m+1)
 |[],n,m,h=>by simp only[sizeL,szL];omega
 |p::r,n,m,h=>by
  simp only[sizeL,szL];have:=jZ p;split
  ·rw[sizeF_eq p (m-n) (by omega),sizeL_eq r _ m (by omega)];omega
  ·omega
end
theorem O4(s:Shape):bG s=if 400<sizeF s 400 then 3 else if 40<(deepF s:Int)then 91 else if allS bN s=true then 0 else 70:=by
 unfold bG;rw[sizeF_eq s 400 (by omega),deepS_F];have e:(1:Int)+deepF s-1=deepF s:=by omega
 rw[e];by_cases h:400<sz s
 ·rw[OQ h,OQ (show(400:Int)<min (sz s:Int) (400+1) by omega)]
 ·rw[OP h,OP (show ¬(400:Int)<min (sz s:Int) (400+1) by omega)]
end Go.Pd
end
section
namespace Go.Pd
open Go.AL
def gi(p:Int):Bool:=decide (0<=p)&&decide (p<=1114111)&&(decide (p<55296)||decide (57343<p))
def lJ(n:Int):UInt8:=UInt8.ofNat n.toNat
def ez(p:Int):Str:=
 if p<128 then[lJ p]
 else if p<2048 then[lJ (192+p/64),lJ (128+p%64)]
 else if p<65536 then[lJ (224+p/4096),lJ (128+p/64%64),lJ (128+p%64)]
 else[lJ (240+p/262144),lJ (128+p/4096%64),lJ (128+p/64%64),lJ (128+p%64)]
def dx(s:Str):Nat:=if 240<=bI (s.getD 0 0)then 4 else if 224<=bI (s.getD 0 0)then 3 else if 192<=bI (s.getD 0 0)then 2 else 1
def iD(s:Str):Int:=if 240<=bI (s.getD 0 0)then bI (s.getD 0 0)-240 else if 224<=bI (s.getD 0 0)then bI (s.getD 0 0)-224 else if 192<=bI (s.getD 0 0)then bI (s.getD 0 0)-192 else bI (s.getD 0 0)
def bj(s:Str):Nat->Int
 |0=>iD s
 |1=>iD s
 |k+2=>bj s (k+1) *64+bI (s.getD (k+1) 0)-128
def ir(s:Str):Int×Int:=
 if s=[]then(0,0)else if s.length<dx s then(0,0)
 else if gi (bj s (dx s))=true/\ez (bj s (dx s))=s.take (dx s)then(bj s (dx s),dx s)else(0,0)
abbrev TK3:=Tokn×Int×Flt
def kS:Tokn:=⟨0,[],0⟩
def nF:TK3:=(kS,0,⟨60,0⟩)
def okK(k:Int)(t:Str)(n:Int):TK3:=(⟨k,t,0⟩,n,⟨0,0⟩)
def oR(s:Str):Bool:=s.all eX&&decide (1<=s.length)&&decide (s.length<=15)&&(decide (s.length=1)||!decide (bI (s.getD 0 0)=48))
def bu(s:Str):Nat->Str->Nat->TK3
 |0,_,_=>nF
 |n+1,acc,i=>
  if i<s.length then
   if bI (s.getD i 0)=34 then okK 4 acc (i+1)
   else if bI (s.getD i 0)<32 then nF
   else if bI (s.getD i 0)=92 then
    if i+1=s.length then nF
    else match jt (bI (s.getD (i+1) 0))with
     |none=>nF
     |some x=>bu s n (acc++[UInt8.ofNat x.toNat]) (i+2)
   else if cM (s.drop i)=0 then(kS,0,⟨30,i⟩)
   else bu s n (acc++(s.drop i).take (cM (s.drop i))) (i+cM (s.drop i))
  else nF
def dA(s:Str):TK3:=bu s (s.length+2) [] 1
def mm(s:Str):TK3:=
 if kz (s.take (cN s))=true then okK 5 (s.take (cN s)) (cN s)
 else if aX (s.take (cN s))=true then okK 1 (s.take (cN s)) (cN s)
 else if dI (s.take (cN s))=true then okK 2 (s.take (cN s)) (cN s)
 else nF
def mo(t:Str)(n:Int):TK3:=
 if oR t=true then okK 3 t n else if(cz t).2=0 then okK 7 t n else nF
def oh(s:Str):TK3:=
 if 2<=s.length/\ig (s.take 2)=true then okK 6 (s.take 2) 2 else if ig (s.take 1)=true then okK 6 (s.take 1) 1 else nF
def cb(s:Str):TK3:=
 if bU (bI (s.getD 0 0))=true∨bX (bI (s.getD 0 0))=true then mm s
 else if b8 (bI (s.getD 0 0))=true then mo (s.take (aj aW s 0)) (aj aW s 0)
 else if bI (s.getD 0 0)=34 then dA s
 else oh s
def lK(s:Str):Nat->Nat->Int×Flt
 |0,n=>(n,⟨0,0⟩)
 |f+1,n=>if n<s.length/\bI (s.getD n 0)≠10 then(if cM (s.drop n)=0 then(0,⟨30,n⟩)else lK s f (n+cM (s.drop n)))else(n,⟨0,0⟩)
def cx(s:Str):Int×Flt:=
 if s.length<=aj aZ s 0+1∨bI (s.getD (aj aZ s 0) 0)≠45∨bI (s.getD (aj aZ s 0+1) 0)≠45 then((aj aZ s 0:Int),⟨0,0⟩)else lK s (s.length+1) (aj aZ s 0)
def MY(t:Tokn)(a:Int):Tokn:=⟨t.kind,t.text,a⟩
def fG(s:Str):Nat->Nat->List Tokn->List Tokn×Flt
 |0,_,_=>([],⟨0,0⟩)
 |f+1,a,out=>
  if a<s.length then
   if ¬(cx (s.drop a)).2.err=0 then([],⟨(cx (s.drop a)).2.err,a+(cx (s.drop a)).2.pos⟩)
   else if 0<(cx (s.drop a)).1 then fG s f (a+(cx (s.drop a)).1.toNat) out
   else if ¬(cb (s.drop a)).2.2.err=0 then([],⟨(cb (s.drop a)).2.2.err,a+(cb (s.drop a)).2.2.pos⟩)
   else fG s f (a+(cb (s.drop a)).2.1.toNat) (out++[MY (cb (s.drop a)).1 a])
  else(out++[⟨0,[],(s.length:Int)⟩],⟨0,0⟩)
def fS(s:Str):List Tokn×Flt:=if 4096<s.length then([],⟨3,4096⟩)else fG s (s.length+2) 0 []
end Go.Pd
end
section
namespace Go.Pd
open Go.AL
theorem E2(s:Str):decide (s∈([[40],[41],[123],[125],[91],[93],[60],[62],[60,61],[62,61],[61],[94],[42],[44],[58],[46],[47],[64],[124],[45,62]]:List Str))=ig s:=by
 unfold ig JQ
 match s with
 |[]=>decide
 |[a]=>simp[eq_comm]
 |[a,b]=>simp only[Pa,Q9,QQ,or_false,false_or,reduceCtorEq,RL,P4,Pk,Bool.decide_or];simp only[QS,Bool.false_or,Rw,Pu];simp[Bool.or_assoc]
 |a::b::c::r=>simp
theorem HO(s:Str):s∈([[40],[41],[123],[125],[91],[93],[60],[62],[60,61],[62,61],[61],[94],[42],[44],[58],[46],[47],[64],[124],[45,62]]:List Str)↔ig s=true:=by rw[<-E2];exact Qy.symm
theorem gx{n:Int}{b:UInt8}(h0:0<=n)(h1:n<=255):lJ n=b↔n=bI b:=by
 unfold lJ bI;constructor
 ·intro e;rw[<-e,UInt8.toNat_ofNat'];have:n.toNat%2 ^ 8=n.toNat:=Ru (by omega);rw[this];omega
 ·intro e;rw[e,OW];exact UInt8.ofNat_toNat
theorem L1{p:Int}(h:0<=p)(a:UInt8):ez p=[a]↔p<128/\p=bI a:=by
 unfold ez;split
 ·simp only[Q9,Pu];rw[gx h (by omega)];omega
 ·refine⟨fun e=>?_,fun e=>by omega⟩;revert e;split<;>(try split)<;>simp
theorem L2{p:Int}(h:0<=p)(a b:UInt8):ez p=[a,b]↔128<=p/\p<2048/\192+p/64=bI a/\128+p%64=bI b:=by
 unfold ez;split
 ·refine⟨fun e=>?_,fun e=>by omega⟩;simp at e
 split
 ·simp only[Q9,Pu];rw[gx (by omega) (by omega),gx (by omega) (by omega)];omega
 ·refine⟨fun e=>?_,fun e=>by omega⟩;revert e;split<;>simp
theorem L3{p:Int}(h:0<=p)(a b c:UInt8):ez p=[a,b,c]↔2048<=p/\p<65536/\224+p/4096=bI a/\128+p/64%64=bI b/\128+p%64=bI c:=by
 unfold ez;split
 ·refine⟨fun e=>?_,fun e=>by omega⟩;simp at e
 split
 ·refine⟨fun e=>?_,fun e=>by omega⟩;simp at e
 split
 ·simp only[Q9,Pu];rw[gx (by omega) (by omega),gx (by omega) (by omega),gx (by omega) (by omega)];omega
 ·refine⟨fun e=>?_,fun e=>by omega⟩;simp at e
theorem L4{p:Int}(h:0<=p)(hp:p<=1114111)(a b c d:UInt8):ez p=[a,b,c,d]↔65536<=p/\240+p/262144=bI a/\128+p/4096%64=bI b/\128+p/64%64=bI c/\128+p%64=bI d:=by
 unfold ez;split
 ·refine⟨fun e=>?_,fun e=>by omega⟩;simp at e
 split
 ·refine⟨fun e=>?_,fun e=>by omega⟩;simp at e
 split
 ·refine⟨fun e=>?_,fun e=>by omega⟩;simp at e
 ·simp only[Q9,Pu];rw[gx (by omega) (by omega),gx (by omega) (by omega),gx (by omega) (by omega),gx (by omega) (by omega)];omega
theorem mq(p:Int):gi p=true↔0<=p/\p<=1114111/\(p<55296∨57343<p):=by unfold gi;simp only[OU,Q4,OZ,and_assoc]
theorem nG(s:Str):(ir s).2=(cM s:Int):=by
 match s with
 |[]=>rfl
 |b::r=>
  rw[JV];have hb:=QR b;have e0:bI ((b::r).getD 0 0)=(b.toNat:Int):=rfl;unfold ir;rw[OP (List.cons_ne_nil _ _)];by_cases c4:240<=(b.toNat:Int)
  ·have hL:dx (b::r)=4:=by unfold dx;rw[e0,OQ c4]
   rw[hL]
   match r with
   |[]=>rw[OQ (by simp)];unfold nw;simp only[Pk];(repeat' split)<;>first|rfl|omega
   |[c1]=>rw[OQ (by simp)];unfold nw;simp only[P4,Pk];(repeat' split)<;>first|rfl|omega
   |[c1,c2]=>rw[OQ (by simp)];unfold nw;simp only[P4,Pk];(repeat' split)<;>first|rfl|omega
   |c1::c2::c3::r=>
    have h1:=QR c1;have h2:=QR c2;have h3:=QR c3
    have hf:bj (b::c1::c2::c3::r) 4=((((b.toNat:Int)-240) *64+c1.toNat-128) *64+c2.toNat-128) *64+c3.toNat-128:=by
     have:iD (b::c1::c2::c3::r)=(b.toNat:Int)-240:=by unfold iD;rw[show bI ((b::c1::c2::c3::r).getD 0 0)=(b.toNat:Int)from rfl,OQ c4]
     unfold bj bj bj bj;rw[this];rfl
    rw[OP (by simp),hf];have ht:(b::c1::c2::c3::r).take 4=[b,c1,c2,c3]:=rfl;rw[ht];generalize hp:((((b.toNat:Int)-240) *64+c1.toNat-128) *64+c2.toNat-128) *64+c3.toNat-128=p;have key:(gi p=true/\ez p=[b,c1,c2,c3])↔(0<=p/\p<=1114111/\(p<55296∨57343<p))/\(65536<=p/\240+p/262144=(b.toNat:Int)/\128+p/4096%64=(c1.toNat:Int)/\128+p/64%64=(c2.toNat:Int)/\128+p%64=(c3.toNat:Int)):=by rw[mq];exact and_congr_right fun e=>L4 e.1 e.2.1 _ _ _ _
    unfold nw;simp only[P4,Rf,QM];rw[show p/4096=p/64/64 by omega,show p/262144=p/64/64/64 by omega]at key;generalize hu:p/64=u at key;generalize hv:u/64=v at key;generalize hw:v/64=w at key;split
    ·next h=>
     have h:=key.1 h;have x0:b.toNat/8=30/\c1.toNat/64=2/\c2.toNat/64=2/\c3.toNat/64=2:=by omega
     have x1:b.toNat%8 *262144+c1.toNat%64 *4096+c2.toNat%64 *64+c3.toNat%64=p.toNat:=by omega
     rw[x1,OP (by omega),OP (by omega),OP (by omega),OQ ⟨x0.1,⟨by omega,x0.2.1⟩,⟨by omega,x0.2.2.1⟩,by omega,x0.2.2.2⟩,OQ (by omega)]
    ·next h=>
     by_cases x0:b.toNat/8=30/\c1.toNat/64=2/\c2.toNat/64=2/\c3.toNat/64=2
     ·have x1:((b.toNat%8 *262144+c1.toNat%64 *4096+c2.toNat%64 *64+c3.toNat%64:Nat):Int)=p:=by omega
      have x2:¬((b.toNat%8 *262144+c1.toNat%64 *4096+c2.toNat%64 *64+c3.toNat%64)≥65536/\((b.toNat%8 *262144+c1.toNat%64 *4096+c2.toNat%64 *64+c3.toNat%64)<55296∨57344<=(b.toNat%8 *262144+c1.toNat%64 *4096+c2.toNat%64 *64+c3.toNat%64)/\(b.toNat%8 *262144+c1.toNat%64 *4096+c2.toNat%64 *64+c3.toNat%64)<=1114111)):=fun e=>h (key.2 ⟨by omega,by omega⟩);rw[OP (by omega),OP (by omega),OP (by omega),OQ ⟨x0.1,⟨by omega,x0.2.1⟩,⟨by omega,x0.2.2.1⟩,by omega,x0.2.2.2⟩,OP x2];rfl
     ·rw[OP (by omega),OP (by omega),OP (by omega),OP (fun e=>x0 ⟨e.1,e.2.1.2,e.2.2.1.2,e.2.2.2.2⟩)];rfl
  by_cases c3:224<=(b.toNat:Int)
  ·have hL:dx (b::r)=3:=by unfold dx;rw[e0,OP c4,OQ c3]
   rw[hL]
   match r with
   |[]=>rw[OQ (by simp)];unfold nw;simp only[Pk];(repeat' split)<;>first|rfl|omega
   |[c1]=>rw[OQ (by simp)];unfold nw;simp only[P4,Pk];(repeat' split)<;>first|rfl|omega
   |c1::c2::r=>
    have h1:=QR c1;have h2:=QR c2
    have hf:bj (b::c1::c2::r) 3=(((b.toNat:Int)-224) *64+c1.toNat-128) *64+c2.toNat-128:=by
     have:iD (b::c1::c2::r)=(b.toNat:Int)-224:=by unfold iD;rw[show bI ((b::c1::c2::r).getD 0 0)=(b.toNat:Int)from rfl,OP c4,OQ c3]
     unfold bj bj bj;rw[this];rfl
    rw[OP (by simp),hf];have ht:(b::c1::c2::r).take 3=[b,c1,c2]:=rfl;rw[ht];generalize hp:(((b.toNat:Int)-224) *64+c1.toNat-128) *64+c2.toNat-128=p;have key:(gi p=true/\ez p=[b,c1,c2])↔(0<=p/\p<=1114111/\(p<55296∨57343<p))/\(2048<=p/\p<65536/\224+p/4096=(b.toNat:Int)/\128+p/64%64=(c1.toNat:Int)/\128+p%64=(c2.toNat:Int)):=by rw[mq];exact and_congr_right fun e=>L3 e.1 _ _ _
    unfold nw;simp only[P4,Rf,QM];rw[show p/4096=p/64/64 by omega]at key;generalize hu:p/64=u at key;generalize hv:u/64=v at key;split
    ·next h=>
     have h:=key.1 h;have x0:b.toNat/16=14/\c1.toNat/64=2/\c2.toNat/64=2:=by omega
     have x1:b.toNat%16 *4096+c1.toNat%64 *64+c2.toNat%64=p.toNat:=by omega
     rw[x1,OP (by omega),OP (by omega),OQ ⟨x0.1,⟨by omega,x0.2.1⟩,by omega,x0.2.2⟩,OQ (by omega)]
    ·next h=>
     by_cases x0:b.toNat/16=14/\c1.toNat/64=2/\c2.toNat/64=2
     ·have x1:((b.toNat%16 *4096+c1.toNat%64 *64+c2.toNat%64:Nat):Int)=p:=by omega
      have x2:¬((b.toNat%16 *4096+c1.toNat%64 *64+c2.toNat%64)≥2048/\((b.toNat%16 *4096+c1.toNat%64 *64+c2.toNat%64)<55296∨57344<=(b.toNat%16 *4096+c1.toNat%64 *64+c2.toNat%64)/\(b.toNat%16 *4096+c1.toNat%64 *64+c2.toNat%64)<=1114111)):=fun e=>h (key.2 ⟨by omega,by omega⟩);rw[OP (by omega),OP (by omega),OQ ⟨x0.1,⟨by omega,x0.2.1⟩,by omega,x0.2.2⟩,OP x2];rfl
     ·rw[OP (by omega),OP (by omega),OP (fun e=>x0 ⟨e.1,e.2.1.2,e.2.2.2⟩),OP (by omega)];rfl
  by_cases c2:192<=(b.toNat:Int)
  ·have hL:dx (b::r)=2:=by unfold dx;rw[e0,OP c4,OP c3,OQ c2]
   rw[hL]
   match r with
   |[]=>rw[OQ (by simp)];unfold nw;simp only[Pk];(repeat' split)<;>first|rfl|omega
   |c1::r=>
    have h1:=QR c1
    have hf:bj (b::c1::r) 2=((b.toNat:Int)-192) *64+c1.toNat-128:=by
     have:iD (b::c1::r)=(b.toNat:Int)-192:=by unfold iD;rw[show bI ((b::c1::r).getD 0 0)=(b.toNat:Int)from rfl,OP c4,OP c3,OQ c2]
     unfold bj bj;rw[this];rfl
    rw[OP (by simp),hf];have ht:(b::c1::r).take 2=[b,c1]:=rfl;rw[ht];generalize hp:((b.toNat:Int)-192) *64+c1.toNat-128=p;have key:(gi p=true/\ez p=[b,c1])↔(0<=p/\p<=1114111/\(p<55296∨57343<p))/\(128<=p/\p<2048/\192+p/64=(b.toNat:Int)/\128+p%64=(c1.toNat:Int)):=by rw[mq];exact and_congr_right fun e=>L2 e.1 _ _
    unfold nw;simp only[P4,Rf,QM];generalize hu:p/64=u at key;split
    ·next h=>
     have h:=key.1 h;have x0:b.toNat/32=6/\c1.toNat/64=2:=by omega
     have x1:b.toNat%32 *64+c1.toNat%64=p.toNat:=by omega
     rw[x1,OP (by omega),OQ ⟨x0.1,by omega,x0.2⟩,OQ (by omega)]
    ·next h=>
     by_cases x0:b.toNat/32=6/\c1.toNat/64=2
     ·have x1:((b.toNat%32 *64+c1.toNat%64:Nat):Int)=p:=by omega
      generalize b.toNat%32 *64+c1.toNat%64=q at x1⊢;have x2:¬(q≥128):=fun e=>h (key.2 ⟨by omega,by omega⟩);rw[OP (by omega),OQ ⟨x0.1,by omega,x0.2⟩,OP x2];rfl
     ·rw[OP (by omega),OP (fun e=>x0 ⟨e.1,e.2.2⟩),OP (by omega),OP (by omega)];rfl
  ·have hL:dx (b::r)=1:=by unfold dx;rw[e0,OP c4,OP c3,OP c2]
   rw[hL,OP (by simp)];have hf:bj (b::r) 1=(b.toNat:Int):=by unfold bj iD;rw[e0,OP c4,OP c3,OP c2]
   rw[hf];have ht:(b::r).take 1=[b]:=rfl;rw[ht]
   have key:(gi (b.toNat:Int)=true/\ez (b.toNat:Int)=[b])↔(b.toNat:Int)<128:=by
    rw[mq,L1 (by omega)];constructor
    ·exact fun e=>e.2.1
    ·exact fun e=>⟨by omega,e,rfl⟩
   by_cases h:b.toNat<128
   ·rw[OQ (key.2 (by omega))];unfold nw;rw[OQ h]
   ·rw[OP (fun e=>h (by have:=key.1 e;omega))];unfold nw;rw[OP h,OP (by omega),OP (by omega),OP (by omega)];rfl
theorem FT(s:Str):cM s<=s.length:=by
 by_cases h:s=[]
 ·subst h;exact P1 _
 by_cases e:cM s=0
 ·omega
 obtain⟨_,h2,_,_,h5⟩:=lD h;have:=h2 e;omega
theorem j0{s:Str}{n:Nat}(h:n<=s.length):n+cM (s.drop n)<=s.length:=by have:=FT (s.drop n);rw[Pq]at this;omega
theorem oi{s:Str}{x:Nat}(h:x<s.length)(hb:aZ (bI (s.getD x 0))=true)(w:aj aZ s 0=x+aj aZ s (x:Int)):aj aZ s 0=(x+1:Nat)+aj aZ s ((x+1:Nat):Int):=by have:=cU (pr:=aZ) (s:=s) (a:=(x:Int)) (by omega) (by omega) (by rw[OW];exact hb);have e:((x+1:Nat):Int)=(x:Int)+1:=rfl;rw[e];omega
theorem E3{s:Str}{x:Nat}(h:x<s.length)(hb:aZ (bI (s.getD x 0))=false)(w:aj aZ s 0=x+aj aZ s (x:Int)):aj aZ s 0=x:=by have:=gR (pr:=aZ) (s:=s) (a:=(x:Int)) (by omega) (by omega) (by rw[OW];exact hb);omega
theorem HP{s:Str}{x:Nat}(h:s.length<=x)(w:aj aZ s 0=x+aj aZ s (x:Int)):aj aZ s 0=x:=by have:=iO (pr:=aZ) (s:=s) (a:=(x:Int)) (by omega);omega
theorem uF(s:Str):∀(f n:Nat),n<=s.length->0<=(lK s f n).1/\(lK s f n).1<=(s.length:Int)/\0<=(lK s f n).2.pos/\(lK s f n).2.pos<=(s.length:Int)
 |0,n,h=>⟨QU n,by show(n:Int)<=_;omega,Po 0,by show(0:Int)<=_;omega⟩
 |f+1,n,h=>by
  unfold lK;split
  ·split
   ·exact⟨Po 0,by show(0:Int)<=_;omega,QU n,by show(n:Int)<=_;omega⟩
   ·exact uF s f _ (j0 h)
  ·exact⟨QU n,by show(n:Int)<=_;omega,Po 0,by show(0:Int)<=_;omega⟩
theorem yK(s:Str):0<=(cx s).1/\(cx s).1<=(s.length:Int)/\0<=(cx s).2.pos/\(cx s).2.pos<=(s.length:Int):=by
 have h:=dX (pr:=aZ) (s:=s) (a:=0) (Po 0) (by omega);unfold cx;split
 ·exact⟨QU _,by show((aj aZ s 0:Nat):Int)<=_;omega,Po 0,by show(0:Int)<=_;omega⟩
 ·exact uF s _ _ (by omega)
def MZ(s:Str)(x:TK3):Prop:=(x.2.2.err=0->1<=x.2.1/\x.2.1<=(s.length:Int))/\0<=x.2.2.pos/\x.2.2.pos<=(s.length:Int)
theorem kI(s:Str):MZ s nF:=⟨fun e=>absurd e (by decide),Po 0,by show(0:Int)<=_;omega⟩
theorem nH{s:Str}{k n:Int}{t:Str}(h1:1<=n)(h2:n<=(s.length:Int)):MZ s (okK k t n):=⟨fun _=>⟨h1,h2⟩,Po 0,by show(0:Int)<=_;omega⟩
theorem mr(s:Str):∀(f:Nat)(acc:Str)(i:Nat),i<=s.length->MZ s (bu s f acc i)
 |0,_,_,_=>kI s
 |f+1,acc,i,h=>by
  unfold bu;split
  ·split
   ·exact nH (by omega) (by omega)
   split
   ·exact kI s
   split
   ·split
    ·exact kI s
    split
    ·exact kI s
    ·exact mr s f _ _ (by omega)
   split
   ·exact⟨fun e=>absurd e (by decide:¬(30:Int)=0),QU i,by show(i:Int)<=_;omega⟩
   ·exact mr s f _ _ (j0 h)
  ·exact kI s
theorem HQ{s:Str}(h:s≠[])(hb:bT (bI (s.getD 0 0))=true):1<=cN s:=by
 match s with
 |[]=>exact absurd rfl h
 |b::r=>have hb:bT (bI b)=true:=hb;unfold cN;rw[OQ hb];omega
theorem E4{s:Str}(h:0<s.length):MZ s (cb s):=by
 have hl:=uE s;have hw:=dX (pr:=aW) (s:=s) (a:=0) (Po 0) (by omega);unfold cb;split
 ·next hb=>
  have hp:=HQ (s:=s) (by intro e;rw[e]at h;exact absurd h (by decide)) (by unfold bT;rcases hb with e|e<;>rw[e]<;>simp only[Ra,Q3]);unfold mm;split
  ·exact nH (by omega) (by omega)
  split
  ·exact nH (by omega) (by omega)
  split
  ·exact nH (by omega) (by omega)
  ·exact kI s
 split
 ·next hd=>
  have hp:=cU (pr:=aW) (s:=s) (a:=0) (Po 0) (by omega) (by show aW (bI (s.getD 0 0))=true;unfold aW;rw[hd];simp only[Ra,Q3]);unfold mo;split
  ·exact nH (by omega) (by omega)
  split
  ·exact nH (by omega) (by omega)
  ·exact kI s
 split
 ·exact mr s _ _ _ h
 ·unfold oh;split
  ·exact nH (by omega) (by omega)
  split
  ·exact nH (by omega) (by omega)
  ·exact kI s
theorem nI{s:Str}{x:Nat}(h:x<s.length)(hb:aW (bI (s.getD x 0))=true)(w:aj aW s 0=x+aj aW s (x:Int)):aj aW s 0=(x+1:Nat)+aj aW s ((x+1:Nat):Int):=by have:=cU (pr:=aW) (s:=s) (a:=(x:Int)) (by omega) (by omega) (by rw[OW];exact hb);have e:((x+1:Nat):Int)=(x:Int)+1:=rfl;rw[e];omega
theorem HR{s:Str}{x:Nat}(h:x<s.length)(hb:aW (bI (s.getD x 0))=false)(w:aj aW s 0=x+aj aW s (x:Int)):aj aW s 0=x:=by have:=gR (pr:=aW) (s:=s) (a:=(x:Int)) (by omega) (by omega) (by rw[OW];exact hb);omega
theorem L5{s:Str}{x:Nat}(h:s.length<=x)(w:aj aW s 0=x+aj aW s (x:Int)):aj aW s 0=x:=by have:=iO (pr:=aW) (s:=s) (a:=(x:Int)) (by omega);omega
end Go.Pd
end
section
namespace Go.Pd
open Go.AL
def Oo:Str:=[48,49,50,51,52,53,54,55,56,57]
def mK(d:Nat):Str:=(Oo.take (d+1)).drop d
def pd:Nat->Nat->Str->Str
 |0,_,acc=>acc
 |f+1,n,acc=>if 10<=n then pd f (n/10) (mK (n/10%10)++acc)else acc
def cv(n:Int):Str:=pd 20 n.toNat (mK (n.toNat%10))
def jh(v:Vers):Str:=cv v.major++[46]++cv v.minor++[46]++cv v.patch++(if v.pre=[]then[]else[45]++v.pre)
def dM(v:Vers):Str×Int:=if bY v=0 then(jh v,0)else([],40)
theorem qg(d:Nat):(mK d).length<=1:=by unfold mK;rw[Pq,Qb];omega
theorem Bz:∀(f n:Nat)(acc:Str),(pd f n acc).length<=f+acc.length
 |0,_,acc=>by show acc.length<=_;omega
 |f+1,n,acc=>by
  unfold pd;split
  ·have:=Bz f (n/10) (mK (n/10%10)++acc);have h:=qg (n/10%10);rw[OT]at this;omega
  ·omega
theorem uG(n:Int):(cv n).length<=21:=by have:=Bz 20 n.toNat (mK (n.toNat%10));have h:=qg (n.toNat%10);unfold cv;omega
theorem nJ{v:Vers}(h:bY v=0):(0<=v.major/\v.major<=999999)/\(0<=v.minor/\v.minor<=999999)/\(0<=v.patch/\v.patch<=999999)/\v.pre.length<=24:=by
 unfold bY at h;split at h
 ·exact absurd h (by decide)
 split at h
 ·exact absurd h (by decide)
 omega
def rvL(s:Str):Nat->Nat->Nat->List Int->Option (List Int×Nat)
 |0,_,_,_=>none
 |f+1,i,p,r=>
  if i<s.length/\¬bI (s.getD i 0)=45 then
   if bI (s.getD i 0)=46 then(if 2<p+1 then none else rvL s f (i+1) (p+1) r)
   else if bI (s.getD i 0)<48∨57<bI (s.getD i 0)then none
   else rvL s f (i+1) p (if r.getD p 0<=999999 then r.set p (10 *r.getD p 0+(bI (s.getD i 0)-48))else r)
  else some (r,i)
def dE(s:Str)(r:List Int)(i:Nat):Vers:=⟨r.getD 0 0,r.getD 1 0,r.getD 2 0,if i<s.length then s.drop (i+1)else[]⟩
def iu(s:Str):Option (List Int×Nat)->Vers×Int
 |none=>(noV,40)
 |some (r,i)=>if ¬(dM (dE s r i)).2=0∨¬(dM (dE s r i)).1=s then(noV,40)else(dE s r i,0)
def fJ(s:Str):Vers×Int:=if 60<s.length then(noV,40)else iu s (rvL s (s.length+1) 0 0 [0,0,0])
theorem N1{r:List Int}{p:Nat}{v:Int}(hl:r.length=3)(hp:p<=2)(hb:∀k,k<3->0<=r.getD k 0/\r.getD k 0<=99999999)(h0:0<=v)(h1:v<=99999999):∀k,k<3->0<=(r.set p v).getD k 0/\(r.set p v).getD k 0<=99999999:=by
 match r,hl with
 |[a,b,c],_=>
  intro k hk;have e:p=0∨p=1∨p=2:=by omega
  have g:k=0∨k=1∨k=2:=by omega
  rcases e with rfl|rfl|rfl<;>rcases g with rfl|rfl|rfl<;>first|exact⟨h0,h1⟩|exact hb 0 (by decide)|exact hb 1 (by decide)|exact hb 2 (by decide)
end Go.Pd
end
section
namespace Go.Pd
open Go.AL
def mL(f n:Nat):Str:=pd f n (mK (n%10))
theorem BA:∀(f n:Nat)(a b:Str),pd f n (a++b)=pd f n a++b
 |0,_,_,_=>rfl
 |f+1,n,a,b=>by
  unfold pd;split
  ·rw[<-Py];exact BA f _ _ b
  ·rfl
theorem mu{f n:Nat}(h:n<10):mL f n=mK n:=by
 unfold mL;rw[Ru h]
 cases f with|zero=>rfl|succ f=>unfold pd;rw[OP (by omega)]
theorem oj{f n:Nat}(h:10<=n):mL (f+1) n=mL f (n/10)++mK (n%10):=by unfold mL;show(if 10<=n then pd f (n/10) (mK (n/10%10)++mK (n%10))else _)=_;rw[OQ h,BA]
theorem qh{d:Nat}(h:d<10):mK d=[UInt8.ofNat (48+d)]:=by
 have:d=0∨d=1∨d=2∨d=3∨d=4∨d=5∨d=6∨d=7∨d=8∨d=9:=by omega
 rcases this with rfl|rfl|rfl|rfl|rfl|rfl|rfl|rfl|rfl|rfl<;>rfl
theorem om{d:Nat}(h:d<10):(UInt8.ofNat (48+d)).toNat=48+d:=by rw[UInt8.toNat_ofNat'];exact Ru (by omega)
theorem uH(a:Str)(c:UInt8):cw (a++[c])=10 *cw a+((c.toNat:Int)-48):=by unfold cw;rw[R1];rfl
theorem L6{d:Nat}(h:d<10):b8 (bI (UInt8.ofNat (48+d)))=true:=by unfold b8 bI;rw[om h,Xd (by omega),Pg,Xd (by omega)]
theorem uI:∀(f n:Nat),n<10 ^ (f+1)->cw (mL f n)=(n:Int)/\((mL f n).all fun c=>b8 (bI c))=true/\1<=(mL f n).length/\(mL f n).length<=f+1/\(1<=n->bI ((mL f n).getD 0 0)≠48)
 |f,n,h=>by
  by_cases hs:n<10
  ·rw[mu hs,qh hs];refine⟨?_,?_,P1 _,by show 1<=f+1;omega,fun h1=>?_⟩
   ·show 10 *(0:Int)+(((UInt8.ofNat (48+n)).toNat:Int)-48)=n;rw[om hs];omega
   ·rw[Pl,L6 hs];rfl
   ·show((UInt8.ofNat (48+n)).toNat:Int)≠48;rw[om hs];omega
  ·match f,h with
   |0,h=>rw[Qa,Nat.pow_one]at h;omega
   |f+1,h=>
    have h10:n/10<10 ^ (f+1):=by rw[S2]at h;exact(Rt (by decide)).2 h
    obtain⟨e1,e2,e3,e4,e5⟩:=uI f (n/10) h10;have hm:n%10<10:=Nat.mod_lt _ (by decide);rw[oj (by omega),qh hm];refine⟨?_,?_,?_,?_,fun _=>?_⟩
    ·rw[uH,e1,om hm];omega
    ·rw[Ri,e2,Pl,L6 hm];rfl
    ·rw[OT];omega
    ·rw[OT];show _+1<=_;omega
    ·have:=e5 (by omega);rw[OV,P5 (by omega),<-OV];exact this
theorem uJ{c:UInt8}(h:b8 (bI c)=true):48<=c.toNat/\c.toNat<=57:=by unfold b8 bI at h;rw[OU,OZ,OZ]at h;omega
theorem uK:∀(l:Str),(l.all fun c=>b8 (bI c))=true->∀a:Int,0<=a->a<=l.foldl (fun n c=>10 *n+((c.toNat:Int)-48)) a
 |[],_,a,_=>Po a
 |c::r,h,a,ha=>by rw[Pl,OU]at h;have:=uJ h.1;have:=uK r h.2 (10 *a+((c.toNat:Int)-48)) (by omega);show a<=r.foldl _ (10 *a+((c.toNat:Int)-48));omega
theorem wS:∀(f:Nat)(t:Str),t.length<=f+1->t≠[]->(t.all fun c=>b8 (bI c))=true->(1<t.length->bI (t.getD 0 0)≠48)->mL f (cw t).toNat=t
 |f,t,hl,hn,ha,hz=>by
  rcases List.eq_nil_or_concat t with e|⟨a,c,rfl⟩
  ·exact absurd e hn
  ·rw[List.concat_eq_append]at hl hn ha hz⊢;rw[Ri,OU,Pl,OU]at ha;have hc:=uJ ha.2.1;rw[uH];have ec:UInt8.ofNat (48+(c.toNat-48))=c:=by rw[show 48+(c.toNat-48)=c.toNat by omega];exact UInt8.ofNat_toNat
   by_cases e:a=[]
   ·subst e;have e0:(10 *cw []+((c.toNat:Int)-48)).toNat=c.toNat-48:=by show(10 *(0:Int)+((c.toNat:Int)-48)).toNat=_;omega
    rw[e0,mu (by omega),qh (by omega),ec];rfl
   ·have hp:=PL.2 e;rw[OT]at hl hz;have hl:a.length+1<=f+1:=hl;have hz:bI ((a++[c]).getD 0 0)≠48:=hz (by show 1<a.length+1;omega);rw[OV,P5 hp,<-OV]at hz
    match f,hl with
    |0,hl=>omega
    |f+1,hl=>
     have ih:=wS f a (by omega) e ha.1 (fun _=>hz)
     have hpos:1<=cw a:=by
      match a,ha.1,hz with
      |[],_,_=>exact absurd rfl e
      |x::r,hx,hz=>rw[Pl,OU]at hx;have h1:=uJ hx.1;have hz:¬(x.toNat:Int)=48:=hz;have:=uK r hx.2 (10 *0+((x.toNat:Int)-48)) (by omega);show 1<=r.foldl _ (10 *0+((x.toNat:Int)-48));omega
     have e1:(10 *cw a+((c.toNat:Int)-48)).toNat/10=(cw a).toNat:=by omega
     have e2:(10 *cw a+((c.toNat:Int)-48)).toNat%10=c.toNat-48:=by omega
     rw[oj (by omega),e1,e2,ih,qh (by omega),ec]
end Go.Pd
end
