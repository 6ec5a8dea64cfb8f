/- What the functions' conditions say, proved. The contracts of the functions. Plain facts. No condition. -/
import Derived.Test.YtdmbjejhifjhbaaGreatDoorT04
set_option linter.all false
set_option maxRecDepth 100000
section
open Go Go.AL Go.Pd
namespace Go.AL.Seat
theorem Mn(n:Nat)(s:Par) (ho:a8 s/\rem s<n+1) :
  let A:=True;let B:=(0:Int);let C:=a7 n;let D:=eo C s;let E:=B=D.1.kind;let F:=[]=D.1.pkg;let G:=[]=D.1.name;let H:=B=D.1.n;let I:=D.1.names=[];let J:=D.1.vars=[];let K:=D.1.shapes=[];let L:=D.1.parts=[];let M:=aH s;let N:=M.pos=D.1.pos;let O:=(1:Int);let P:=inR IntKind.i64 (s.pos+O);let Q:=I/\J/\K/\L/\N/\s.toks=D.2.toks/\s.pos+O=D.2.pos/\s.err=D.2.err/\s.fat=D.2.fat/\A;let R:=(2:Int);let S:=M.text=D.1.name;let T:=([47]:Str);let U:=(cZ T {toks:=s.toks,pos:=s.pos+O,err:=s.err,fat:=s.fat:Par});let V:=(5:Int)=D.1.kind;let W:=([116,114,117,101]:Str);let X:=cZ W s;let Y:=([102,97,108,115,101]:Str);let Z:=cZ Y X;let a:=([40]:Str);let b:=cZ a Z;let c:=a7 n b;let d:=([97,115]:Str);let e:=cZ d c.2;let f:=ck e;let g:=(cZ ([123]:Str) b);let h:=(ai ([44]:Str) ([125]:Str) (ao C) {kind:=(8:Int),pkg:=[],name:=[],n:=B,names:=[],vars:=[],shapes:=[],parts:=[],pos:=M.pos:Trm} g);let i:=(cZ ([64]:Str) g);let j:=bd O i;let k:=dQ C j.2;let l:=([110,101,119]:Str);let m:=cZ l i;let o:=bd R m;let p:=dQ C o.2;let q:=([114,97,119]:Str);let r:=cZ q m;let t:=bd R r;let u:=dQ C t.2;a8 s/\if b6 s=true then A/\E/\F/\G/\H/\I/\J/\K/\L/\N/\s=D.2/\A else if decide (M.kind=(3:Int))=true then P/\ld M.text/\A/\O=D.1.kind/\F/\G/\ei M.text=D.1.n/\Q else if decide (M.kind=(4:Int))=true then P/\A/\R=D.1.kind/\F/\S/\H/\Q else if decide (M.kind=O)=true then P/\a8 {toks:=s.toks,pos:=s.pos+O,err:=s.err,fat:=s.fat:Par}/\if isF T {toks:=s.toks,pos:=s.pos+O,err:=s.err,fat:=s.fat:Par}=true then(a8 U/\¬O=B)/\A/\V/\M.text=D.1.pkg/\(bd O U).1.text=D.1.name/\H/\I/\J/\K/\L/\N/\(bd O U).2=D.2/\A else A/\V/\F/\S/\H/\I/\J/\K/\L/\N/\cZ T {toks:=s.toks,pos:=s.pos+O,err:=s.err,fat:=s.fat:Par}=D.2/\A else a8 s/\if isF W s=true then A/\(3:Int)=D.1.kind/\F/\G/\H/\I/\J/\K/\L/\N/\cZ W s=D.2/\A else a8 X/\if isF Y X=true then A/\(4:Int)=D.1.kind/\F/\G/\H/\I/\J/\K/\L/\N/\cZ Y X=D.2/\A else a8 Z/\if isF a Z=true then(a8 b/\rem b<n)/\a8 c.2/\if(!isF d c.2)=true then a8 e/\A/\c.1=D.1/\au ([41]:Str) e=D.2/\A else a8 e/\a8 f.2/\A/\(15:Int)=D.1.kind/\F/\G/\H/\I/\J/\[f.1]=D.1.shapes/\[c.1]=D.1.parts/\N/\au ([41]:Str) f.2=D.2/\A else a8 b/\if isF ([123]:Str) b=true then(a8 g/\rem g<=n)/\A/\h.1.kind=D.1.kind/\h.1.pkg=D.1.pkg/\h.1.name=D.1.name/\h.1.n=D.1.n/\h.1.names=D.1.names/\J/\K/\h.1.parts=D.1.parts/\h.1.pos=D.1.pos/\h.2=D.2/\A else a8 g/\if isF ([64]:Str) g=true then(a8 i/\¬O=B)/\(a8 j.2/\rem (au a j.2)<n)/\A/\(10:Int)=D.1.kind/\F/\j.1.text=D.1.name/\H/\I/\J/\K/\k.1=D.1.parts/\N/\k.2=D.2/\A else a8 i/\if isF l i=true then(a8 m/\¬R=B)/\(a8 o.2/\rem (au a o.2)<n)/\A/\(16:Int)=D.1.kind/\F/\o.1.text=D.1.name/\H/\I/\J/\K/\p.1=D.1.parts/\N/\p.2=D.2/\A else a8 m/\if isF q m=true then(a8 r/\¬R=B)/\(a8 t.2/\rem (au a t.2)<n)/\A/\(17:Int)=D.1.kind/\F/\t.1.text=D.1.name/\H/\I/\J/\K/\u.1=D.1.parts/\N/\u.2=D.2/\A else A/\E/\F/\G/\H/\I/\J/\K/\L/\N/\dh (90:Int) M.pos r=D.2/\A:=by
 conv=>zeta
 obtain⟨hi,hn⟩:=ho;obtain⟨G,hG⟩:∃G,G=eo (a7 n) s:=⟨_,rfl⟩;rw[<-hG];unfold eo at hG;have i1:=hi.1;have i2:=hi.2.2.1;have hR:=dR n;refine⟨hi,a6 (fun b=>?_) (fun b=>?_)⟩
 ·rw[OB b]at hG;subst hG;exact Xr
 rw[OA b]at hG;have b:b6 s=false:=by simpa using b
 apply a6<;>intro k
 ·replace k:=Xo k;rw[OB k]at hG;subst hG;have hl:=fj (l:=s.toks) (a:=s.pos) (by unfold aH at k;omega);have hm:aH s∈s.toks:=by unfold aH az;rw[OB hl];exact bO s.toks s.pos.toNat (dfl (.st .token)) (by omega)
  refine⟨aj (by omega) (by omega),hi.2.2.2 _ hm k,?_⟩;exact Xr
 replace k:¬(aH s).kind=3:=fun e=>k (Xd e);rw[OA k]at hG;apply a6<;>intro k
 ·replace k:=Xo k;rw[OB k]at hG;subst hG;have hl:=fj (l:=s.toks) (a:=s.pos) (by unfold aH at k;omega);refine⟨aj (by omega) (by omega),?_⟩;exact Xr
 replace k:¬(aH s).kind=4:=fun e=>k (Xd e);rw[OA k]at hG;apply a6<;>intro k
 ·replace k:=Xo k;rw[OB k]at hG;have hl:=fj (l:=s.toks) (a:=s.pos) (by unfold aH at k;omega);have m:=(lT hi (by decide) k b).1;refine⟨aj (by omega) (by omega),m.good,?_⟩;show(if isF [47] (aQ s)=true then _ else _);apply a6<;>intro c
  ·rw[OB c]at hG;subst hG;have m2:=bH m.good c;have e:cZ [47] (⟨s.toks,s.pos+1,s.err,s.fat⟩:Par)=aQ (aQ s):=aW c;rw[e];refine⟨⟨m2.good,by decide⟩,?_⟩;exact Xr
  ·rw[OA c]at hG;subst hG;have c:isF [47] (aQ s)=false:=by simpa using c
   have e:cZ [47] (⟨s.toks,s.pos+1,s.err,s.fat⟩:Par)=aQ s:=b8 c;rw[e];exact Xr
 replace k:¬(aH s).kind=1:=fun e=>k (Xd e);rw[OA k]at hG;refine⟨hi,a6 (fun c=>?_) (fun c=>?_)⟩;rotate_left
 ·rw[OA c]at hG;have c:isF [116,114,117,101] s=false:=by simpa using c
  rw[b8 c];refine⟨hi,a6 (fun c=>?_) (fun c=>?_)⟩;rotate_left
  ·rw[OA c]at hG;have c:isF [102,97,108,115,101] s=false:=by simpa using c
   rw[b8 c];refine⟨hi,a6 (fun c=>?_) (fun c=>?_)⟩;rotate_left
   ·rw[OA c]at hG;have c:isF [40] s=false:=by simpa using c
    rw[b8 c];refine⟨hi,a6 (fun c=>?_) (fun c=>?_)⟩;rotate_left
    ·rw[OA c]at hG;have c:isF [123] s=false:=by simpa using c
     rw[b8 c];refine⟨hi,a6 (fun c=>?_) (fun c=>?_)⟩;rotate_left
     ·rw[OA c]at hG;have c:isF [64] s=false:=by simpa using c
      rw[b8 c];refine⟨hi,a6 (fun c=>?_) (fun c=>?_)⟩;rotate_left
      ·rw[OA c]at hG;have c:isF [110,101,119] s=false:=by simpa using c
       rw[b8 c];refine⟨hi,a6 (fun c=>?_) (fun c=>?_)⟩;rotate_left
       ·rw[OA c]at hG;have c:isF [114,97,119] s=false:=by simpa using c
        rw[b8 c];subst hG;exact Xr
       rw[OB c]at hG;have m:=bH hi c;have r:=bP hi c;rw[aW c];subst hG;have a:=er (k:=2) m.good (by decide);have al:=a.goes.le;have b:=(aN (t:=[40]) a.good).goes.le;refine⟨⟨m.good,by decide⟩,⟨a.good,by omega⟩,?_⟩;exact Xr
      rw[OB c]at hG;have m:=bH hi c;have r:=bP hi c;rw[aW c];subst hG;have a:=er (k:=2) m.good (by decide);have al:=a.goes.le;have b:=(aN (t:=[40]) a.good).goes.le;refine⟨⟨m.good,by decide⟩,⟨a.good,by omega⟩,?_⟩;exact Xr
     rw[OB c]at hG;have m:=bH hi c;have r:=bP hi c;rw[aW c];subst hG;have a:=er (k:=1) m.good (by decide);have al:=a.goes.le;have b:=(aN (t:=[40]) a.good).goes.le;refine⟨⟨m.good,by decide⟩,⟨a.good,by omega⟩,?_⟩;exact Xr
    rw[OB c]at hG;have m:=bH hi c;have r:=bP hi c;rw[aW c];have hx:(⟨8,[],[],0,[],[],[],[],(aH s).pos⟩:Trm).vars=[]/\(⟨8,[],[],0,[],[],[],[],(aH s).pos⟩:Trm).shapes=[]:=⟨rfl,rfl⟩;have kv:=du (fun x:Trm=>x.vars=[]) (one:=ao (a7 n)) (fun x s h=>h) [44] [125] (x:=⟨8,[],[],0,[],[],[],[],(aH s).pos⟩) (aQ s) rfl;have ks:=du (fun x:Trm=>x.shapes=[]) (one:=ao (a7 n)) (fun x s h=>h) [44] [125] (x:=⟨8,[],[],0,[],[],[],[],(aH s).pos⟩) (aQ s) rfl;rw[<-hG]at kv ks⊢;refine⟨⟨m.good,by omega⟩,?_⟩
    repeat (first|exact trivial|refine⟨by first|rfl|trivial|exact kv|exact ks,?_⟩)
   rw[OB c]at hG;have m:=bH hi c;have r:=bP hi c;rw[aW c];have a:=hR.moves m.good (by omega);refine⟨⟨m.good,by omega⟩,a.good,a6 (fun d=>?_) (fun d=>?_)⟩
   ·have d:isF [97,115] (a7 n (aQ s)).2=false:=by simpa using d
    rw[b8 d];rw[OA (by simp[d])]at hG;subst hG;refine⟨a.good,?_⟩;exact Xr
   ·have d:isF [97,115] (a7 n (aQ s)).2=true:=by simpa using d
    rw[aW d];rw[OB d]at hG;subst hG;have a2:=bH a.good d;refine⟨a2.good,(kr a2.good).good,?_⟩;exact Xr
  rw[OB c]at hG;have m:=bH hi c;have r:=bP hi c;rw[aW c];subst hG;exact Xr
 rw[OB c]at hG;have m:=bH hi c;have r:=bP hi c;rw[aW c];subst hG;exact Xr
theorem Mo(n:Nat)(s:Par) (ho:a8 s/\rem s<n+1) :
  let A:=([102,117,110]:Str);let B:=cZ A s;let C:=(au ([40]:Str) B);let D:=(0:Int);let E:=(ai ([44]:Str) ([41]:Str) aK {kind:=(6:Int),pkg:=[],name:=[],n:=D,names:=[],vars:=[],shapes:=[],parts:=[],pos:=(aH s).pos:Trm} C);let F:=(au ([45,62]:Str) E.2);let G:=(100000:Nat);let H:=True;let I:=(1:Nat);let J:=a7 (n+I) s;let K:=J.1.vars=[];let L:=([108,101,116]:Str);let M:=cZ L B;let N:=(bd (1:Int) M);let O:=(au ([61]:Str) N.2);let P:=a7 n O;let Q:=(au ([105,110]:Str) P.2);let R:=[]++[P.1];let S:=[]=J.1.pkg;let T:=J.1.names=[];let U:=(aH s).pos=J.1.pos;let V:=([105,102]:Str);let W:=cZ V M;let X:=a7 n W;let Y:=(au ([116,104,101,110]:Str) X.2);let Z:=[X.1];let a:=[]++Z;let b:=a7 n Y;let c:=(au ([101,108,115,101]:Str) b.2);let d:=[]++Z++[b.1];let e:=a7 n c;let f:=[]++Z++[b.1]++[e.1];let g:=([97,115]:Str);let h:=ck (au g e.2);let i:=([99,97,115,101]:Str);let j:=cZ i W;let k:=a7 n j;let l:=([111,102]:Str);let m:=au l k.2;let o:=(au ([123]:Str) m);let p:=[]++[k.1];let q:=a7 n;let r:=(ai ([124]:Str) ([125]:Str) (ax q) {kind:=(13:Int),pkg:=[],name:=[],n:=D,names:=[],vars:=[],shapes:=[],parts:=[]++[k.1],pos:=(aH s).pos:Trm} o);let t:=ck (au g r.2);let u:=(cZ ([91]:Str) j);let v:=(ai ([44]:Str) ([93]:Str) (aF q) {kind:=(11:Int),pkg:=[],name:=[],n:=D,names:=[],vars:=[],shapes:=[],parts:=[],pos:=(aH s).pos:Trm} u);let w:=ck (au l v.2);a8 s/\a8 s/\if isF A s=true then a8 B/\(a8 C/\rem C<=n)/\a8 E.2/\(a8 F/\rem F<n/\List.length E.1.names=List.length E.1.names/\List.length E.1.shapes=List.length E.1.shapes/\List.length E.1.names+List.length E.1.shapes<=G)/\H/\E.1.kind=J.1.kind/\E.1.pkg=J.1.pkg/\E.1.name=J.1.name/\E.1.n=J.1.n/\E.1.names=J.1.names/\K/\E.1.shapes=J.1.shapes/\[]++[(a7 n F).1]=J.1.parts/\E.1.pos=J.1.pos/\(a7 n F).2=J.2/\H else a8 B/\if isF L B=true then(a8 M/\¬(1:Int)=D)/\a8 N.2/\(a8 O/\rem O<n)/\a8 P.2/\(a8 Q/\rem Q<n/\List.length R=List.length R/\List.length R<=G)/\H/\(14:Int)=J.1.kind/\S/\N.1.text=J.1.name/\D=J.1.n/\T/\K/\J.1.shapes=[]/\[]++[P.1]++[(a7 n Q).1]=J.1.parts/\U/\(a7 n Q).2=J.2/\H else a8 M/\if isF V M=true then(a8 W/\rem W<n)/\a8 X.2/\(a8 Y/\rem Y<n/\List.length a=List.length a/\List.length a<=G)/\a8 b.2/\(a8 c/\rem c<n/\List.length d=List.length d/\List.length d<=G)/\(a8 e.2/\List.length f=List.length f/\List.length f<=G)/\H/\(12:Int)=J.1.kind/\S/\[]=J.1.name/\D=J.1.n/\T/\K/\[]++[h.1]=J.1.shapes/\[]++Z++[b.1]++[e.1]=J.1.parts/\U/\h.2=J.2/\H else a8 W/\if isF i W=true then(a8 j/\rem j<n)/\a8 k.2/\a8 m/\(a8 o/\rem o<=n/\List.length p=List.length p/\List.length p<=I)/\(a8 r.2/\List.length r.1.names=List.length r.1.names/\List.length r.1.vars=List.length r.1.vars/\List.length r.1.shapes=List.length r.1.shapes/\List.length r.1.parts=List.length r.1.parts/\List.length r.1.names+List.length r.1.vars+List.length r.1.shapes+List.length r.1.parts<=G)/\H/\r.1.kind=J.1.kind/\r.1.pkg=J.1.pkg/\r.1.name=J.1.name/\r.1.n=J.1.n/\r.1.names=J.1.names/\r.1.vars=J.1.vars/\r.1.shapes++[t.1]=J.1.shapes/\r.1.parts=J.1.parts/\r.1.pos=J.1.pos/\t.2=J.2/\H else a8 j/\if isF ([91]:Str) j=true then(a8 u/\rem u<n)/\(a8 v.2/\List.length v.1.parts=List.length v.1.parts/\List.length v.1.parts<=G)/\H/\v.1.kind=J.1.kind/\v.1.pkg=J.1.pkg/\v.1.name=J.1.name/\v.1.n=J.1.n/\T/\K/\[]++[w.1]=J.1.shapes/\v.1.parts=J.1.parts/\v.1.pos=J.1.pos/\w.2=J.2/\H else(a8 u/\rem u<n+I)/\H/\(gi q u).1=J.1/\(gi q u).2=J.2/\H:=by
 conv=>zeta
 obtain⟨hi,hn⟩:=ho;obtain⟨G,hG⟩:∃G,G=mq (a7 n) s:=⟨_,rfl⟩;rw[show a7 (n+1) s=G from hG.symm];unfold mq at hG;have hl:=hi.2.2.1;have hR:=dR n;refine⟨hi,?_⟩;refine⟨hi,a6 (fun c=>?_) (fun c=>?_)⟩;rotate_left
 ·rw[OA c]at hG;have c:isF [102,117,110] s=false:=by simpa using c
  rw[b8 c];refine⟨hi,a6 (fun c=>?_) (fun c=>?_)⟩;rotate_left
  ·rw[OA c]at hG;have c:isF [108,101,116] s=false:=by simpa using c
   rw[b8 c];refine⟨hi,a6 (fun c=>?_) (fun c=>?_)⟩;rotate_left
   ·rw[OA c]at hG;have c:isF [105,102] s=false:=by simpa using c
    rw[b8 c];refine⟨hi,a6 (fun c=>?_) (fun c=>?_)⟩;rotate_left
    ·rw[OA c]at hG;have c:isF [99,97,115,101] s=false:=by simpa using c
     rw[b8 c];refine⟨hi,a6 (fun c=>?_) (fun c=>?_)⟩;rotate_left
     ·rw[OA c]at hG;have c:isF [91] s=false:=by simpa using c
      rw[b8 c];refine⟨⟨hi,hn⟩,?_⟩;subst hG;exact Xr
     rw[OB c]at hG;have m:=bH hi c;have r:=bP hi c;rw[aW c]
     have hRp:fV (aF (a7 n)) (n-1):=gK (by
      have hp:=fk (fK c).2;by_cases h:n=0
      ·subst h;have:=bP hi c;have h5:rem (aQ s)=0:=by omega
       omega
      ·rw[PR (by omega)];exact hR)
     have hn1:rem (aQ s)<n:=by omega
     have ht:=m.goes.toks;have g:=bT hRp [44] [93] (⟨11,[],[],0,[],[],[],[],(aH s).pos⟩:Trm) m.good (by omega);have kn:=du (fun x:Trm=>x.names=[]) (one:=aF (a7 n)) (fun x s h=>h) [44] [93] (x:=(⟨11,[],[],0,[],[],[],[],(aH s).pos⟩:Trm)) (aQ s) rfl;have kv:=du (fun x:Trm=>x.vars=[]) (one:=aF (a7 n)) (fun x s h=>h) [44] [93] (x:=(⟨11,[],[],0,[],[],[],[],(aH s).pos⟩:Trm)) (aQ s) rfl;have ks:=du (fun x:Trm=>x.shapes=[]) (one:=aF (a7 n)) (fun x s h=>h) [44] [93] (x:=(⟨11,[],[],0,[],[],[],[],(aH s).pos⟩:Trm)) (aQ s) rfl;have lp:=eI (fun x:Trm=>x.parts.length) (one:=aF (a7 n)) (fun x s=>by simp[aF,ar,aK,fe,ak,bc,ax,cK]) [44] [93] (⟨11,[],[],0,[],[],[],[],(aH s).pos⟩:Trm) (aQ s);replace hG:G=fe [111,102] (ai [44] [93] (aF (a7 n)) (⟨11,[],[],0,[],[],[],[],(aH s).pos⟩:Trm) (aQ s)).1 (ai [44] [93] (aF (a7 n)) (⟨11,[],[],0,[],[],[],[],(aH s).pos⟩:Trm) (aQ s)).2:=hG;generalize ai [44] [93] (aF (a7 n)) (⟨11,[],[],0,[],[],[],[],(aH s).pos⟩:Trm) (aQ s)=L at hG g kn kv ks lp⊢;subst hG;simp only[ht,P7]at lp;refine⟨⟨m.good,hn1⟩,⟨g.good,by trivial,by omega⟩,?_⟩
     repeat (first|exact trivial|refine⟨by first|rfl|trivial|exact kn|exact kv|exact ks|exact kp|(show[]++[_]=L.1.parts++[_];rw[kp])|(show[]++[_]=L.1.shapes++[_];rw[ks]),?_⟩)
    rw[OB c]at hG;have m:=bH hi c;have r:=bP hi c;rw[aW c];have a:=hR.moves m.good (by omega);have al:=a.goes.le;have b:=aN (t:=[111,102]) a.good;have bl:=b.goes.le;have d:=aN (t:=[123]) b.good;have dl:=d.goes.le;have ht:=(((m.then a).then b).then d).goes.toks;have g:=bT (qo hR) [124] [125] (⟨13,[],[],0,[],[],[],[]++[(a7 n (aQ s)).1],(aH s).pos⟩:Trm) d.good (by omega);have ln:=eI (fun x:Trm=>x.names.length) (one:=ax (a7 n)) (fun x s=>by simp[aF,ar,aK,fe,ak,bc,ax,cK]) [124] [125] (⟨13,[],[],0,[],[],[],[]++[(a7 n (aQ s)).1],(aH s).pos⟩:Trm) (au [123] (au [111,102] (a7 n (aQ s)).2));have lv:=eI (fun x:Trm=>x.vars.length) (one:=ax (a7 n)) (fun x s=>by simp[aF,ar,aK,fe,ak,bc,ax,cK]) [124] [125] (⟨13,[],[],0,[],[],[],[]++[(a7 n (aQ s)).1],(aH s).pos⟩:Trm) (au [123] (au [111,102] (a7 n (aQ s)).2));have ls:=eI (fun x:Trm=>x.shapes.length) (one:=ax (a7 n)) (fun x s=>by simp[aF,ar,aK,fe,ak,bc,ax,cK]) [124] [125] (⟨13,[],[],0,[],[],[],[]++[(a7 n (aQ s)).1],(aH s).pos⟩:Trm) (au [123] (au [111,102] (a7 n (aQ s)).2));have lp:=eI (fun x:Trm=>x.parts.length) (one:=ax (a7 n)) (fun x s=>by simp[aF,ar,aK,fe,ak,bc,ax,cK]) [124] [125] (⟨13,[],[],0,[],[],[],[]++[(a7 n (aQ s)).1],(aH s).pos⟩:Trm) (au [123] (au [111,102] (a7 n (aQ s)).2))
    replace hG:G=fe [97,115] (ai [124] [125] (ax (a7 n)) (⟨13,[],[],0,[],[],[],[]++[(a7 n (aQ s)).1],(aH s).pos⟩:Trm) (au [123] (au [111,102] (a7 n (aQ s)).2))).1 (ai [124] [125] (ax (a7 n)) (⟨13,[],[],0,[],[],[],[]++[(a7 n (aQ s)).1],(aH s).pos⟩:Trm) (au [123] (au [111,102] (a7 n (aQ s)).2))).2:=hG;generalize ai [124] [125] (ax (a7 n)) (⟨13,[],[],0,[],[],[],[]++[(a7 n (aQ s)).1],(aH s).pos⟩:Trm) (au [123] (au [111,102] (a7 n (aQ s)).2))=L at hG g ln lv ls lp⊢;subst hG;simp only[ht,P7,OE,OD]at ln lv ls lp;refine⟨⟨m.good,by omega⟩,a.good,b.good,⟨d.good,by omega,by trivial,by simp⟩,⟨g.good,by trivial,by trivial,by trivial,by trivial,by omega⟩,?_⟩;exact Xr
   rw[OB c]at hG;have m:=bH hi c;have r:=bP hi c;rw[aW c];replace hG:G=fe [97,115] (aF (a7 n) (aF (a7 n) (aF (a7 n) ⟨12,[],[],0,[],[],[],[],(aH s).pos⟩ (aQ s)).1 (au [116,104,101,110] (a7 n (aQ s)).2)).1 (au [101,108,115,101] (a7 n (au [116,104,101,110] (a7 n (aQ s)).2)).2)).1 (a7 n (au [101,108,115,101] (a7 n (au [116,104,101,110] (a7 n (aQ s)).2)).2)).2:=hG;subst hG;have a:=hR.moves m.good (by omega);have al:=a.goes.le;have b:=aN (t:=[116,104,101,110]) a.good;have bl:=b.goes.le;have d:=hR.moves b.good (by omega);have dl:=d.goes.le;have e:=aN (t:=[101,108,115,101]) d.good;have el:=e.goes.le;have f:=hR.moves e.good (by omega);refine⟨⟨m.good,by omega⟩,a.good,⟨b.good,by omega,by trivial,by simp⟩,d.good,⟨e.good,by omega,by trivial,by simp⟩,⟨f.good,by trivial,by simp⟩,?_⟩;exact Xr
  rw[OB c]at hG;have m:=bH hi c;have r:=bP hi c;rw[aW c];replace hG:G=aF (a7 n) (aF (a7 n) ⟨14,[],(bd 1 (aQ s)).1.text,0,[],[],[],[],(aH s).pos⟩ (au [61] (bd 1 (aQ s)).2)).1 (au [105,110] (a7 n (au [61] (bd 1 (aQ s)).2)).2):=hG;subst hG;have a:=er (k:=1) m.good (by decide);have al:=a.goes.le;have b:=aN (t:=[61]) a.good;have bl:=b.goes.le;have d:=hR.moves b.good (by omega);have dl:=d.goes.le;have e:=aN (t:=[105,110]) d.good;have el:=e.goes.le;refine⟨⟨m.good,by decide⟩,a.good,⟨b.good,by omega⟩,d.good,⟨e.good,by omega,by trivial,by simp⟩,?_⟩;exact Xr
 rw[OB c]at hG;have m:=bH hi c;have r:=bP hi c;rw[aW c];have a:=aN (t:=[40]) m.good;have al:=a.goes.le;have ht:=(m.then a).goes.toks;have g:=bT (qn n) [44] [41] (⟨6,[],[],0,[],[],[],[],(aH s).pos⟩:Trm) a.good (by omega);have ln:=eI (fun x:Trm=>x.names.length) (one:=aK) (fun x s=>by simp[aF,ar,aK,fe,ak,bc,ax,cK]) [44] [41] (⟨6,[],[],0,[],[],[],[],(aH s).pos⟩:Trm) (au [40] (aQ s));have ls:=eI (fun x:Trm=>x.shapes.length) (one:=aK) (fun x s=>by simp[aF,ar,aK,fe,ak,bc,ax,cK]) [44] [41] (⟨6,[],[],0,[],[],[],[],(aH s).pos⟩:Trm) (au [40] (aQ s));have kv:=du (fun x:Trm=>x.vars=[]) (one:=aK) (fun x s h=>h) [44] [41] (x:=(⟨6,[],[],0,[],[],[],[],(aH s).pos⟩:Trm)) (au [40] (aQ s)) rfl;have kp:=du (fun x:Trm=>x.parts=[]) (one:=aK) (fun x s h=>h) [44] [41] (x:=(⟨6,[],[],0,[],[],[],[],(aH s).pos⟩:Trm)) (au [40] (aQ s)) rfl;replace hG:G=aF (a7 n) (ai [44] [41] aK (⟨6,[],[],0,[],[],[],[],(aH s).pos⟩:Trm) (au [40] (aQ s))).1 (au [45,62] (ai [44] [41] aK (⟨6,[],[],0,[],[],[],[],(aH s).pos⟩:Trm) (au [40] (aQ s))).2):=hG;generalize ai [44] [41] aK (⟨6,[],[],0,[],[],[],[],(aH s).pos⟩:Trm) (au [40] (aQ s))=L at hG g ln ls kv kp⊢;subst hG;simp only[ht,P7]at ln ls;have gl:=g.le;have b:=aN (t:=[45,62]) g.good;have bl:=b.goes.le;refine⟨m.good,⟨a.good,by omega⟩,g.good,⟨b.good,by omega,by trivial,by trivial,by omega⟩,?_⟩
 repeat (first|exact trivial|refine⟨by first|rfl|trivial|exact kn|exact kv|exact ks|exact kp|(show[]++[_]=L.1.parts++[_];rw[kp])|(show[]++[_]=L.1.shapes++[_];rw[ks]),?_⟩)
theorem K6(l:List Tokn)(a:Int)(hl:Wf (.lst (.st .token)) l) :
  let A:=(0:Int);let B:=True;let C:=B/\dh (2:Int) A {toks:=l,pos:=a,err:=A,fat:=A:Par}=bE l a/\B;let D:=(↑(List.length l):Int);let E:=bE l a;if decide (a<A)=true then C else if decide (D<a)=true then C else if decide ((4097:Int)<D)=true then B/\dh (3:Int) A {toks:=l,pos:=a,err:=A,fat:=A:Par}=bE l a/\B else B/\l=E.toks/\a=E.pos/\A=E.err/\A=E.fat/\B:=by
 conv=>zeta
 have hn:=hl.len;apply a6<;>intro h
 ·replace h:=Xo h;have e:bE l a=⟨l,a,2,0⟩:=by unfold bE;rw[OB (.inl h)]
  rw[e];exact Xr
 replace h:¬a<0:=fun e=>h (Xd e);apply a6<;>intro k
 ·replace k:=Xo k;have e:bE l a=⟨l,a,2,0⟩:=by unfold bE;rw[OB (.inr k)]
  rw[e];exact Xr
 replace k:¬(l.length:Int)<a:=fun e=>k (Xd e);have hb:¬(a<0∨(l.length:Int)<a):=fun e=>e.elim h k;apply a6<;>intro d
 ·replace d:=Xo d;have e:bE l a=⟨l,a,3,0⟩:=by unfold bE;rw[OA hb,OB (by omega)]
  rw[e];exact Xr
 ·replace d:¬(4097:Int)<(l.length:Int):=fun e=>d (Xd e);have e:bE l a=⟨l,a,0,0⟩:=by unfold bE;rw[OA hb,OA (by omega)]
  rw[e];exact Xr
theorem GC(l:List Tokn)(a:Int)(hl:Wf (.lst (.st .token)) l)(ho:0<=a/\a<(l.length:Int)) :
  let A:=(↑(List.length l):Int);let B:=(0:Int);let C:=fm l a;inR IntKind.i64 (A-(1:Int))/\if(!decide (a=A-(1:Int)))=true then(B<=a/\a<A)/\True/\(90:Int)=C.err/\(List.getD l (Int.toNat a) (dfl (Ty.st SN.token))).pos=C.pos/\True else True/\B=C.err/\B=C.pos/\True:=by
 conv=>zeta
 have hn:=hl.len;refine⟨aj (by omega) (by omega),a6 (fun h=>?_) (fun h=>?_)⟩
 ·have h:¬a=(l.length:Int)-1:=by simpa using h
  unfold fm;rw[OA h];refine⟨ho,?_⟩;exact Xr
 ·have h:a=(l.length:Int)-1:=by simpa using h
  unfold fm;rw[OB h];exact Xr
theorem Mp(l:List Tokn)(a:Int)(hN:aO l) :
  let A:=bE l a;let B:=True;let C:=(0:Int);let D:=jo l a;let E:=C=D.1.kind;let F:=[]=D.1.pkg;let G:=[]=D.1.name;let H:=D.1.names=[];let I:=D.1.parts=[];let J:=ck A;if b6 A=true then B/\E/\F/\G/\H/\I/\C=D.2.1/\A.err=D.2.2.err/\A.fat=D.2.2.pos/\B else a8 A/\if b6 J.2=true then B/\E/\F/\G/\H/\I/\C=D.2.1/\J.2.err=D.2.2.err/\J.2.fat=D.2.2.pos/\B else B/\J.1=D.1/\J.2.pos=D.2.1/\C=D.2.2.err/\C=D.2.2.pos/\B:=by
 conv=>zeta
 obtain⟨G,hG⟩:∃G,G=jo l a:=⟨_,rfl⟩;rw[<-hG];unfold jo at hG;apply a6<;>intro h
 ·rw[OB h]at hG;subst hG;exact Xr
 ·rw[OA h]at hG;have h:b6 (bE l a)=false:=by simpa using h
  have g:=lU hN h;unfold rG at hG;refine⟨g,a6 (fun k=>?_) (fun k=>?_)⟩
  ·rw[OB k]at hG;subst hG;exact Xr
  ·rw[OA k]at hG;subst hG;exact Xr
theorem GD(n:Nat)(t:Trm)(m:Int)(hs:Wf (.st .term) t)(hz:szT t<=n+1)(h0:0<=m)(h1:m<=1000000) :
  let A:=(1:Int);let B:=(0:Int);let C:=(↑(List.length t.parts):Int);let D:=t=t/\m=m/\B=B/\B=B/\t.parts=t.parts/\C=C/\t=t/\True;let E:=countT t m;let F:=dfl (Ty.st SN.term);(∃(x:Nat×Int×Int),(x.1<=List.length t.parts/\A<=x.2.1/\x.2.1<=m+A/\B<=x.2.2/\x.2.2+A<=x.2.1/\countL (List.drop x.1 t.parts) m x.2.1 x.2.2=countL t.parts m A B)/\A=x.2.1/\B=x.2.2/\B=(↑x.1:Int)/\D)/\∀(x:Nat×Int×Int),let G:=(↑x.1:Int);let H:=inR IntKind.i64 (x.2.2+A)/\True/\x.2.1=E.1/\x.2.2+A=E.2/\True;let I:=m-x.2.1;let J:=List.getD t.parts (Int.toNat G) F;let K:=countT J I;x.1<=List.length t.parts/\A<=x.2.1/\x.2.1<=m+A/\B<=x.2.2/\x.2.2+A<=x.2.1/\countL (List.drop x.1 t.parts) m x.2.1 x.2.2=countL t.parts m A B->if decide (G<C)=true then(B<=G/\G<C)/\if decide (m<x.2.1)=true then H else inR IntKind.i64 I/\(szT J<=n/\B<=m-x.2.1/\m-x.2.1<=(1000000:Int))/\inR IntKind.i64 (x.2.1+K.1)/\inR IntKind.i64 (G+A)/\∃(y:Nat×Int×Int),(y.1<=List.length t.parts/\A<=y.2.1/\y.2.1<=m+A/\B<=y.2.2/\y.2.2+A<=y.2.1/\countL (List.drop y.1 t.parts) m y.2.1 y.2.2=countL t.parts m A B)/\List.length t.parts-y.1<List.length t.parts-x.1/\x.2.1+K.1=y.2.1/\max x.2.2 K.2=y.2.2/\G+A=(↑y.1:Int)/\D else H:=by
 conv=>zeta
 have ln:=hs.term_parts.len;rw[Ge];refine⟨⟨(0,1,0),⟨OJ _,by decide,by show(1:Int)<=m+1;omega,by decide,by decide,rfl⟩,rfl,rfl,rfl,?_⟩,?_⟩
 ·exact Xr
 rintro⟨k,a,d⟩ ⟨h1,h2,h3,h4,h5,h6⟩;simp only[OH]at h1 h2 h3 h4 h5 h6⊢;apply a6<;>intro h
 ·replace h:=Xo h;have hk:k<t.parts.length:=by omega
  rw[aJ t.parts k (dfl (.st .term)) hk,countL]at h6;refine⟨by omega,a6 (fun c=>?_) (fun c=>?_)⟩
  ·replace c:=Xo c;rw[OB c]at h6;rw[<-h6];refine⟨aj (by omega) (by omega),?_⟩;exact Xr
  ·replace c:¬m<a:=fun e=>c (Xd e);rw[OA c]at h6;have hm:=jt (bO t.parts k (dfl (.st .term)) hk);have he:=mW t;have hb:=countT_bound (t.parts.getD k (dfl (.st .term))) (m-a) (by omega);refine⟨aj (by omega) (by omega),⟨by omega,by omega,by omega⟩,aj (by omega) (by omega),ba hk ln,(k+1,_,_),⟨by show k+1<=_;omega,?_,?_,?_,?_,h6⟩,by show _-(k+1)<_;omega,rfl,rfl,by show _=((k+1:Nat):Int);omega,?_⟩
   ·show(1:Int)<=a+_;omega
   ·show a+_<=m+1;omega
   ·show(0:Int)<=max d _;omega
   ·show max d _+1<=a+_;omega
   exact Xr
 ·replace h:¬((k:Int)<(t.parts.length:Int)):=fun e=>h (Xd e);have e:k=t.parts.length:=by omega
  subst e;rw[OO,countL]at h6;rw[<-h6];refine⟨aj (by omega) (by omega),?_⟩;exact Xr
theorem CU (x:Str)  :
  True/\(!aX x)=!aX x/\True:=by
 exact⟨trivial,by trivial,trivial⟩
theorem CV (l:List Str) (hl:Wf (.lst .str) l) :
  let A:=(0:Nat);let B:=(↑(List.length l):Int);let C:=l=l/\B=B/\True;(∃(x:Nat),(x<=List.length l/\cW aX (List.drop x l) x=cW aX l A)/\(0:Int)=(↑x:Int)/\C)/\∀(x:Nat),let D:=(↑x:Int);x<=List.length l/\cW aX (List.drop x l) x=cW aX l A->if decide (D<B)=true then((0:Int)<=D/\D<B)/\if(!aX (List.getD l (Int.toNat D) (dfl Ty.str)))=true then True/\D=cW aX l A/\True else inR IntKind.i64 (D+(1:Int))/\∃(y:Nat),(y<=List.length l/\cW aX (List.drop y l) y=cW aX l A)/\List.length l-y<List.length l-x/\D+(1:Int)=(↑y:Int)/\C else True/\(-1:Int)=cW aX l A/\True:=by
 conv=>zeta
 have ln:=hl.len;simp only[OH];refine⟨⟨0,⟨OJ _,by simp⟩,rfl,by trivial,by trivial,trivial⟩,?_⟩;rintro k ⟨h1,h2⟩;apply a6<;>intro h
 ·replace h:=Xo h;have hk:k<l.length:=by omega
  rw[aJ l k (dfl .str) hk,cW]at h2;refine⟨by omega,a6 (fun c=>?_) (fun c=>?_)⟩
  ·have c:aX (l.getD k (dfl .str))=false:=by simpa using c
   rw[c,OA Pk]at h2;rw[<-h2];exact Xr
  ·have c:aX (l.getD k (dfl .str))=true:=by simpa using c
   rw[OB c]at h2;refine⟨ba hk ln,k+1,⟨by omega,h2⟩,by omega,by omega,by trivial,by trivial,trivial⟩
 ·replace h:¬((k:Int)<(l.length:Int)):=fun e=>h (Xd e);have e:k=l.length:=by omega
  subst e;rw[OO,cW]at h2;rw[<-h2];exact Xr
theorem CW (l:List Str)  :
  True/\decide ((0:Int)<=cW aX l (0:Nat))=!List.all l aX/\True:=by
 exact⟨trivial,mX aX l 0,trivial⟩
theorem K7 (l:List Str)  :
  True/\(!!List.all l aX)=List.all l aX/\True:=by
 exact⟨trivial,Rb _,trivial⟩
theorem K8(l:List Str)(ho:l.length *16<=140737488355328) :
  let A:=(List.mergeSort l fun(x y:Str)=>decide (x<=y));let B:=List.all l aX&&decide (List.Nodup l);List.length l*(16:Nat)<=(140737488355328:Nat)/\if List.all l aX=true then List.length A=List.length A/\True/\decide ((↑(List.length (Lib.compact A)):Int)=(↑(List.length l):Int))=B/\True else True/\false=B/\True:=by
 conv=>zeta
 have hc:=mU l;unfold jT at hc;refine⟨ho,a6 (fun h=>?_) (fun h=>?_)⟩
 ·refine⟨by trivial,trivial,?_,trivial⟩;rw[h,OY,Pv,<-hc];omega
 ·have h:l.all aX=false:=by simpa using h
  exact⟨trivial,by rw[h];rfl,trivial⟩
theorem CX(n:Nat)(x:Shape) (ho:sz x<=n) :
  sz x<=n/\True/\(!allS bh x)=!allS bh x/\True:=by
 exact⟨ho,trivial,by trivial,trivial⟩
theorem CY(n:Nat)(l:List Shape) (hl:Wf (.lst (.st .shape)) l)(ho:∀x∈l,sz x<=n) :
  let A:=allS bh;let B:=(0:Nat);let C:=(↑(List.length l):Int);let D:=l=l/\C=C/\True;let E:=dfl (Ty.st SN.shape);(∃(x:Nat),(x<=List.length l/\cW A (List.drop x l) x=cW A l B)/\(0:Int)=(↑x:Int)/\D)/\∀(x:Nat),let F:=(↑x:Int);let G:=List.getD l (Int.toNat F) E;x<=List.length l/\cW A (List.drop x l) x=cW A l B->if decide (F<C)=true then((0:Int)<=F/\F<C)/\sz G<=n/\if(!allS bh G)=true then True/\F=cW A l B/\True else inR IntKind.i64 (F+(1:Int))/\∃(y:Nat),(y<=List.length l/\cW A (List.drop y l) y=cW A l B)/\List.length l-y<List.length l-x/\F+(1:Int)=(↑y:Int)/\D else True/\(-1:Int)=cW A l B/\True:=by
 conv=>zeta
 have ln:=hl.len;simp only[OH];refine⟨⟨0,⟨OJ _,by simp⟩,rfl,by trivial,by trivial,trivial⟩,?_⟩;rintro k ⟨h1,h2⟩;apply a6<;>intro h
 ·replace h:=Xo h;have hk:k<l.length:=by omega
  rw[aJ l k (dfl (.st .shape)) hk,cW]at h2;refine⟨by omega,ho _ (bO l k _ hk),a6 (fun c=>?_) (fun c=>?_)⟩
  ·have c:(allS bh) (l.getD k (dfl (.st .shape)))=false:=by simpa using c
   rw[c,OA Pk]at h2;rw[<-h2];exact Xr
  ·have c:(allS bh) (l.getD k (dfl (.st .shape)))=true:=by simpa using c
   rw[OB c]at h2;refine⟨ba hk ln,k+1,⟨by omega,h2⟩,by omega,by omega,by trivial,by trivial,trivial⟩
 ·replace h:¬((k:Int)<(l.length:Int)):=fun e=>h (Xd e);have e:k=l.length:=by omega
  subst e;rw[OO,cW]at h2;rw[<-h2];exact Xr
theorem CZ(n:Nat)(l:List Shape) (ho:∀x∈l,sz x<=n) :
  (∀(x:Shape),x∈l->sz x<=n)/\True/\decide ((0:Int)<=cW (allS bh) l (0:Nat))=!List.all l (allS bh)/\True:=by
 exact⟨ho,trivial,mX (allS bh) l 0,trivial⟩
theorem K9(n:Nat)(l:List Shape) (ho:∀x∈l,sz x<=n) :
  (∀(x:Shape),x∈l->sz x<=n)/\True/\(!!List.all l (allS bh))=List.all l (allS bh)/\True:=by
 exact⟨ho,trivial,Rb _,trivial⟩
theorem Mq(n:Nat)(s:Shape)(ho:sz s<=n+1) :
  if(!decide (s.kind=(10:Int)))=true then(∀(x:Shape),x∈s.parts->sz x<=n)/\True/\List.all s.parts (allS bh)=allS bh s/\True else True/\false=allS bh s/\True:=by
 have e0:allS bh s=(bh s&&s.parts.all (allS bh)):=by rw[nN,zL]
 have h0:=pz s;have hm:∀x∈s.parts,sz x<=n:=fun x hx=>by have:=jU hx;omega
 rw[e0];apply a6<;>intro h
 ·have h:bh s=true:=h;rw[h,OY];exact⟨hm,trivial,rfl,trivial⟩
 ·have h:bh s=false:=by simpa[bh]using h
  rw[h];exact Xr
theorem GF(s:Shape)  :
  let A:=(decide (bD s=(0:Int))&&allS bh s);if decide (bD s=(0:Int))=true then sz s<=(400:Nat)/\True/\allS bh s=A/\True else True/\false=A/\True:=by
 conv=>zeta
 apply a6<;>intro h
 ·have h:bD s=0:=by simpa using h
  refine⟨?_,trivial,by simp[h],trivial⟩;unfold bD at h;by_cases c:400<sz s
  ·rw[OB c]at h;exact absurd h (by decide)
  ·omega
 ·have h:¬bD s=0:=by simpa using h
  exact⟨trivial,by simp[h],trivial⟩
theorem NK(t:Trm)  :
  let A:=(↑(List.length t.names):Int);let B:=(↑(List.length t.vars):Int);let C:=(↑(List.length t.shapes):Int);let D:=(↑(List.length t.parts):Int);True/\A=A/\B=B/\C=C/\D=D/\True:=by
 conv=>zeta
 exact Xr
theorem Ka(s:Str)(hs:Wf .str s) :
  let A:=aT s;let B:=(↑(List.length A):Int);let C:=s=s/\aT s=aT s/\B=B/\True;let D:=dfl (Ty.int IntKind.u8);let E:=(1:Int);(∃(x:Nat),(x<=List.length s/\List.all s eJ=List.all (List.drop x s) eJ)/\(0:Int)=(↑x:Int)/\C)/\∀(x:Nat),let F:=(↑x:Int);let G:=Int.toNat F;let H:=inR IntKind.i64 (F+E)/\∃(y:Nat),(y<=List.length s/\List.all s eJ=List.all (List.drop y s) eJ)/\List.length s-y<List.length s-x/\F+E=(↑y:Int)/\C;x<=List.length s/\List.all s eJ=List.all (List.drop x s) eJ->if decide (F<B)=true then((0:Int)<=F/\F<B)/\if decide (List.getD A G D<(32:Int))=true then if(!decide (List.getD A G D=(10:Int)))=true then if(!decide (List.getD A G D=(9:Int)))=true then True/\false=kx s/\True else H else H else H else True/\Option.isNone (dF s)=kx s/\True:=by
 conv=>zeta
 have ln:=hs.str;have hbl:(aT s).length=s.length:=PY _;simp only[hbl,OH];refine⟨⟨0,⟨OJ _,rfl⟩,?_⟩,?_⟩
 ·exact Xr
 rintro k ⟨h1,h2⟩;apply a6<;>intro h
 ·have hk:k<s.length:=by have:=Xo h;omega
  rw[aJ s k 0 hk,P4]at h2;have hq:=vX (s.getD k 0);simp only[Ab s k hk]
  have yes:¬(bI (s.getD k 0)<32/\bI (s.getD k 0)≠10/\bI (s.getD k 0)≠9)->s.all eJ=(s.drop (k+1)).all eJ:=fun e=>by
   have:eJ (s.getD k 0)=true:=by
    cases hh:eJ (s.getD k 0)with|true=>rfl|false=>exact absurd (hq.1 hh) e
   rw[h2,this,OY]
  refine⟨⟨by omega,by omega⟩,?_⟩
  repeat' (apply a6<;>intro _)
  all_goals (simp only[OK,OW,P1]at *)
  all_goals first
   |(refine⟨trivial,?_,trivial⟩;unfold kx;rw[h2,hq.2 (by omega),P2,P2])
   |(refine⟨ba hk ln,k+1,⟨by omega,yes (by omega)⟩,by omega,by omega,?_⟩;exact Xr)
 ·have hk:k=s.length:=by have:¬((k:Int)<(s.length:Int)):=fun e=>h (Xd e);omega
  refine⟨trivial,?_,trivial⟩;unfold kx;rw[h2,hk,OO];rfl
theorem Ag (x:Shape)  :
  True/\(!(decide (bD x=(0:Int))&&allS bh x))=!cm x/\True:=by
 exact⟨trivial,by trivial,trivial⟩
theorem Ah (l:List Shape) (hl:Wf (.lst (.st .shape)) l) :
  let A:=(0:Nat);let B:=(↑(List.length l):Int);let C:=l=l/\B=B/\True;(∃(x:Nat),(x<=List.length l/\cW cm (List.drop x l) x=cW cm l A)/\(0:Int)=(↑x:Int)/\C)/\∀(x:Nat),let D:=(↑x:Int);x<=List.length l/\cW cm (List.drop x l) x=cW cm l A->if decide (D<B)=true then((0:Int)<=D/\D<B)/\if(!cm (List.getD l (Int.toNat D) (dfl (Ty.st SN.shape))))=true then True/\D=cW cm l A/\True else inR IntKind.i64 (D+(1:Int))/\∃(y:Nat),(y<=List.length l/\cW cm (List.drop y l) y=cW cm l A)/\List.length l-y<List.length l-x/\D+(1:Int)=(↑y:Int)/\C else True/\(-1:Int)=cW cm l A/\True:=by
 conv=>zeta
 have ln:=hl.len;simp only[OH];refine⟨⟨0,⟨OJ _,by simp⟩,rfl,by trivial,by trivial,trivial⟩,?_⟩;rintro k ⟨h1,h2⟩;apply a6<;>intro h
 ·replace h:=Xo h;have hk:k<l.length:=by omega
  rw[aJ l k (dfl (.st .shape)) hk,cW]at h2;refine⟨by omega,a6 (fun c=>?_) (fun c=>?_)⟩
  ·have c:cm (l.getD k (dfl (.st .shape)))=false:=by simpa using c
   rw[c,OA Pk]at h2;rw[<-h2];exact Xr
  ·have c:cm (l.getD k (dfl (.st .shape)))=true:=by simpa using c
   rw[OB c]at h2;refine⟨ba hk ln,k+1,⟨by omega,h2⟩,by omega,by omega,by trivial,by trivial,trivial⟩
 ·replace h:¬((k:Int)<(l.length:Int)):=fun e=>h (Xd e);have e:k=l.length:=by omega
  subst e;rw[OO,cW]at h2;rw[<-h2];exact Xr
theorem Ai (l:List Shape)  :
  True/\decide ((0:Int)<=cW cm l (0:Nat))=!List.all l cm/\True:=by
 exact⟨trivial,mX cm l 0,trivial⟩
theorem GH (l:List Shape)  :
  True/\(!!List.all l cm)=List.all l cm/\True:=by
 exact⟨trivial,Rb _,trivial⟩
theorem Kb(t:Trm)(ht:Wf (.st .term) t)(ho:t.names.length<=1000000) :
  let A:=(0:Int);let B:=(↑(List.length t.names):Int);let C:=(↑(List.length t.vars):Int);let D:=(↑(List.length t.shapes):Int);let E:=(↑(List.length t.parts):Int);let F:=True;let G:=t=t/\false=false/\t=t/\B=B/\C=C/\D=D/\E=E/\F;let H:=true=!ky t/\G;let I:=(1:Int);let J:=(!List.all t.shapes cm)=!ky t/\G;let K:=if(!decide (t.pkg=[]))=true then if(!decide (t.kind=(5:Int)))=true then H else J else J;let L:=F/\false=aS t/\F;let M:=F/\(decide (B=A)&&(decide (C=A)&&(decide (D=A)&&(decide (E=A)&&true))))=aS t/\F;let N:=if decide (t.name=[])=true then M else L;let O:=List.length t.names*(16:Nat)<=(140737488355328:Nat);let P:=decide (E=I)&&true;let Q:=decide (E=E)&&true;let R:=F/\(decide (B=A)&&(decide (C=A)&&(decide (D=A)&&P)))=aS t/\F;let S:=if aX t.name=true then R else L;let T:=inR IntKind.i64 (B+I);let U:=if dH t.name=true then R else L;(if decide (t.pos<A)=true then H else if(!decide (t.n=A))=true then if(!decide (t.kind=I))=true then H else K else K)/\if(!ky t)=true then L else if decide (t.kind=I)=true then if decide (t.name=[])=true then if decide (A<=t.n)=true then if decide (t.n<=(999999999999999:Int))=true then M else L else L else L else if decide (t.kind=(2:Int))=true then if kx t.name=true then M else L else if decide (t.kind=(3:Int))=true then N else if decide (t.kind=(4:Int))=true then N else if decide (t.kind=(5:Int))=true then if aX t.name=true then if decide (t.pkg=[])=true then M else if aX t.pkg=true then M else L else L else if decide (t.kind=(6:Int))=true then if decide (t.name=[])=true then if decide (B<=(4096:Int))=true then O/\if(List.all t.names aX&&decide (List.Nodup t.names))=true then F/\(decide (B=B)&&(decide (C=A)&&(decide (D=B)&&P)))=aS t/\F else L else L else L else if decide (t.kind=(7:Int))=true then if decide (t.name=[])=true then if decide (A<E)=true then F/\(decide (B=A)&&(decide (C=A)&&(decide (D=A)&&Q)))=aS t/\F else L else L else if decide (t.kind=(8:Int))=true then if decide (t.name=[])=true then O/\if(List.all t.names aX&&decide (List.Nodup t.names))=true then F/\(decide (B=B)&&(decide (C=A)&&(decide (D=A)&&(decide (E=B)&&true))))=aS t/\F else L else L else if decide (t.kind=(9:Int))=true then S else if decide (t.kind=(10:Int))=true then S else if decide (t.kind=(11:Int))=true then if decide (t.name=[])=true then F/\(decide (B=A)&&(decide (C=A)&&(decide (D=I)&&Q)))=aS t/\F else L else if decide (t.kind=(12:Int))=true then if decide (t.name=[])=true then F/\(decide (B=A)&&(decide (C=A)&&(decide (D=I)&&(decide (E=(3:Int))&&true))))=aS t/\F else L else if decide (t.kind=(13:Int))=true then if decide (t.name=[])=true then O/\if(List.all t.names aX&&decide (List.Nodup t.names))=true then if List.all t.vars aX=true then T/\T/\F/\(decide (B=B)&&(decide (C=B)&&(decide (D=B+I)&&(decide (E=B+I)&&true))))=aS t/\F else L else L else L else if decide (t.kind=(14:Int))=true then if aX t.name=true then F/\(decide (B=A)&&(decide (C=A)&&(decide (D=A)&&(decide (E=(2:Int))&&true))))=aS t/\F else L else if decide (t.kind=(15:Int))=true then if decide (t.name=[])=true then F/\(decide (B=A)&&(decide (C=A)&&(decide (D=I)&&P)))=aS t/\F else L else if decide (t.kind=(16:Int))=true then U else if decide (t.kind=(17:Int))=true then U else L:=by
 conv=>zeta
 refine⟨?_,a6 (fun h=>?_) (fun h=>?_)⟩
 ·unfold ky
  repeat' (apply a6<;>intro _)
  all_goals simp_all
 ·have h:ky t=false:=by simpa using h
  unfold aS;rw[h];exact Xr
 have h:ky t=true:=by simpa using h
 have e0:aS t=nf t:=by unfold aS;rw[h,OY]
 rw[e0];clear h e0;unfold nf hU nc;simp only[dnZ,dn1,dn2,dn3,dnN,dnS,dnL,dnP];generalize t.names.all aX=na;generalize t.vars.all aX=va
 repeat' (first|apply a6<;>intro _|refine⟨by omega,?_⟩|refine⟨aj (by omega) (by omega),?_⟩|fail)
 all_goals (refine⟨trivial,?_,trivial⟩;try simp_all)
 all_goals first|(simp only[Bool.and_assoc];done)|(intros;omega)
theorem Aj(n:Nat)(x:Trm) (ho:szT x<=n/\dx x=true) :
  (szT x<=n/\dx x=true)/\True/\(!allT aS x)=!allT aS x/\True:=by
 exact⟨ho,trivial,by trivial,trivial⟩
theorem Ak(n:Nat)(l:List Trm) (hl:Wf (.lst (.st .term)) l)(ho:∀x∈l,szT x<=n/\dx x=true) :
  let A:=allT aS;let B:=(0:Nat);let C:=(↑(List.length l):Int);let D:=l=l/\C=C/\True;let E:=dfl (Ty.st SN.term);(∃(x:Nat),(x<=List.length l/\cW A (List.drop x l) x=cW A l B)/\(0:Int)=(↑x:Int)/\D)/\∀(x:Nat),let F:=(↑x:Int);let G:=List.getD l (Int.toNat F) E;x<=List.length l/\cW A (List.drop x l) x=cW A l B->if decide (F<C)=true then((0:Int)<=F/\F<C)/\(szT G<=n/\dx G=true)/\if(!allT aS G)=true then True/\F=cW A l B/\True else inR IntKind.i64 (F+(1:Int))/\∃(y:Nat),(y<=List.length l/\cW A (List.drop y l) y=cW A l B)/\List.length l-y<List.length l-x/\F+(1:Int)=(↑y:Int)/\D else True/\(-1:Int)=cW A l B/\True:=by
 conv=>zeta
 have ln:=hl.len;simp only[OH];refine⟨⟨0,⟨OJ _,by simp⟩,rfl,by trivial,by trivial,trivial⟩,?_⟩;rintro k ⟨h1,h2⟩;apply a6<;>intro h
 ·replace h:=Xo h;have hk:k<l.length:=by omega
  rw[aJ l k (dfl (.st .term)) hk,cW]at h2;refine⟨by omega,ho _ (bO l k _ hk),a6 (fun c=>?_) (fun c=>?_)⟩
  ·have c:(allT aS) (l.getD k (dfl (.st .term)))=false:=by simpa using c
   rw[c,OA Pk]at h2;rw[<-h2];exact Xr
  ·have c:(allT aS) (l.getD k (dfl (.st .term)))=true:=by simpa using c
   rw[OB c]at h2;refine⟨ba hk ln,k+1,⟨by omega,h2⟩,by omega,by omega,by trivial,by trivial,trivial⟩
 ·replace h:¬((k:Int)<(l.length:Int)):=fun e=>h (Xd e);have e:k=l.length:=by omega
  subst e;rw[OO,cW]at h2;rw[<-h2];exact Xr
theorem Al(n:Nat)(l:List Trm) (ho:∀x∈l,szT x<=n/\dx x=true) :
  (∀(x:Trm),x∈l->szT x<=n/\dx x=true)/\True/\decide ((0:Int)<=cW (allT aS) l (0:Nat))=!List.all l (allT aS)/\True:=by
 exact⟨ho,trivial,mX (allT aS) l 0,trivial⟩
theorem GI(n:Nat)(l:List Trm) (ho:∀x∈l,szT x<=n/\dx x=true) :
  (∀(x:Trm),x∈l->szT x<=n/\dx x=true)/\True/\(!!List.all l (allT aS))=List.all l (allT aS)/\True:=by
 exact⟨ho,trivial,Rb _,trivial⟩
theorem GJ(n:Nat)(t:Trm)(ho:szT t<=n+1/\dx t=true) :
  List.length t.names<=(1000000:Nat)/\if aS t=true then(∀(x:Trm),x∈t.parts->szT x<=n/\dx x=true)/\True/\List.all t.parts (allT aS)=allT aS t/\True else True/\false=allT aS t/\True:=by
 obtain⟨h1,h2⟩:=ho;have e0:allT aS t=(aS t&&t.parts.all (allT aS)):=by rw[iT,iI]
 have h0:=mW t;rw[e0];refine⟨CL h2,a6 (fun h=>?_) (fun h=>?_)⟩
 ·rw[h,OY];exact⟨fun x hx=>⟨by have:=jt hx;omega,Gq h2 hx⟩,trivial,rfl,trivial⟩
 ·have h:aS t=false:=by simpa using h
  rw[h];exact Xr
theorem GK(x:Trm)(ho:dx x=true) :
  let A:=szT x<=szT x;let B:=(4096:Int);let C:=True;(A/\(0:Int)<=B/\B<=(1000000:Int))/\if decide (B<(countT x B).1)=true then C/\(3:Int)=bF x/\C else if decide ((40:Int)<(countT x B).2)=true then C/\(91:Int)=bF x/\C else(A/\dx x=true)/\if(!allT aS x)=true then C/\(80:Int)=bF x/\C else C/\(0:Int)=bF x/\C:=by
 conv=>zeta
 refine⟨⟨ON _,by omega,by omega⟩,a6 (fun h=>?_) (fun h=>?_)⟩
 ·replace h:=Xo h;unfold bF;rw[OB h];exact Xr
 have h:¬_:=fun e=>h (Xd e);have e1:bF x=if 40<(countT x 4096).2 then 91 else if allT aS x=true then 0 else 80:=by unfold bF;rw[OA h]
 apply a6<;>intro k
 ·rw[OB (Xo k)]at e1;rw[e1];exact Xr
 rw[OA (fun e=>k (Xd e))]at e1;refine⟨⟨ON _,ho⟩,a6 (fun j=>?_) (fun j=>?_)⟩
 ·have j:allT aS x=false:=by simpa using j
  rw[j,OA Pk]at e1;rw[e1];exact Xr
 ·have j:allT aS x=true:=by simpa using j
  rw[OB j]at e1;rw[e1];exact Xr
theorem Kc(s:Str)(p:Int)(n:Nat)(k:Int)(ho:s.length<=4096/\0<=p/\p<=(s.length:Int)/\0<=k/\k<=2) :
  let A:=p+k;let B:=inR IntKind.i64 A;let C:=(↑(List.length s):Int);let D:=s=s/\p=p/\n=n/\True;B/\if decide (C<=p+k)=true then True/\(0:Int)=bAt s A/\D else B/\((0:Int)<=p+k/\p+k<C)/\True/\(↑(UInt8.toNat (List.getD s (Int.toNat A) (0:UInt8))):Int)=bAt s A/\D:=by
 conv=>zeta
 obtain⟨h1,h2,h3,h4,h5⟩:=ho;refine⟨aj (by omega) (by omega),a6 (fun h=>?_) (fun h=>?_)⟩
 ·replace h:=Xo h;refine⟨trivial,(s7 h).symm,?_⟩;exact Xr
 ·replace h:¬(s.length:Int)<=p+k:=fun e=>h (Xd e);refine⟨aj (by omega) (by omega),⟨by omega,by omega⟩,trivial,(mZ (by omega)).symm,?_⟩;exact Xr
theorem Mr(c:Int)  :
  let A:=True/\true=aZ c/\True;if bV c=true then A else if cb c=true then A else if aY c=true then A else if decide (c=(46:Int))=true then A else True/\decide (c=(45:Int))=aZ c/\True:=by
 conv=>zeta
 unfold aZ;cases bV c<;>cases cb c<;>cases aY c<;>simp;by_cases a:c=46<;>simp[a]
theorem Kd(c:Int)  :
  True/\(!decide (c=(10:Int)))=ew c/\True:=by
 unfold ew;simp
theorem GL(c:Int)  :
  let A:=True/\false=bQ c/\True;if decide ((32:Int)<=c)=true then if(!decide (c=(34:Int)))=true then True/\(!decide (c=(92:Int)))=bQ c/\True else A else A:=by
 conv=>zeta
 unfold bQ;by_cases a:(32:Int)<=c<;>by_cases b:c=34<;>by_cases d:c=92<;>simp[a,b,d]
theorem GM(s:Str)(p:Int)(n:Nat)(ho:s.length<=4096/\0<=p/\p<=(s.length:Int)) :
  let A:=(↑(List.length s):Int);let B:=dT UInt8=dT UInt8;let C:=n=n/\True;let D:=(0:Int)<=p;let E:=(↑(aq cd s p):Int);(∃(x:Nat),let F:=(↑x:Int);(p+F<=A/\aq cd s p=x+aq cd s (p+F))/\B/\p=p/\s=s/\p=p+F/\C)/\∀(x:Nat),let F:=(↑x:Int);let G:=Int.toNat (p+F);let H:=(D/\p<=p+F/\p+F<=A)/\True/\List.drop (Int.toNat p) (List.take G s)=cut s p (p+E)/\s=s/\p+F=p+E/\C;p+F<=A/\aq cd s p=x+aq cd s (p+F)->if decide (p+F<A)=true then((0:Int)<=p+F/\p+F<A)/\if cd (↑(UInt8.toNat (List.getD s G (0:UInt8))):Int)=true then inR IntKind.i64 (p+F+(1:Int))/\∃(y:Nat),let I:=(↑y:Int);(p+I<=A/\aq cd s p=y+aq cd s (p+I))/\List.length s-y<List.length s-x/\B/\p=p/\s=s/\p+F+(1:Int)=p+I/\C else H else H:=by
 conv=>zeta
 obtain⟨a1,a2,a3⟩:=ho
 have fin:∀k:Nat,p+(k:Int)<=(s.length:Int)->aq cd s p=k->((0:Int)<=p/\p<=p+(k:Int)/\p+(k:Int)<=(s.length:Int))/\True/\
   List.drop (Int.toNat p) (List.take (Int.toNat (p+(k:Int))) s)=cut s p (p+(aq cd s p:Int))/\s=s/\p+(k:Int)=p+(aq cd s p:Int)/\n=n/\True:=by
  intro k h1 h2;refine⟨⟨by omega,by omega,by omega⟩,trivial,?_,rfl,by omega,rfl,trivial⟩;rw[h2];rfl
 refine⟨⟨0,⟨by omega,by simp⟩,rfl,rfl,rfl,by simp,rfl,trivial⟩,?_⟩;rintro k ⟨h1,h2⟩;apply a6<;>intro h
 ·replace h:=Xo h;refine⟨⟨by omega,h⟩,a6 (fun c=>?_) (fun c=>?_)⟩
  ·have e0:=dp (pr:=cd) (s:=s) (a:=p+(k:Int)) (by omega) h c;rw[e0]at h2;refine⟨aj (by omega) (by omega),k+1,⟨by omega,?_⟩,by omega,rfl,rfl,rfl,by omega,rfl,trivial⟩;have e:p+((k+1:Nat):Int)=p+(k:Int)+1:=by omega
   rw[e];omega
  ·have e0:=gL (pr:=cd) (s:=s) (a:=p+(k:Int)) (by omega) h (P5.2 c);rw[e0]at h2;exact fin k h1 h2
 ·replace h:¬(p+(k:Int)<(s.length:Int)):=fun e=>h (Xd e);have e0:=iH (pr:=cd) (s:=s) (a:=p+(k:Int)) (by omega);rw[e0]at h2;exact fin k h1 h2
theorem GN(s:Str)(p:Int)(n:Nat)(ho:s.length<=4096/\0<=p/\p<=(s.length:Int)) :
  let A:=(↑(List.length s):Int);let B:=dT UInt8=dT UInt8;let C:=n=n/\True;let D:=(0:Int)<=p;let E:=(↑(aq aZ s p):Int);(∃(x:Nat),let F:=(↑x:Int);(p+F<=A/\aq aZ s p=x+aq aZ s (p+F))/\B/\p=p/\s=s/\p=p+F/\C)/\∀(x:Nat),let F:=(↑x:Int);let G:=Int.toNat (p+F);let H:=(D/\p<=p+F/\p+F<=A)/\True/\List.drop (Int.toNat p) (List.take G s)=cut s p (p+E)/\s=s/\p+F=p+E/\C;p+F<=A/\aq aZ s p=x+aq aZ s (p+F)->if decide (p+F<A)=true then((0:Int)<=p+F/\p+F<A)/\if aZ (↑(UInt8.toNat (List.getD s G (0:UInt8))):Int)=true then inR IntKind.i64 (p+F+(1:Int))/\∃(y:Nat),let I:=(↑y:Int);(p+I<=A/\aq aZ s p=y+aq aZ s (p+I))/\List.length s-y<List.length s-x/\B/\p=p/\s=s/\p+F+(1:Int)=p+I/\C else H else H:=by
 conv=>zeta
 obtain⟨a1,a2,a3⟩:=ho
 have fin:∀k:Nat,p+(k:Int)<=(s.length:Int)->aq aZ s p=k->((0:Int)<=p/\p<=p+(k:Int)/\p+(k:Int)<=(s.length:Int))/\True/\
   List.drop (Int.toNat p) (List.take (Int.toNat (p+(k:Int))) s)=cut s p (p+(aq aZ s p:Int))/\s=s/\p+(k:Int)=p+(aq aZ s p:Int)/\n=n/\True:=by
  intro k h1 h2;refine⟨⟨by omega,by omega,by omega⟩,trivial,?_,rfl,by omega,rfl,trivial⟩;rw[h2];rfl
 refine⟨⟨0,⟨by omega,by simp⟩,rfl,rfl,rfl,by simp,rfl,trivial⟩,?_⟩;rintro k ⟨h1,h2⟩;apply a6<;>intro h
 ·replace h:=Xo h;refine⟨⟨by omega,h⟩,a6 (fun c=>?_) (fun c=>?_)⟩
  ·have e0:=dp (pr:=aZ) (s:=s) (a:=p+(k:Int)) (by omega) h c;rw[e0]at h2;refine⟨aj (by omega) (by omega),k+1,⟨by omega,?_⟩,by omega,rfl,rfl,rfl,by omega,rfl,trivial⟩;have e:p+((k+1:Nat):Int)=p+(k:Int)+1:=by omega
   rw[e];omega
  ·have e0:=gL (pr:=aZ) (s:=s) (a:=p+(k:Int)) (by omega) h (P5.2 c);rw[e0]at h2;exact fin k h1 h2
 ·replace h:¬(p+(k:Int)<(s.length:Int)):=fun e=>h (Xd e);have e0:=iH (pr:=aZ) (s:=s) (a:=p+(k:Int)) (by omega);rw[e0]at h2;exact fin k h1 h2
theorem GO(s:Str)(p:Int)(n:Nat)(ho:s.length<=4096/\0<=p/\p<=(s.length:Int)) :
  let A:=(↑(List.length s):Int);let B:=dT UInt8=dT UInt8;let C:=n=n/\True;let D:=(0:Int)<=p;let E:=(↑(aq ew s p):Int);(∃(x:Nat),let F:=(↑x:Int);(p+F<=A/\aq ew s p=x+aq ew s (p+F))/\B/\p=p/\s=s/\p=p+F/\C)/\∀(x:Nat),let F:=(↑x:Int);let G:=Int.toNat (p+F);let H:=(D/\p<=p+F/\p+F<=A)/\True/\List.drop (Int.toNat p) (List.take G s)=cut s p (p+E)/\s=s/\p+F=p+E/\C;p+F<=A/\aq ew s p=x+aq ew s (p+F)->if decide (p+F<A)=true then((0:Int)<=p+F/\p+F<A)/\if ew (↑(UInt8.toNat (List.getD s G (0:UInt8))):Int)=true then inR IntKind.i64 (p+F+(1:Int))/\∃(y:Nat),let I:=(↑y:Int);(p+I<=A/\aq ew s p=y+aq ew s (p+I))/\List.length s-y<List.length s-x/\B/\p=p/\s=s/\p+F+(1:Int)=p+I/\C else H else H:=by
 conv=>zeta
 obtain⟨a1,a2,a3⟩:=ho
 have fin:∀k:Nat,p+(k:Int)<=(s.length:Int)->aq ew s p=k->((0:Int)<=p/\p<=p+(k:Int)/\p+(k:Int)<=(s.length:Int))/\True/\
   List.drop (Int.toNat p) (List.take (Int.toNat (p+(k:Int))) s)=cut s p (p+(aq ew s p:Int))/\s=s/\p+(k:Int)=p+(aq ew s p:Int)/\n=n/\True:=by
  intro k h1 h2;refine⟨⟨by omega,by omega,by omega⟩,trivial,?_,rfl,by omega,rfl,trivial⟩;rw[h2];rfl
 refine⟨⟨0,⟨by omega,by simp⟩,rfl,rfl,rfl,by simp,rfl,trivial⟩,?_⟩;rintro k ⟨h1,h2⟩;apply a6<;>intro h
 ·replace h:=Xo h;refine⟨⟨by omega,h⟩,a6 (fun c=>?_) (fun c=>?_)⟩
  ·have e0:=dp (pr:=ew) (s:=s) (a:=p+(k:Int)) (by omega) h c;rw[e0]at h2;refine⟨aj (by omega) (by omega),k+1,⟨by omega,?_⟩,by omega,rfl,rfl,rfl,by omega,rfl,trivial⟩;have e:p+((k+1:Nat):Int)=p+(k:Int)+1:=by omega
   rw[e];omega
  ·have e0:=gL (pr:=ew) (s:=s) (a:=p+(k:Int)) (by omega) h (P5.2 c);rw[e0]at h2;exact fin k h1 h2
 ·replace h:¬(p+(k:Int)<(s.length:Int)):=fun e=>h (Xd e);have e0:=iH (pr:=ew) (s:=s) (a:=p+(k:Int)) (by omega);rw[e0]at h2;exact fin k h1 h2
theorem GP(s:Str)(p:Int)(n:Nat)(ho:s.length<=4096/\0<=p/\p<=(s.length:Int)) :
  let A:=(↑(List.length s):Int);let B:=dT UInt8=dT UInt8;let C:=n=n/\True;let D:=(0:Int)<=p;let E:=(↑(aq bQ s p):Int);(∃(x:Nat),let F:=(↑x:Int);(p+F<=A/\aq bQ s p=x+aq bQ s (p+F))/\B/\p=p/\s=s/\p=p+F/\C)/\∀(x:Nat),let F:=(↑x:Int);let G:=Int.toNat (p+F);let H:=(D/\p<=p+F/\p+F<=A)/\True/\List.drop (Int.toNat p) (List.take G s)=cut s p (p+E)/\s=s/\p+F=p+E/\C;p+F<=A/\aq bQ s p=x+aq bQ s (p+F)->if decide (p+F<A)=true then((0:Int)<=p+F/\p+F<A)/\if bQ (↑(UInt8.toNat (List.getD s G (0:UInt8))):Int)=true then inR IntKind.i64 (p+F+(1:Int))/\∃(y:Nat),let I:=(↑y:Int);(p+I<=A/\aq bQ s p=y+aq bQ s (p+I))/\List.length s-y<List.length s-x/\B/\p=p/\s=s/\p+F+(1:Int)=p+I/\C else H else H:=by
 conv=>zeta
 obtain⟨a1,a2,a3⟩:=ho
 have fin:∀k:Nat,p+(k:Int)<=(s.length:Int)->aq bQ s p=k->((0:Int)<=p/\p<=p+(k:Int)/\p+(k:Int)<=(s.length:Int))/\True/\
   List.drop (Int.toNat p) (List.take (Int.toNat (p+(k:Int))) s)=cut s p (p+(aq bQ s p:Int))/\s=s/\p+(k:Int)=p+(aq bQ s p:Int)/\n=n/\True:=by
  intro k h1 h2;refine⟨⟨by omega,by omega,by omega⟩,trivial,?_,rfl,by omega,rfl,trivial⟩;rw[h2];rfl
 refine⟨⟨0,⟨by omega,by simp⟩,rfl,rfl,rfl,by simp,rfl,trivial⟩,?_⟩;rintro k ⟨h1,h2⟩;apply a6<;>intro h
 ·replace h:=Xo h;refine⟨⟨by omega,h⟩,a6 (fun c=>?_) (fun c=>?_)⟩
  ·have e0:=dp (pr:=bQ) (s:=s) (a:=p+(k:Int)) (by omega) h c;rw[e0]at h2;refine⟨aj (by omega) (by omega),k+1,⟨by omega,?_⟩,by omega,rfl,rfl,rfl,by omega,rfl,trivial⟩;have e:p+((k+1:Nat):Int)=p+(k:Int)+1:=by omega
   rw[e];omega
  ·have e0:=gL (pr:=bQ) (s:=s) (a:=p+(k:Int)) (by omega) h (P5.2 c);rw[e0]at h2;exact fin k h1 h2
 ·replace h:¬(p+(k:Int)<(s.length:Int)):=fun e=>h (Xd e);have e0:=iH (pr:=bQ) (s:=s) (a:=p+(k:Int)) (by omega);rw[e0]at h2;exact fin k h1 h2
theorem GQ(s:Str)(ho:s.length<=4096) :
  let A:=(0:Int);let B:=(↑(List.length s):Int);let C:=(8:Nat);let D:=True;let E:=A=A/\A=A/\D;let F:=List.take (Int.toNat B) s;let G:=xH s;let H:=(30:Int)=G.err;let I:=D/\A=G.err/\A=G.pos/\D;let J:=(140737488355328:Nat);(A<=B/\B*(↑C:Int)<=(140737488355328:Int))/\(∃(x:Nat×List Int),(x.1<=List.length s/\List.length x.2<=x.1/\dF s=j8 s x.1)/\[]=x.2/\A=(↑x.1:Int)/\s=s/\(0:Nat)=List.length x.2/\E)/\∀(x:Nat×List Int),let K:=(↑x.1:Int);let L:=jv (List.drop (Int.toNat K) F);let M:=(↑L.1:Int);let N:=(↑L.2:Int);let O:=if decide (K<B)=true then D/\H/\K=G.pos/\D else I;let P:=inR IntKind.i64 M/\(List.length x.2=List.length x.2/\(List.length x.2+List.length [M])*C<=J)/\inR IntKind.i64 (K+N)/\∃(y:Nat×List Int),(y.1<=List.length s/\List.length y.2<=y.1/\dF s=j8 s y.1)/\List.length s-y.1<List.length s-x.1/\x.2++[M]=y.2/\K+N=(↑y.1:Int)/\s=s/\List.length (x.2++[M])=List.length y.2/\E;x.1<=List.length s/\List.length x.2<=x.1/\dF s=j8 s x.1->if decide (K<B)=true then(A<=K/\K<=B/\B<=B)/\if decide (M=(65533:Int))=true then if decide (N=(1:Int))=true then O else P else P else O:=by
 conv=>zeta
 refine⟨⟨by omega,by omega⟩,⟨(0,[]),⟨OJ _,ON _,rfl⟩,rfl,rfl,rfl,rfl,rfl,rfl,trivial⟩,?_⟩;rintro⟨k,xs⟩ ⟨h1,h2,h3⟩;simp only[OH,Pt]at h1 h2 h3⊢;apply a6<;>intro h
 ·have hk:k<s.length:=by have:=Xo h;omega
  have hx:s.drop k≠[]:=by intro e;have:=Qb List.length e;simp at this;omega
  obtain⟨g1,g2,g3,g4,g5⟩:=lj hx;rw[PK]at g5;refine⟨⟨by omega,by omega,by omega⟩,a6 (fun c=>?_) (fun c=>?_)⟩
  ·replace c:=Xo c;apply a6<;>intro d
   ·replace d:=Xo d;have hu:=g1.1 ⟨by omega,by omega⟩;rw[vR hk hu]at h3;rw[OB h];unfold xH;rw[h3];exact Xr
   ·have hd:¬((jv (s.drop k)).2:Int)=1:=fun e=>d (Xd e);have hu:dE (s.drop k)≠0:=by intro e;have:=g1.2 e;exact hd (by omega)
    have g6:=g2 hu;have hs:=oI hk hu;refine⟨aj (by omega) (by omega),⟨(by first|rfl|trivial),by simp only[OD];omega⟩,aj (by omega) (by omega),(k+(jv (s.drop k)).2,xs++[((jv (s.drop k)).1:Int)]),⟨by show k+_<=_;omega,by show(xs++[_]).length<=k+_;rw[OE,OD];omega,?_⟩,by show s.length-(k+_)<_;omega,(by first|rfl|trivial),by show(k:Int)+_=((k+_:Nat):Int);omega,(by first|rfl|trivial),(by first|rfl|trivial),(by first|rfl|trivial),(by first|rfl|trivial),trivial⟩;show dF s=j8 s (k+_);rw[h3,hs,g6]
  ·have hc:¬((jv (s.drop k)).1:Int)=65533:=fun e=>c (Xd e);have hu:dE (s.drop k)≠0:=by intro e;have:=g1.2 e;exact hc (by omega)
   have g6:=g2 hu;have hs:=oI hk hu;refine⟨aj (by omega) (by omega),⟨(by first|rfl|trivial),by simp only[OD];omega⟩,aj (by omega) (by omega),(k+(jv (s.drop k)).2,xs++[((jv (s.drop k)).1:Int)]),⟨by show k+_<=_;omega,by show(xs++[_]).length<=k+_;rw[OE,OD];omega,?_⟩,by show s.length-(k+_)<_;omega,(by first|rfl|trivial),by show(k:Int)+_=((k+_:Nat):Int);omega,(by first|rfl|trivial),(by first|rfl|trivial),(by first|rfl|trivial),(by first|rfl|trivial),trivial⟩;show dF s=j8 s (k+_);rw[h3,hs,g6]
 ·have hk:s.length<=k:=by have:¬((k:Int)<(s.length:Int)):=fun e=>h (Xd e);omega
  rw[vQ hk]at h3;rw[OA h];unfold xH;rw[h3];exact Xr
theorem D0(s:Str)  :
  if(!decide (s=[]))=true then([48,49,50,51,52,53,54,55,56,57]:Str)=rI/\True/\decide (oq s=[])=cq s/\True else True/\false=cq s/\True:=by
 have e:∀l:Str,(l.all cI)=l.all fun c=>aY (bI c):=fun _=>rfl;apply a6<;>intro h
 ·refine⟨rfl,trivial,?_,trivial⟩;unfold cq;rw[h,OY,<-e];exact Qk.2 (Qg.trans (vP s))
 ·refine⟨trivial,?_,trivial⟩;unfold cq;rw[Pf]at h;rw[h,P2]
theorem Ke(s:Str)(hs:Wf .str s) :
  let A:=True/\false=dn s/\True;let B:=(0:Int);let C:=(↑(List.length s):Int);let D:=(0:UInt8);let E:=(List.all s fun(c:UInt8)=>gj (bI c));let F:=s=s/\false=false/\C=C/\True;let G:=(1:Int);let H:=(65:Int);let I:=(90:Int);let J:=(45:Int);let K:=(∃(x:Nat),(x<=List.length s/\E=List.all (List.drop x s) fun(c:UInt8)=>gj (bI c))/\B=(↑x:Int)/\F)/\∀(x:Nat),let L:=(↑x:Int);let M:=(↑(UInt8.toNat (List.getD s (Int.toNat L) D)):Int);let N:=inR IntKind.i64 (L+G)/\∃(y:Nat),(y<=List.length s/\E=List.all (List.drop y s) fun(c:UInt8)=>gj (bI c))/\List.length s-y<List.length s-x/\L+G=(↑y:Int)/\F;let O:=if(!decide (M=J))=true then A else N;let P:=if decide (H<=M)=true then if decide (M<=I)=true then N else O else O;let Q:=if decide ((97:Int)<=M)=true then if decide (M<=(122:Int))=true then N else P else P;(x<=List.length s/\E=List.all (List.drop x s) fun(c:UInt8)=>gj (bI c))->if decide (L<C)=true then(B<=L/\L<C)/\if decide ((48:Int)<=M)=true then if decide (M<=(57:Int))=true then N else Q else Q else True/\true=dn s/\True;if decide (s=[])=true then A else if cq s=true then(B<=B/\B<C)/\if decide ((↑(UInt8.toNat (List.getD s (Int.toNat B) D)):Int)=(48:Int))=true then if(!decide (s=([48]:Str)))=true then A else K else K else K:=by
 conv=>zeta
 apply a6<;>intro h
 ·replace h:=Xo h;subst h;exact Xr
 have hne:s≠[]:=fun e=>h (Xd e);have hpos:=Pw.2 hne;apply a6<;>intro h1
 ·refine⟨⟨by omega,by omega⟩,a6 (fun h2=>?_) (fun h2=>?_)⟩
  ·apply a6<;>intro h3
   ·refine⟨trivial,?_,trivial⟩;have e:decide (bI (s.getD 0 0)=48)=true:=h2;unfold dn;rw[h1,e,h3];simp
   ·have hz:(cq s&&decide (bI (s.getD 0 0)=48)&&!decide (s=[48]))=false:=by rw[Pf]at h3;rw[h3,Ps]
    refine⟨⟨0,⟨OJ _,rfl⟩,rfl,rfl,rfl,rfl,trivial⟩,?_⟩;rintro k ⟨h1,h2⟩;simp only[OH];apply a6<;>intro h
    ·have hk:k<s.length:=by have:=Xo h;omega
     rw[aJ s k 0 hk,P4]at h2;have eb:((s.getD k 0).toNat:Int)=bI (s.getD k 0):=rfl;refine⟨⟨by omega,by omega⟩,?_⟩;simp only[eb];have hp:=n9 (bI (s.getD k 0));have yes:gj (bI (s.getD k 0))=true->(s.all fun c=>gj (bI c))=(s.drop (k+1)).all fun c=>gj (bI c):=fun e=>by rw[h2,e,OY]
     have no:¬gj (bI (s.getD k 0))=true->false=dn s:=fun e=>by rw[lq hne hz,h2,P5.2 e,P2]
     generalize bI (s.getD k 0)=c at hp yes no⊢
     repeat' (apply a6<;>intro _)
     all_goals (simp only[OK,OW,P1]at *)
     all_goals first
      |exact⟨trivial,no (fun e=>by have:=hp.1 e;omega),trivial⟩
      |exact⟨ba hk hs.str,k+1,⟨by omega,yes (hp.2 (by omega))⟩,by omega,by omega,(by first|rfl|trivial),(by first|rfl|trivial),(by first|rfl|trivial),trivial⟩
    ·have hk:k=s.length:=by have:¬((k:Int)<(s.length:Int)):=fun e=>h (Xd e);omega
     refine⟨trivial,?_,trivial⟩;rw[lq hne hz,h2,hk,OO];rfl
  ·have hz:(cq s&&decide (bI (s.getD 0 0)=48)&&!decide (s=[48]))=false:=by
    have e:decide (bI (s.getD 0 0)=48)=false:=by rw[Pf]at h2;exact h2
    rw[e,Ps,P2]
   refine⟨⟨0,⟨OJ _,rfl⟩,rfl,rfl,rfl,rfl,trivial⟩,?_⟩;rintro k ⟨h1,h2⟩;simp only[OH];apply a6<;>intro h
   ·have hk:k<s.length:=by have:=Xo h;omega
    rw[aJ s k 0 hk,P4]at h2;have eb:((s.getD k 0).toNat:Int)=bI (s.getD k 0):=rfl;refine⟨⟨by omega,by omega⟩,?_⟩;simp only[eb];have hp:=n9 (bI (s.getD k 0));have yes:gj (bI (s.getD k 0))=true->(s.all fun c=>gj (bI c))=(s.drop (k+1)).all fun c=>gj (bI c):=fun e=>by rw[h2,e,OY]
    have no:¬gj (bI (s.getD k 0))=true->false=dn s:=fun e=>by rw[lq hne hz,h2,P5.2 e,P2]
    generalize bI (s.getD k 0)=c at hp yes no⊢
    repeat' (apply a6<;>intro _)
    all_goals (simp only[OK,OW,P1]at *)
    all_goals first
     |exact⟨trivial,no (fun e=>by have:=hp.1 e;omega),trivial⟩
     |exact⟨ba hk hs.str,k+1,⟨by omega,yes (hp.2 (by omega))⟩,by omega,by omega,(by first|rfl|trivial),(by first|rfl|trivial),(by first|rfl|trivial),trivial⟩
   ·have hk:k=s.length:=by have:¬((k:Int)<(s.length:Int)):=fun e=>h (Xd e);omega
    refine⟨trivial,?_,trivial⟩;rw[lq hne hz,h2,hk,OO];rfl
 ·have hz:(cq s&&decide (bI (s.getD 0 0)=48)&&!decide (s=[48]))=false:=by rw[Pf]at h1;rw[h1,P2,P2]
  refine⟨⟨0,⟨OJ _,rfl⟩,rfl,rfl,rfl,rfl,trivial⟩,?_⟩;rintro k ⟨h1,h2⟩;simp only[OH];apply a6<;>intro h
  ·have hk:k<s.length:=by have:=Xo h;omega
   rw[aJ s k 0 hk,P4]at h2;have eb:((s.getD k 0).toNat:Int)=bI (s.getD k 0):=rfl;refine⟨⟨by omega,by omega⟩,?_⟩;simp only[eb];have hp:=n9 (bI (s.getD k 0));have yes:gj (bI (s.getD k 0))=true->(s.all fun c=>gj (bI c))=(s.drop (k+1)).all fun c=>gj (bI c):=fun e=>by rw[h2,e,OY]
   have no:¬gj (bI (s.getD k 0))=true->false=dn s:=fun e=>by rw[lq hne hz,h2,P5.2 e,P2]
   generalize bI (s.getD k 0)=c at hp yes no⊢
   repeat' (apply a6<;>intro _)
   all_goals (simp only[OK,OW,P1]at *)
   all_goals first
    |exact⟨trivial,no (fun e=>by have:=hp.1 e;omega),trivial⟩
    |exact⟨ba hk hs.str,k+1,⟨by omega,yes (hp.2 (by omega))⟩,by omega,by omega,(by first|rfl|trivial),(by first|rfl|trivial),(by first|rfl|trivial),trivial⟩
  ·have hk:k=s.length:=by have:¬((k:Int)<(s.length:Int)):=fun e=>h (Xd e);omega
   refine⟨trivial,?_,trivial⟩;rw[lq hne hz,h2,hk,OO];rfl
theorem GR(v:Vers)(hv:Wf (.st .version) v) :
  let A:=(3:Nat);let B:=[v.major,v.minor,v.patch];let C:=(0:Int);let D:=(↑(List.length B):Int);let E:=v=v/\List.length B=List.length B/\True;let F:=v=v/\B=B/\D=D/\E;let G:=dfl (Ty.int IntKind.i64);let H:=True/\(40:Int)=bW v/\True;let I:=(1:Int);let J:=(46:UInt8);let K:=splitB J v.pre;let L:=(↑(List.length K):Int);let M:=v=v/\B=B/\D=D/\false=false/\false=false/\true=true/\splitB J v.pre=splitB J v.pre/\L=L/\E;let N:=True/\C=bW v/\True;(∃(x:Nat),(x<=A/\List.all (List.take x B) rJ=true)/\C=(↑x:Int)/\F)/\∀(x:Nat),let O:=(↑x:Int);x<=A/\List.all (List.take x B) rJ=true->if decide (O<D)=true then(C<=O/\O<D)/\if decide (List.getD B (Int.toNat O) G<C)=true then H else if decide ((999999:Int)<List.getD B (Int.toNat O) G)=true then H else inR IntKind.i64 (O+I)/\∃(y:Nat),(y<=A/\List.all (List.take y B) rJ=true)/\A-y<A-x/\O+I=(↑y:Int)/\F else if decide ((24:Int)<(↑(List.length v.pre):Int))=true then H else if(!decide (v.pre=[]))=true then(([46]:Str)=([46]:Str)/\List.length v.pre<(4294967281:Nat))/\(∃(x_1:Nat),(x_1<=List.length K/\List.all (List.take x_1 K) dn=true)/\C=(↑x_1:Int)/\O=O/\M)/\∀(x_1:Nat),let P:=(↑x_1:Int);x_1<=List.length K/\List.all (List.take x_1 K) dn=true->if decide (P<L)=true then(C<=P/\P<L)/\if(!dn (List.getD K (Int.toNat P) (dfl Ty.str)))=true then H else inR IntKind.i64 (P+I)/\∃(y:Nat),(y<=List.length K/\List.all (List.take y K) dn=true)/\List.length K-y<List.length K-x_1/\P+I=(↑y:Int)/\O=O/\M else N else N:=by
 conv=>zeta
 have bad:∀k:Nat,k<3->rJ ([v.major,v.minor,v.patch].getD k (dfl (.int .i64)))=false->True/\(40:Int)=bW v/\True:=fun k hk e=>
  ⟨trivial,(CH (pF (l:=[v.major,v.minor,v.patch]) (dfl (.int .i64)) hk e)).symm,trivial⟩
 refine⟨⟨0,⟨by omega,rfl⟩,?_⟩,?_⟩
 ·exact Xr
 rintro k ⟨h1,h2⟩;have l3:[v.major,v.minor,v.patch].length=3:=rfl;simp only[OH,l3];apply a6<;>intro h
 ·have hk:k<3:=by have:=Xo h;omega
  have bk:=bad k hk;have gk:=iS (l:=[v.major,v.minor,v.patch]) (dfl (.int .i64)) hk h2;refine⟨⟨by omega,by omega⟩,?_⟩;refine a6 (fun a=>bk ?_) (fun a=>a6 (fun b=>bk ?_) (fun b=>?_))
  ·have:=Xo a;have e:¬0<=[v.major,v.minor,v.patch].getD k (dfl (.int .i64)):=by omega
   unfold rJ;rw[Xf e,P2]
  ·have:=Xo b;have e:¬[v.major,v.minor,v.patch].getD k (dfl (.int .i64))<=999999:=by omega
   unfold rJ;rw[Xf e,Ps]
  ·have a:¬[v.major,v.minor,v.patch].getD k (dfl (.int .i64))<0:=fun e=>a (Xd e);have b:¬999999<[v.major,v.minor,v.patch].getD k (dfl (.int .i64)):=fun e=>b (Xd e);have a':0<=[v.major,v.minor,v.patch].getD k (dfl (.int .i64)):=by omega
   have b':[v.major,v.minor,v.patch].getD k (dfl (.int .i64))<=999999:=by omega
   refine⟨aj (by omega) (by omega),k+1,⟨by omega,gk ?_⟩,by omega,by omega,?_⟩
   ·unfold rJ;rw[Xd a',Xd b'];rfl
   ·exact Xr
 ·have hk:k=3:=by have:¬((k:Int)<((3:Nat):Int)):=fun e=>h (Xd e);omega
  subst hk;have hg:=zP h2;apply a6<;>intro a
  ·have:=Xo a;rw[OB (by omega)]at hg;rw[hg];exact Xr
  have a:¬(24:Int)<(v.pre.length:Int):=fun e=>a (Xd e);have hl:=iR 46 v.pre;rw[OA (by omega)]at hg;apply a6<;>intro b
  ·have b:¬v.pre=[]:=by simpa using b
   rw[OA b]at hg;refine⟨⟨(by first|rfl|trivial),by omega⟩,⟨0,⟨by omega,rfl⟩,?_⟩,?_⟩
   ·exact Xr
   rintro j ⟨j1,j2⟩;apply a6<;>intro c
   ·have hj:j<(splitB 46 v.pre).length:=by have:=Xo c;omega
    refine⟨⟨by omega,by omega⟩,a6 (fun d=>?_) (fun d=>?_)⟩
    ·have d:dn ((splitB 46 v.pre).getD j (dfl .str))=false:=by simpa using d
     rw[pF (dfl .str) hj d,OA Pk]at hg;rw[hg];exact Xr
    ·have d:dn ((splitB 46 v.pre).getD j (dfl .str))=true:=by simpa using d
     refine⟨aj (by omega) (by omega),j+1,⟨by omega,iS (dfl .str) hj j2 d⟩,by omega,by omega,?_⟩;exact Xr
   ·have hj:(splitB 46 v.pre).length<=j:=by have:¬((j:Int)<((splitB 46 v.pre).length:Int)):=fun e=>c (Xd e);omega
    rw[tq hj]at j2;rw[OB j2]at hg;rw[hg];exact Xr
  ·have b:v.pre=[]:=by simpa using b
   rw[OB b]at hg;rw[hg];exact Xr
theorem GU(s:Str)(ho:s.length<=4096) :
  let A:=(4294967281:Nat);let B:=aU s;let C:=(46:UInt8);let D:=splitB C B;let E:=(↑(List.length D):Int);let F:=True;let G:=(0:Int);let H:=cz s;let I:=G=H.1.major;let J:=G=H.1.minor;let K:=G=H.1.patch;let L:=[]=H.1.pre;let M:=F/\I/\J/\K/\L/\(40:Int)=H.2/\F;let N:=(3:Nat);let O:=aU s=aU s;let P:=cX s=cX s;let Q:=eT s=eT s;let R:=splitB C B=splitB C B;let S:=false=false;let T:=G=G/\G=G/\G=G/\dT UInt8=dT UInt8/\F;let U:=dfl Ty.str;let V:=(1:Int);let W:=Int.toNat G;let X:=(↑N:Int);let Y:=(2:Int);let Z:=dfl (Ty.int IntKind.i64);let a:=Int.toNat V;let b:=Int.toNat Y;let c:=(∃(x:Nat),(x<=N/\List.all (List.take x D) fB=true)/\G=(↑x:Int)/\s=s/\O/\P/\Q/\R/\S/\R/\E=E/\List.replicate N G=pE s x/\T)/\∀(x:Nat),let d:=(↑x:Int);let e:=List.getD D (Int.toNat d) U;let f:=(↑(List.length e):Int);let g:=pE s x;let h:=ld e/\(G<=d/\d<X)/\Int.toNat d<List.length g/\inR IntKind.i64 (d+V)/\∃(y:Nat),(y<=N/\List.all (List.take y D) fB=true)/\N-y<N-x/\d+V=(↑y:Int)/\s=s/\O/\P/\Q/\R/\S/\R/\E=E/\List.set g (Int.toNat d) (ei e)=pE s y/\T;x<=N/\List.all (List.take x D) fB=true->if decide (d<E)=true then(G<=d/\d<E)/\if(!cq e)=true then M else if decide ((6:Int)<f)=true then M else if decide (V<f)=true then(G<=G/\G<f)/\if decide ((↑(UInt8.toNat (List.getD e W (0:UInt8))):Int)=(48:Int))=true then M else h else h else(G<=G/\G<X)/\Int.toNat G<List.length g/\(G<=V/\V<X)/\Int.toNat V<List.length g/\(G<=Y/\Y<X)/\Int.toNat Y<List.length g/\if(!decide (bW {major:=List.getD g W Z,minor:=List.getD g a Z,patch:=List.getD g b Z,pre:=cX s:Vers}=G))=true then F/\I/\J/\K/\L/\bW {major:=List.getD g W Z,minor:=List.getD g a Z,patch:=List.getD g b Z,pre:=cX s:Vers}=H.2/\F else F/\List.getD g W Z=H.1.major/\List.getD g a Z=H.1.minor/\List.getD g b Z=H.1.patch/\cX s=H.1.pre/\G=H.2/\F;(([45]:Str)=([45]:Str)/\List.length s<A)/\(([46]:Str)=([46]:Str)/\List.length B<A)/\if(!decide (E=(3:Int)))=true then M else if eT s=true then if decide (cX s=[])=true then M else c else c:=by
 conv=>zeta
 have bad:cz s=(noV,40)->True/\(0:Int)=(cz s).1.major/\(0:Int)=(cz s).1.minor/\(0:Int)=(cz s).1.patch/\[]=(cz s).1.pre/\(40:Int)=(cz s).2/\True:=fun e=>by rw[e];exact Xr
 have hc:=vT s;refine⟨⟨(by first|rfl|trivial),by omega⟩,⟨(by first|rfl|trivial),by omega⟩,a6 (fun a=>?_) (fun a=>?_)⟩
 ·exact bad (rn (fun e=>by rw[e]at a;simp at a))
 have a:(splitB 46 (aU s)).length=3:=by simp only[OW,P1,Decidable.not_not]at a;omega
 refine a6 (fun b=>a6 (fun c=>?_) (fun c=>?_)) (fun b=>?_)
 ·exact bad (rq b (Xo c))
 ·have he:=ku a (fun _ e=>c (Xd e));refine⟨⟨0,⟨by omega,rfl⟩,?_⟩,?_⟩
  ·exact Xr
  rintro k ⟨h1,h2⟩;have lr:(pE s k).length=3:=rfl;simp only[OH,lr];apply a6<;>intro h
  ·have hk:k<(splitB 46 (aU s)).length:=by have:=Xo h;omega
   refine⟨⟨by omega,by omega⟩,?_⟩;have no:fB ((splitB 46 (aU s)).getD k (dfl .str))=false->cz s=(noV,40):=fun e=>by rw[he,pF (dfl .str) hk e,OA Pk]
   have yes:fB ((splitB 46 (aU s)).getD k (dfl .str))=true->((splitB 46 (aU s)).take (k+1)).all fB=true:=iS (dfl .str) hk h2;have hset:=zQ (s:=s) (k:=k) (by omega);refine a6 (fun a=>bad (no ?_)) (fun a=>a6 (fun b=>bad (no ?_)) (fun b=>a6 (fun c=>⟨⟨by omega,by have:=Xo c;omega⟩,a6 (fun d=>bad (no ?_)) (fun d=>?_)⟩) (fun c=>?_)))
   ·unfold fB;rw[OW]at a;rw[a,P2,P2]
   ·have:=Xo b;unfold fB;rw[Xf (p:=List.length ((splitB 46 (aU s)).getD k (dfl .str))<=6) (by omega),Ps,P2]
   ·have e:decide (bI (((splitB 46 (aU s)).getD k (dfl .str)).getD 0 0)=48)=true:=d;have c:=Xo c;unfold fB;rw[e,Xd (p:=1<List.length ((splitB 46 (aU s)).getD k (dfl .str))) (by omega)];simp
   ·have e:decide (bI (((splitB 46 (aU s)).getD k (dfl .str)).getD 0 0)=48)=false:=by rw[Pf]at d;exact d
    have b:¬(6:Int)<_:=fun x=>b (Xd x);have en:fB ((splitB 46 (aU s)).getD k (dfl .str))=true:=by unfold fB;rw[e];simp only[OW,Rc]at a;rw[a,Xd (p:=List.length ((splitB 46 (aU s)).getD k (dfl .str))<=6) (by omega)];simp
    have ed:cq ((splitB 46 (aU s)).getD k (dfl .str))=true/\((splitB 46 (aU s)).getD k (dfl .str)).length<=6:=by have e:=en;unfold fB at e;simp only[OF,OK]at e;exact⟨e.1.1,e.1.2⟩
    refine⟨j9 ed.1 (by omega),⟨by omega,by omega⟩,by omega,aj (by omega) (by omega),k+1,⟨by omega,yes en⟩,by omega,by omega,?_⟩
    repeat (first|exact trivial|refine⟨by first|rfl|(exact hset)|trivial,?_⟩)
   ·have b:¬(6:Int)<_:=fun x=>b (Xd x);have c:¬(1:Int)<_:=fun x=>c (Xd x);have en:fB ((splitB 46 (aU s)).getD k (dfl .str))=true:=by unfold fB;simp only[OW,Rc]at a;rw[a,Xd (p:=List.length ((splitB 46 (aU s)).getD k (dfl .str))<=6) (by omega),Xf (p:=1<List.length ((splitB 46 (aU s)).getD k (dfl .str))) (by omega)];simp
    have ed:cq ((splitB 46 (aU s)).getD k (dfl .str))=true/\((splitB 46 (aU s)).getD k (dfl .str)).length<=6:=by have e:=en;unfold fB at e;simp only[OF,OK]at e;exact⟨e.1.1,e.1.2⟩
    refine⟨j9 ed.1 (by omega),⟨by omega,by omega⟩,by omega,aj (by omega) (by omega),k+1,⟨by omega,yes en⟩,by omega,by omega,?_⟩
    repeat (first|exact trivial|refine⟨by first|rfl|(exact hset)|trivial,?_⟩)
  ·have hk:k=3:=by have:¬((k:Int)<((splitB 46 (aU s)).length:Int)):=fun e=>h (Xd e);omega
   subst hk;rw[tq (by omega)]at h2;rw[OB h2]at he;have ev:(⟨List.getD (pE s 3) (Int.toNat 0) (dfl (Ty.int IntKind.i64)),List.getD (pE s 3) (Int.toNat 1) (dfl (Ty.int IntKind.i64)),List.getD (pE s 3) (Int.toNat 2) (dfl (Ty.int IntKind.i64)),cX s⟩:Vers)=eD s:=rfl;refine⟨⟨by omega,by omega⟩,by decide,⟨by omega,by omega⟩,by decide,⟨by omega,by omega⟩,by decide,?_⟩;apply a6<;>intro a
   ·have a:¬bW (eD s)=0:=by rw[<-ev];simpa using a
    rw[OA a]at he;have a4:=(tt (eD s)).resolve_left a;rw[he,ev,a4]
    repeat (first|exact trivial|refine⟨by first|rfl|(exact hset)|trivial,?_⟩)
   ·have a:bW (eD s)=0:=by rw[<-ev];simpa using a
    rw[OB a]at he;rw[he]
    repeat (first|exact trivial|refine⟨by first|rfl|(exact hset)|trivial,?_⟩)
 ·have he:=ku a (fun e=>absurd e b);refine⟨⟨0,⟨by omega,rfl⟩,?_⟩,?_⟩
  ·exact Xr
  rintro k ⟨h1,h2⟩;have lr:(pE s k).length=3:=rfl;simp only[OH,lr];apply a6<;>intro h
  ·have hk:k<(splitB 46 (aU s)).length:=by have:=Xo h;omega
   refine⟨⟨by omega,by omega⟩,?_⟩;have no:fB ((splitB 46 (aU s)).getD k (dfl .str))=false->cz s=(noV,40):=fun e=>by rw[he,pF (dfl .str) hk e,OA Pk]
   have yes:fB ((splitB 46 (aU s)).getD k (dfl .str))=true->((splitB 46 (aU s)).take (k+1)).all fB=true:=iS (dfl .str) hk h2;have hset:=zQ (s:=s) (k:=k) (by omega);refine a6 (fun a=>bad (no ?_)) (fun a=>a6 (fun b=>bad (no ?_)) (fun b=>a6 (fun c=>⟨⟨by omega,by have:=Xo c;omega⟩,a6 (fun d=>bad (no ?_)) (fun d=>?_)⟩) (fun c=>?_)))
   ·unfold fB;rw[OW]at a;rw[a,P2,P2]
   ·have:=Xo b;unfold fB;rw[Xf (p:=List.length ((splitB 46 (aU s)).getD k (dfl .str))<=6) (by omega),Ps,P2]
   ·have e:decide (bI (((splitB 46 (aU s)).getD k (dfl .str)).getD 0 0)=48)=true:=d;have c:=Xo c;unfold fB;rw[e,Xd (p:=1<List.length ((splitB 46 (aU s)).getD k (dfl .str))) (by omega)];simp
   ·have e:decide (bI (((splitB 46 (aU s)).getD k (dfl .str)).getD 0 0)=48)=false:=by rw[Pf]at d;exact d
    have b:¬(6:Int)<_:=fun x=>b (Xd x);have en:fB ((splitB 46 (aU s)).getD k (dfl .str))=true:=by unfold fB;rw[e];simp only[OW,Rc]at a;rw[a,Xd (p:=List.length ((splitB 46 (aU s)).getD k (dfl .str))<=6) (by omega)];simp
    have ed:cq ((splitB 46 (aU s)).getD k (dfl .str))=true/\((splitB 46 (aU s)).getD k (dfl .str)).length<=6:=by have e:=en;unfold fB at e;simp only[OF,OK]at e;exact⟨e.1.1,e.1.2⟩
    refine⟨j9 ed.1 (by omega),⟨by omega,by omega⟩,by omega,aj (by omega) (by omega),k+1,⟨by omega,yes en⟩,by omega,by omega,?_⟩
    repeat (first|exact trivial|refine⟨by first|rfl|(exact hset)|trivial,?_⟩)
   ·have b:¬(6:Int)<_:=fun x=>b (Xd x);have c:¬(1:Int)<_:=fun x=>c (Xd x);have en:fB ((splitB 46 (aU s)).getD k (dfl .str))=true:=by unfold fB;simp only[OW,Rc]at a;rw[a,Xd (p:=List.length ((splitB 46 (aU s)).getD k (dfl .str))<=6) (by omega),Xf (p:=1<List.length ((splitB 46 (aU s)).getD k (dfl .str))) (by omega)];simp
    have ed:cq ((splitB 46 (aU s)).getD k (dfl .str))=true/\((splitB 46 (aU s)).getD k (dfl .str)).length<=6:=by have e:=en;unfold fB at e;simp only[OF,OK]at e;exact⟨e.1.1,e.1.2⟩
    refine⟨j9 ed.1 (by omega),⟨by omega,by omega⟩,by omega,aj (by omega) (by omega),k+1,⟨by omega,yes en⟩,by omega,by omega,?_⟩
    repeat (first|exact trivial|refine⟨by first|rfl|(exact hset)|trivial,?_⟩)
  ·have hk:k=3:=by have:¬((k:Int)<((splitB 46 (aU s)).length:Int)):=fun e=>h (Xd e);omega
   subst hk;rw[tq (by omega)]at h2;rw[OB h2]at he;have ev:(⟨List.getD (pE s 3) (Int.toNat 0) (dfl (Ty.int IntKind.i64)),List.getD (pE s 3) (Int.toNat 1) (dfl (Ty.int IntKind.i64)),List.getD (pE s 3) (Int.toNat 2) (dfl (Ty.int IntKind.i64)),cX s⟩:Vers)=eD s:=rfl;refine⟨⟨by omega,by omega⟩,by decide,⟨by omega,by omega⟩,by decide,⟨by omega,by omega⟩,by decide,?_⟩;apply a6<;>intro a
   ·have a:¬bW (eD s)=0:=by rw[<-ev];simpa using a
    rw[OA a]at he;have a4:=(tt (eD s)).resolve_left a;rw[he,ev,a4]
    repeat (first|exact trivial|refine⟨by first|rfl|(exact hset)|trivial,?_⟩)
   ·have a:bW (eD s)=0:=by rw[<-ev];simpa using a
    rw[OB a]at he;rw[he]
    repeat (first|exact trivial|refine⟨by first|rfl|(exact hset)|trivial,?_⟩)
theorem Kf(s:Str)(c:SC)(n:Nat)(e a:Int)(ho:n=c.out.length) :
  let A:=gZ e a c;True/\false=false/\s=s/\c.pos=A.2.pos/\c.out=A.2.out/\e=A.2.err/\a=A.2.fat/\n=List.length A.2.out/\True:=by
 conv=>zeta
 exact⟨trivial,rfl,rfl,rfl,rfl,rfl,rfl,ho,trivial⟩
theorem GV(s:Str)(c:SC)(n:Nat)(a b:Int)(ho:n=c.out.length/\s.length<=4096/\0<=a/\a<=b/\b<=(s.length:Int)) :
  let A:=List.drop (Int.toNat a) (List.take (Int.toNat b) s);let B:=xH A;let C:=jj s a b c;let D:=gZ B.err (a+B.pos) c;((0:Int)<=a/\a<=b/\b<=(↑(List.length s):Int))/\List.length A<=(4096:Nat)/\if(!decide (B.err=(0:Int)))=true then inR IntKind.i64 (a+B.pos)/\n=List.length c.out/\True/\false=C.1/\s=s/\D.2.pos=C.2.pos/\D.2.out=C.2.out/\D.2.err=C.2.err/\D.2.fat=C.2.fat/\List.length D.2.out=List.length C.2.out/\True else True/\true=C.1/\s=s/\c.pos=C.2.pos/\c.out=C.2.out/\c.err=C.2.err/\c.fat=C.2.fat/\n=List.length C.2.out/\True:=by
 conv=>zeta
 obtain⟨h1,h2,h3,h4,h5⟩:=ho;have hl:=s8 h3 h4 h5;have hc:List.drop (Int.toNat a) (List.take (Int.toNat b) s)=cut s a b:=rfl;simp only[hc];refine⟨⟨h3,h4,h5⟩,by omega,?_⟩;unfold jj
 cases hb:dF (cut s a b)with
 |none=>
  rw[Gi hb];refine⟨trivial,rfl,?_⟩
  repeat (first|exact trivial|exact⟨h1,trivial⟩|refine⟨by first|rfl|trivial,?_⟩)
 |some k=>rw[Gj hb];have:=Gk hb;refine⟨aj (by show _<=a+(k:Int);omega) (by show a+(k:Int)<=_;omega),h1,trivial,?_⟩;exact Xr
theorem Ms(s:Str)(c:SC)(n:Nat)(k:Int)(t:Str)(fr:Int)(ho:n=c.out.length/\(n+1) *32<=140737488355328) :
  let A:=[{kind:=k,text:=t,pos:=fr:Tokn}];let B:=ji k t fr c;(List.length c.out=n/\(List.length c.out+List.length A)*(32:Nat)<=(140737488355328:Nat))/\True/\true=true/\fr=fr/\s=s/\c.pos=B.2.pos/\c.out++A=B.2.out/\c.err=B.2.err/\c.fat=B.2.fat/\List.length (c.out++A)=n+(1:Nat)/\True:=by
 conv=>zeta
 obtain⟨h1,h2⟩:=ho;refine⟨⟨h1.symm,by simp only[OD];omega⟩,trivial,by trivial,by trivial,by trivial,rfl,rfl,rfl,rfl,?_,trivial⟩;rw[OE,OD,h1]
theorem D1(s:Str)(c:SC)(n:Nat)(ho:n=c.out.length/\n<=4096/\s.length<=4096/\0<=c.pos/\c.pos<=(s.length:Int)/\c.pos<(s.length:Int)) :
  let A:=(1:Int);let B:=(0:Int);let C:=(↑(List.length s):Int);let D:=c.pos=c.pos;let E:=s=s;let F:=True;let G:=List.length s<=(4096:Nat);let H:=(2:Int);let I:=di s c;let J:=[]=I.1;let K:=false=I.2.1;let L:=(60:Int);let M:=([110,116,34,92]:Str);let N:=([10,9,34,92]:Str);let O:=(0:UInt8);let P:=(140737488355328:Nat);inR IntKind.i64 (c.pos+A)/\(∃(x:Nat×Str×SC),(x.2.2.out=c.out/\x.2.2.err=c.err/\x.2.2.fat=c.fat/\B<=x.2.2.pos/\x.2.2.pos<=C/\(↑(List.length x.2.1):Int)<=x.2.2.pos/\C<x.2.2.pos+(↑x.1:Int)/\di s c=eY s c.pos x.1 x.2.1 x.2.2)/\aT x.2.1=[]/\D/\E/\c.pos+A=x.2.2.pos/\c.out=x.2.2.out/\c.err=x.2.2.err/\c.fat=x.2.2.fat/\List.length (aT x.2.1)=(0:Nat)/\n=n/\F)/\∀(x:Nat×Str×SC),let Q:=B<=x.2.2.pos;let R:=x.2.2.pos<=C;let S:=x.2.2.pos+B;let T:=n=List.length x.2.2.out;let U:=gZ L c.pos x.2.2;let V:=T/\F/\J/\K/\E/\U.2.pos=I.2.2.pos/\U.2.out=I.2.2.out/\U.2.err=I.2.2.err/\U.2.fat=I.2.2.fat/\List.length U.2.out=List.length I.2.2.out/\F;let W:=x.2.2.pos+A;let X:=aT x.2.1;let Y:=bAt s W;let Z:=List.length X=List.length X;let a:=[(↑(UInt8.toNat (List.getD N (Int.toNat (qq M Y)) O)):Int)];let b:=(↑(aq bQ s x.2.2.pos):Int);let d:=x.2.2.pos+b;let e:=cut s x.2.2.pos d;let f:=(↑(List.length e):Int);let g:=x.2.2.pos+b-f;let h:=(jj s g d {pos:=x.2.2.pos+b,out:=x.2.2.out,err:=x.2.2.err,fat:=x.2.2.fat:SC});x.2.2.out=c.out/\x.2.2.err=c.err/\x.2.2.fat=c.fat/\Q/\R/\(↑(List.length x.2.1):Int)<=x.2.2.pos/\C<x.2.2.pos+(↑x.1:Int)/\di s c=eY s c.pos x.1 x.2.1 x.2.2->(G/\Q/\R/\B<=B/\B<=H)/\if decide (bAt s S<(32:Int))=true then V else if decide (bAt s S=(34:Int))=true then inR IntKind.i64 W/\F/\List.map (fun(n:Int)=>UInt8.ofNat (Int.toNat n)) X=I.1/\true=I.2.1/\E/\x.2.2.pos+A=I.2.2.pos/\x.2.2.out=I.2.2.out/\x.2.2.err=I.2.2.err/\x.2.2.fat=I.2.2.fat/\n=List.length I.2.2.out/\F else if decide (bAt s S=(92:Int))=true then(G/\Q/\R/\B<=A/\A<=H)/\if decide (qq M Y<B)=true then V else(B<=qq M Y/\qq M Y<(↑(List.length N):Int))/\(Z/\(List.length X+List.length a)*(1:Nat)<=P)/\inR IntKind.i64 (x.2.2.pos+H)/\∃(y:Nat×Str×SC),(y.2.2.out=c.out/\y.2.2.err=c.err/\y.2.2.fat=c.fat/\B<=y.2.2.pos/\y.2.2.pos<=C/\(↑(List.length y.2.1):Int)<=y.2.2.pos/\C<y.2.2.pos+(↑y.1:Int)/\di s c=eY s c.pos y.1 y.2.1 y.2.2)/\y.1<x.1/\aT x.2.1++a=aT y.2.1/\D/\E/\x.2.2.pos+H=y.2.2.pos/\x.2.2.out=y.2.2.out/\x.2.2.err=y.2.2.err/\x.2.2.fat=y.2.2.fat/\List.length (aT x.2.1++a)=List.length (aT y.2.1)/\n=n/\F else(G/\Q/\R)/\inR IntKind.i64 g/\(T/\G/\B<=x.2.2.pos+b-f/\x.2.2.pos+b-f<=x.2.2.pos+b/\x.2.2.pos+b<=C)/\if(!h.1)=true then F/\J/\K/\E/\h.2.pos=I.2.2.pos/\h.2.out=I.2.2.out/\h.2.err=I.2.2.err/\h.2.fat=I.2.2.fat/\List.length h.2.out=List.length I.2.2.out/\F else(Z/\(List.length X+List.length e)*(1:Nat)<=P)/\∃(y:Nat×Str×SC),(y.2.2.out=c.out/\y.2.2.err=c.err/\y.2.2.fat=c.fat/\B<=y.2.2.pos/\y.2.2.pos<=C/\(↑(List.length y.2.1):Int)<=y.2.2.pos/\C<y.2.2.pos+(↑y.1:Int)/\di s c=eY s c.pos y.1 y.2.1 y.2.2)/\y.1<x.1/\aT x.2.1++aT e=aT y.2.1/\D/\E/\h.2.pos=y.2.2.pos/\h.2.out=y.2.2.out/\h.2.err=y.2.2.err/\h.2.fat=y.2.2.fat/\List.length (aT x.2.1++aT e)=List.length (aT y.2.1)/\List.length h.2.out=n/\F:=by
 conv=>zeta
 obtain⟨ho1,ho2,ho3,ho4,ho5,ho6⟩:=ho;refine⟨aj (by omega) (by omega),⟨(s.length+2,[],dJ c (c.pos+1)),⟨rfl,rfl,rfl,by show 0<=c.pos+1;omega,by show c.pos+1<=_;omega,by show((0:Nat):Int)<=c.pos+1;omega,by show _<c.pos+1+((s.length+2:Nat):Int);omega,rfl⟩,?_⟩,?_⟩
 ·exact Xr
 rintro⟨f,acc,d⟩ ⟨d1,d2,d3,d4,d5,d6,d7,d8⟩;simp only at d1 d2 d3 d4 d5 d6 d7 d8;obtain⟨f,rfl⟩:∃g,f=g+1:=⟨f-1,by omega⟩;rw[eY]at d8;have e0:d.pos+0=d.pos:=Int.add_zero _;have hn:n=d.out.length:=by rw[d1];exact ho1
 simp only[e0];refine⟨⟨by omega,by omega,by omega,by omega,by omega⟩,a6 (fun h=>?_) (fun h=>?_)⟩
 ·replace h:=Xo h;rw[OB h]at d8;rw[d8];refine⟨hn,trivial,?_⟩;exact Xr
 replace h:¬bAt s d.pos<32:=fun e=>h (Xd e);rw[OA h]at d8;apply a6<;>intro k
 ·replace k:=Xo k;rw[OB k]at d8;rw[d8];refine⟨aj (by omega) (by omega),trivial,oJ acc,by trivial,by trivial,rfl,rfl,rfl,rfl,hn,trivial⟩
 replace k:¬bAt s d.pos=34:=fun e=>k (Xd e);rw[OA k]at d8;apply a6<;>intro j
 ·replace j:=Xo j;rw[OB j]at d8;refine⟨⟨by omega,by omega,by omega,by omega,by omega⟩,?_⟩
  cases he:lh (bAt s (d.pos+1))with
  |none=>have hi:=Jx he;rw[he]at d8;simp only at d8;refine a6 (fun _=>?_) (fun e=>absurd (Xd hi) e);rw[d8];refine⟨hn,trivial,?_⟩;exact Xr
  |some x=>obtain⟨i1,i2,i3⟩:=Jy he;have hp:=qt he;rw[he]at d8;simp only at d8;refine a6 (fun e=>absurd (Xo e) (by omega)) (fun _=>?_);simp only[i3];refine⟨⟨i1,i2⟩,⟨by trivial,by have:(aT acc).length=acc.length:=PY _;rw[this];simp only[OD];omega⟩,aj (by omega) (by omega),(f,acc++[UInt8.ofNat x.toNat],dJ d (d.pos+2)),⟨d1,d2,d3,by show 0<=d.pos+2;omega,by show d.pos+2<=_;omega,by show((acc++[_]).length:Int)<=d.pos+2;rw[OE,OD];omega,by show _<d.pos+2+(f:Int);omega,d8⟩,by show f<f+1;omega,by show _=aT (acc++[UInt8.ofNat x.toNat]);rw[fo];rfl,by trivial,by trivial,rfl,rfl,rfl,rfl,by rw[fo];rfl,by trivial,trivial⟩
 replace j:¬bAt s d.pos=92:=fun e=>j (Xd e);rw[OA j]at d8;obtain⟨p1,p2⟩:=vU h k j;have p2:=p2 d4;have p3:=eE (pr:=bQ) d4 (Rt p1);have hcl:=s8 (s:=s) d4 (b:=d.pos+(aq bQ s d.pos:Int)) (by omega) p3;have e1:d.pos+(aq bQ s d.pos:Int)-((cut s d.pos (d.pos+(aq bQ s d.pos:Int))).length:Int)=d.pos:=by omega
 simp only[e1];refine⟨⟨by omega,by omega,by omega⟩,aj (by omega) (by omega),⟨hn,by omega,by omega,by omega,by omega⟩,?_⟩;unfold jj
 cases hb:dF (cut s d.pos (d.pos+(aq bQ s d.pos:Int)))with
 |some q=>rw[hb]at d8;simp only at d8;rw[d8];refine a6 (fun _=>?_) (fun e=>absurd rfl e);refine⟨trivial,?_⟩;exact Xr
 |none=>
  rw[hb]at d8;simp only at d8;refine a6 (fun e=>Bool.noConfusion e) (fun _=>?_);have hbl:∀x:Str,(aT x).length=x.length:=fun _=>PY _;refine⟨⟨by trivial,by rw[hbl];omega⟩,(f,acc++cut s d.pos (d.pos+(aq bQ s d.pos:Int)),dJ d (d.pos+(aq bQ s d.pos:Int))),⟨d1,d2,d3,by show 0<=d.pos+_;omega,p3,by show((acc++cut s _ _).length:Int)<=d.pos+_;rw[OE];omega,by show _<d.pos+_+(f:Int);omega,d8⟩,by show f<f+1;omega,(fo _ _).symm,by trivial,by trivial,rfl,rfl,rfl,rfl,by rw[fo],?_⟩
  first|exact⟨hn,trivial⟩|exact⟨hn.symm,trivial⟩
theorem Mt(s:Str)  :
  let A:=True;let B:=A/\true=j7 s/\A;if decide (s=([60,61]:Str))=true then B else if decide (s=([62,61]:Str))=true then B else if decide (s=([45,62]:Str))=true then B else if decide ((↑(List.length s):Int)=(1:Int))=true then List.length s=(1:Nat)/\A/\decide (List.getD s (0:Nat) (0:UInt8)∈([40,41,123,125,91,93,60,62,61,94,42,44,58,46,47,64,124]:Str))=j7 s/\A else A/\false=j7 s/\A:=by
 conv=>zeta
 unfold j7;apply a6<;>intro h
 ·rw[h];exact Xr
 rw[Pf]at h;apply a6<;>intro k
 ·rw[k,h];exact Xr
 rw[Pf]at k;apply a6<;>intro j
 ·rw[k,h,j];exact Xr
 rw[Pf]at j;rw[h,k,j];simp only[Bool.false_or];apply a6<;>intro i
 ·have i:=Xo i;have e:s.length=1:=by omega
  rw[Xd e,OY];exact⟨e,trivial,rfl,trivial⟩
 ·have i:¬(s.length:Int)=1:=fun e=>i (Xd e);rw[Xf (p:=s.length=1) (by omega),P2];exact Xr
theorem GW(s:Str)(c:SC)(n:Nat)(ho:n=c.out.length/\n<=4096/\s.length<=4096/\0<=c.pos/\c.pos<=(s.length:Int)/\c.pos<(s.length:Int)) :
  let A:=(4096:Nat);let B:=List.length s<=A;let C:=(0:Int);let D:=C<=c.pos;let E:=(↑(List.length s):Int);let F:=c.pos<=E;let G:=(2:Int);let H:=Ty.st SN.token;let I:=(AV.agg [AV.str s,AV.int IntKind.i64 c.pos,AV.lst H c.out (some (901:Nat)),AV.int IntKind.i64 c.err,AV.int IntKind.i64 c.fat]);let J:=True;let K:=c.pos+C;let L:=bAt s K;let M:=B/\D/\F;let N:=(↑(aq cd s c.pos):Int);let O:=cut s c.pos (c.pos+N);let P:=n=List.length c.out;let Q:=(1:Nat);let R:=(140737488355328:Nat);let S:=(P/\(n+Q)*(32:Nat)<=R);let T:=bw s c;let U:=true=T.1;let V:=s=s;let W:=(ji (5:Int) O c.pos {pos:=c.pos+N,out:=c.out,err:=c.err,fat:=c.fat:SC});let X:=n+Q=List.length T.2.out/\J;let Y:=(1:Int);let Z:=(ji Y O c.pos {pos:=c.pos+N,out:=c.out,err:=c.err,fat:=c.fat:SC});let a:=(ji G O c.pos {pos:=c.pos+N,out:=c.out,err:=c.err,fat:=c.fat:SC});let b:=false=T.1;let d:=(60:Int);let e:=(gZ d c.pos {pos:=c.pos+N,out:=c.out,err:=c.err,fat:=c.fat:SC});let f:=M/\if l9 O=true then S/\J/\U/\V/\W.2.pos=T.2.pos/\W.2.out=T.2.out/\W.2.err=T.2.err/\W.2.fat=T.2.fat/\X else if aX O=true then S/\J/\U/\V/\Z.2.pos=T.2.pos/\Z.2.out=T.2.out/\Z.2.err=T.2.err/\Z.2.fat=T.2.fat/\X else if dH O=true then S/\J/\U/\V/\a.2.pos=T.2.pos/\a.2.out=T.2.out/\a.2.err=T.2.err/\a.2.fat=T.2.fat/\X else P/\J/\b/\V/\e.2.pos=T.2.pos/\e.2.out=T.2.out/\e.2.err=T.2.err/\e.2.fat=T.2.fat/\List.length e.2.out=List.length T.2.out/\J;let g:=(↑(aq aZ s c.pos):Int);let h:=cut s c.pos (c.pos+g);let i:=(↑(List.length h):Int);let j:=(ji (3:Int) h c.pos {pos:=c.pos+g,out:=c.out,err:=c.err,fat:=c.fat:SC});let k:=S/\J/\U/\V/\j.2.pos=T.2.pos/\j.2.out=T.2.out/\j.2.err=T.2.err/\j.2.fat=T.2.fat/\X;let l:=(ji (7:Int) h c.pos {pos:=c.pos+g,out:=c.out,err:=c.err,fat:=c.fat:SC});let m:=(gZ d c.pos {pos:=c.pos+g,out:=c.out,err:=c.err,fat:=c.fat:SC});let o:=List.length h<=A/\if decide ((cz h).2=C)=true then S/\J/\U/\V/\l.2.pos=T.2.pos/\l.2.out=T.2.out/\l.2.err=T.2.err/\l.2.fat=T.2.fat/\X else P/\J/\b/\V/\m.2.pos=T.2.pos/\m.2.out=T.2.out/\m.2.err=T.2.err/\m.2.fat=T.2.fat/\List.length m.2.out=List.length T.2.out/\J;let p:=di s c;let q:=(ji (4:Int) p.1 c.pos p.2.2);let r:=(2:Nat);let t:=iG s c.pos G=false;let u:=(0:Nat);let v:=iG s c.pos Y=false;let w:=false=false;let z:=bAt s K=bAt s K/\w/\w/\w/\V/\c.pos=c.pos/\c.out=c.out/\c.err=c.err/\c.fat=c.fat/\n=n/\c.pos=c.pos/\J;let A0:=Int.toNat c.pos;let A1:=(6:Int);let A2:=gZ d c.pos c;((B/\D/\F/\C<=C/\C<=G)/\SObj.box I=SObj.box I/\SObj.tail H n=SObj.tail H n/\J)/\if bV L=true then f else if cb L=true then f else if aY L=true then M/\([48,49,50,51,52,53,54,55,56,57]:Str)=rI/\if decide ((↑(List.length (oq h)):Int)=C)=true then if decide (i<=(15:Int))=true then if decide (cut s c.pos (c.pos+g)=([48]:Str))=true then k else(C<=C/\C<i)/\if(!decide ((↑(UInt8.toNat (List.getD h (Int.toNat C) (0:UInt8))):Int)=(48:Int)))=true then k else o else o else o else if decide (bAt s K=(34:Int))=true then(P/\n<=A/\B/\D/\F/\c.pos<E)/\if p.2.1=true then(List.length p.2.2.out=List.length p.2.2.out/\(List.length p.2.2.out+Q)*(32:Nat)<=R)/\J/\U/\V/\q.2.pos=T.2.pos/\q.2.out=T.2.out/\q.2.err=T.2.err/\q.2.fat=T.2.fat/\List.length p.2.2.out+Q=List.length T.2.out/\J else J/\b/\V/\p.2.2.pos=T.2.pos/\p.2.2.out=T.2.out/\p.2.2.err=T.2.err/\p.2.2.fat=T.2.fat/\List.length p.2.2.out=List.length T.2.out/\J else(∃(x:Nat),(x<=r/\(x<=Q->t)/\(x=u->v))/\G=(↑x:Int)/\z)/\∀(x:Nat),let A3:=(↑x:Int);let A4:=inR IntKind.i64 (c.pos+A3);let A5:=c.pos+A3<=E;let A6:=D/\c.pos<=c.pos+A3/\A5;let A7:=List.drop A0 (List.take (Int.toNat (c.pos+A3)) s);let A8:=(ji A1 A7 c.pos {pos:=c.pos+A3,out:=c.out,err:=c.err,fat:=c.fat:SC});let A9:=inR IntKind.i64 (A3-Y)/\∃(y:Nat),(y<=r/\(y<=Q->t)/\(y=u->v))/\y<x/\A3-Y=(↑y:Int)/\z;x<=r/\(x<=Q->t)/\(x=u->v)->if decide (C<A3)=true then A4/\if decide (A5)=true then A4/\A6/\if j7 A7=true then A4/\A6/\S/\J/\U/\V/\A8.2.pos=T.2.pos/\A8.2.out=T.2.out/\A8.2.err=T.2.err/\A8.2.fat=T.2.fat/\X else A9 else A9 else P/\J/\b/\V/\A2.2.pos=T.2.pos/\A2.2.out=T.2.out/\A2.2.err=T.2.err/\A2.2.fat=T.2.fat/\List.length A2.2.out=List.length T.2.out/\J:=by
 conv=>zeta
 obtain⟨ho1,ho2,ho3,ho4,ho5,ho6⟩:=ho;have e0:c.pos+0=c.pos:=Int.add_zero _;have hout:∀(k:Int)(t:Str)(e:Int),n+1=(ji k t c.pos (dJ c e)).2.out.length:=fun k t e=>by show n+1=(c.out++[_]).length;rw[OE,OD,ho1]
 have hwr:=eE (pr:=cd) ho4 ho5;have hwl:=eE (pr:=aZ) ho4 ho5;simp only[e0];refine⟨⟨⟨by omega,by omega,by omega,by omega,by omega⟩,(by first|rfl|trivial),(by first|rfl|trivial),trivial⟩,a6 (fun a=>?_) (fun a=>?_)⟩
 ·have hw:bw s c=zM (cut s c.pos (c.pos+(aq cd s c.pos:Int))) (c.pos+(aq cd s c.pos:Int)) c:=by unfold bw;rw[OB (.inl a)]
  unfold zM at hw;refine⟨⟨by omega,by omega,by omega⟩,a6 (fun h=>?_) (fun h=>?_)⟩
  ·rw[OB h]at hw;rw[hw];refine⟨⟨ho1,by omega⟩,trivial,?_⟩
   repeat (first|exact trivial|exact⟨hout _ _ _,trivial⟩|refine⟨by first|rfl|trivial,?_⟩)
  rw[OA h]at hw;apply a6<;>intro i
  ·rw[OB i]at hw;rw[hw];refine⟨⟨ho1,by omega⟩,trivial,?_⟩
   repeat (first|exact trivial|exact⟨hout _ _ _,trivial⟩|refine⟨by first|rfl|trivial,?_⟩)
  rw[OA i]at hw;apply a6<;>intro j
  ·rw[OB j]at hw;rw[hw];refine⟨⟨ho1,by omega⟩,trivial,?_⟩
   repeat (first|exact trivial|exact⟨hout _ _ _,trivial⟩|refine⟨by first|rfl|trivial,?_⟩)
  rw[OA j]at hw;rw[hw];refine⟨ho1,trivial,?_⟩;exact Xr
 apply a6<;>intro b
 ·have hw:bw s c=zM (cut s c.pos (c.pos+(aq cd s c.pos:Int))) (c.pos+(aq cd s c.pos:Int)) c:=by unfold bw;rw[OB (.inr b)]
  unfold zM at hw;refine⟨⟨by omega,by omega,by omega⟩,a6 (fun h=>?_) (fun h=>?_)⟩
  ·rw[OB h]at hw;rw[hw];refine⟨⟨ho1,by omega⟩,trivial,?_⟩
   repeat (first|exact trivial|exact⟨hout _ _ _,trivial⟩|refine⟨by first|rfl|trivial,?_⟩)
  rw[OA h]at hw;apply a6<;>intro i
  ·rw[OB i]at hw;rw[hw];refine⟨⟨ho1,by omega⟩,trivial,?_⟩
   repeat (first|exact trivial|exact⟨hout _ _ _,trivial⟩|refine⟨by first|rfl|trivial,?_⟩)
  rw[OA i]at hw;apply a6<;>intro j
  ·rw[OB j]at hw;rw[hw];refine⟨⟨ho1,by omega⟩,trivial,?_⟩
   repeat (first|exact trivial|exact⟨hout _ _ _,trivial⟩|refine⟨by first|rfl|trivial,?_⟩)
  rw[OA j]at hw;rw[hw];refine⟨ho1,trivial,?_⟩;exact Xr
 have hn1:¬(bV (bAt s c.pos)=true∨cb (bAt s c.pos)=true):=fun e=>e.elim a b;apply a6<;>intro d
 ·have hw:bw s c=Gf (cut s c.pos (c.pos+(aq aZ s c.pos:Int))) (c.pos+(aq aZ s c.pos:Int)) c:=by unfold bw;rw[OA hn1,OB d]
  unfold Gf at hw;have hcl:=s8 (s:=s) ho4 (b:=c.pos+(aq aZ s c.pos:Int)) (by omega) hwl;have hne:=dp (pr:=aZ) ho4 ho6 (by rw[mZ ho6]at d;unfold aZ;rw[d,PN];rfl);have htr:=vP (cut s c.pos (c.pos+(aq aZ s c.pos:Int)));have hall:∀x:Str,(x.all fun c=>aY (bI c))=x.all cI:=fun _=>rfl;have hnt:ju (cut s c.pos (c.pos+(aq aZ s c.pos:Int)))=((cut s c.pos (c.pos+(aq aZ s c.pos:Int))).all cI&&decide ((cut s c.pos (c.pos+(aq aZ s c.pos:Int))).length<=15)&&(decide (cut s c.pos (c.pos+(aq aZ s c.pos:Int))=[48])||!decide (bI ((cut s c.pos (c.pos+(aq aZ s c.pos:Int))).getD 0 0)=48))):=rfl;refine⟨⟨by omega,by omega,by omega⟩,(by first | rfl | trivial),?_⟩;have eb:∀b:UInt8,(b.toNat:Int)=bI b:=fun _=>rfl;simp only[eb,PW];generalize cut s c.pos (c.pos+(aq aZ s c.pos:Int))=t at hw hcl htr hnt⊢;apply a6<;>intro f
  ·have f1:t.all cI=true:=htr.1 (OR (by have:=Xo f;omega));apply a6<;>intro g
   ·have g1:=Xo g;apply a6<;>intro i
    ·have hnum:ju t=true:=by rw[hnt,f1,Xd (p:=t.length<=15) (by omega),i];rfl
     rw[hnum,OB rfl]at hw;rw[hw];refine⟨⟨ho1,by omega⟩,trivial,?_⟩
     repeat (first|exact trivial|exact⟨hout _ _ _,trivial⟩|refine⟨by first|rfl|trivial,?_⟩)
    ·rw[Pf]at i;refine⟨⟨by omega,by omega⟩,a6 (fun j=>?_) (fun j=>?_)⟩
     ·have hnum:ju t=true:=by rw[hnt,f1,Xd (p:=t.length<=15) (by omega),j,PN];rfl
      rw[hnum,OB rfl]at hw;rw[hw];refine⟨⟨ho1,by omega⟩,trivial,?_⟩
      repeat (first|exact trivial|exact⟨hout _ _ _,trivial⟩|refine⟨by first|rfl|trivial,?_⟩)
     ·rw[Pf]at j;have hnum:ju t=false:=by rw[hnt,i,j,Ri,Ps]
      rw[hnum,OA Pk]at hw;refine⟨by omega,a6 (fun z=>?_) (fun z=>?_)⟩
      ·rw[OB (Xo z)]at hw;rw[hw];refine⟨⟨ho1,by omega⟩,trivial,?_⟩
       repeat (first|exact trivial|exact⟨hout _ _ _,trivial⟩|refine⟨by first|rfl|trivial,?_⟩)
      ·rw[OA (fun e=>z (Xd e))]at hw;rw[hw];refine⟨ho1,trivial,?_⟩;exact Xr
   ·have g1:¬(t.length:Int)<=15:=fun e=>g (Xd e);have hnum:ju t=false:=by rw[hnt,Xf (p:=t.length<=15) (by omega),Ps,P2]
    rw[hnum,OA Pk]at hw;refine⟨by omega,a6 (fun z=>?_) (fun z=>?_)⟩
    ·rw[OB (Xo z)]at hw;rw[hw];refine⟨⟨ho1,by omega⟩,trivial,?_⟩
     repeat (first|exact trivial|exact⟨hout _ _ _,trivial⟩|refine⟨by first|rfl|trivial,?_⟩)
    ·rw[OA (fun e=>z (Xd e))]at hw;rw[hw];refine⟨ho1,trivial,?_⟩;exact Xr
  ·have f1:t.all cI=false:=by rw[P5];intro e;refine f (Xd ?_);rw[htr.2 e];rfl
   have hnum:ju t=false:=by rw[hnt,f1,P2,P2]
   rw[hnum,OA Pk]at hw;refine⟨by omega,a6 (fun z=>?_) (fun z=>?_)⟩
   ·rw[OB (Xo z)]at hw;rw[hw];refine⟨⟨ho1,by omega⟩,trivial,?_⟩
    repeat (first|exact trivial|exact⟨hout _ _ _,trivial⟩|refine⟨by first|rfl|trivial,?_⟩)
   ·rw[OA (fun e=>z (Xd e))]at hw;rw[hw];refine⟨ho1,trivial,?_⟩;exact Xr
 apply a6<;>intro q
 ·have q:=Xo q;have hw:bw s c=Gg c.pos (di s c):=by unfold bw;rw[OA hn1,OA d,OB q]
  obtain⟨q1,q2,q3⟩:=gn s c.pos (s.length+2) [] (dJ c (c.pos+1)) (by show 0<=c.pos+1;omega) (by show c.pos+1<=_;omega);have q1':(di s c).2.2.out=c.out:=q1;unfold Gg at hw;refine⟨⟨ho1,ho2,ho3,ho4,ho5,ho6⟩,a6 (fun r=>?_) (fun r=>?_)⟩
  ·rw[OB r]at hw;rw[hw];refine⟨⟨by trivial,by rw[q1'];omega⟩,trivial,?_⟩
   repeat (first|exact trivial|refine⟨by first|rfl|trivial|(show _=(_++[_]).length;rw[OE,OD]),?_⟩)
  ·rw[OA r]at hw;rw[hw];refine⟨trivial,?_⟩;exact Xr
 have q:¬bAt s c.pos=34:=fun e=>q (Xd e);have hw:bw s c=CF s c:=by unfold bw;rw[OA hn1,OA d,OA q]
 refine⟨⟨2,⟨by omega,fun e=>by omega,fun e=>by omega⟩,?_⟩,?_⟩
 ·exact Xr
 rintro k ⟨h1,h2,h3⟩;have hcut:∀k:Int,List.drop (Int.toNat c.pos) (List.take (Int.toNat (c.pos+k)) s)=cut s c.pos (c.pos+k):=fun _=>rfl;simp only[hcut];apply a6<;>intro f
 ·have f:=Xo f;have hk:k=2∨k=1:=by omega
  have hsa:iG s c.pos (k:Int)=(decide (c.pos+(k:Int)<=(s.length:Int))&&j7 (cut s c.pos (c.pos+(k:Int)))):=rfl;refine⟨aj (by omega) (by omega),a6 (fun g=>?_) (fun g=>?_)⟩
  ·have g1:=Xo g;refine⟨aj (by omega) (by omega),⟨by omega,by omega,by omega⟩,a6 (fun i=>?_) (fun i=>?_)⟩
   ·rw[g,i]at hsa
    have hw:bw s c=ji 6 (cut s c.pos (c.pos+(k:Int))) c.pos (dJ c (c.pos+(k:Int))):=by
     rw[hw];unfold CF;rcases hk with rfl|rfl
     ·rw[OB (show iG s c.pos 2=true from hsa)];rfl
     ·rw[OA (by rw[h2 (by omega)];exact Pk),OB (show iG s c.pos 1=true from hsa)];rfl
    rw[hw];refine⟨aj (by omega) (by omega),⟨by omega,by omega,by omega⟩,⟨ho1,by omega⟩,trivial,?_⟩
    repeat (first|exact trivial|exact⟨hout _ _ _,trivial⟩|refine⟨by first|rfl|trivial,?_⟩)
   ·rw[Pf]at i;have hmiss:iG s c.pos (k:Int)=false:=by rw[hsa,i,Ps]
    have hmiss:=hmiss
    ·refine⟨aj (by omega) (by omega),k-1,⟨by omega,fun _=>?_,fun _=>?_⟩,by omega,by omega,?_⟩
     ·rcases hk with rfl|rfl
      ·exact hmiss
      ·exact h2 (by omega)
     ·have:k=1:=by omega
      subst this;exact hmiss
     ·exact Xr
  ·have hmiss:iG s c.pos (k:Int)=false:=by rw[hsa,Xf (fun e=>g (Xd e)),P2]
   have hmiss:=hmiss
   ·refine⟨aj (by omega) (by omega),k-1,⟨by omega,fun _=>?_,fun _=>?_⟩,by omega,by omega,?_⟩
    ·rcases hk with rfl|rfl
     ·exact hmiss
     ·exact h2 (by omega)
    ·have:k=1:=by omega
     subst this;exact hmiss
    ·exact Xr
 ·have hk:k=0:=by have:¬(0:Int)<(k:Int):=fun e=>f (Xd e);omega
  have hw:bw s c=gZ 60 c.pos c:=by rw[hw];unfold CF;rw[OA (by rw[h2 (by omega)];exact Pk),OA (by rw[h3 hk];exact Pk)]
  rw[hw];refine⟨ho1,trivial,?_⟩;exact Xr
theorem Mu(s:Str)(hs:Wf .str s) :
  let A:=(↑(List.length s):Int);let B:=True;let C:=cy s;let D:=C.1=[];let E:=(0:Int);let F:=s=s;let G:=false=false;let H:=E=E/\E=E/\B;let I:=(4096:Nat);let J:=List.length s<=I;let K:=[{kind:=E,text:=[],pos:=A:Tokn}];let L:=(1:Int);if decide ((4096:Int)<A)=true then B/\D/\(3:Int)=C.2.err/\(4096:Int)=C.2.pos/\B else(∃(x:Nat×SC),((↑(List.length x.2.out):Int)<=x.2.pos/\A<x.2.pos+(↑x.1:Int)/\E<=x.2.pos/\x.2.pos<=A/\cy s=k8 s x.1 x.2)/\F/\G/\F/\E=x.2.pos/\x.2.out=[]/\E=x.2.err/\E=x.2.fat/\List.length x.2.out=(0:Nat)/\H)/\∀(x:Nat×SC),let M:=E<=x.2.pos;let N:=x.2.pos<=A;let O:=List.length x.2.out=List.length x.2.out;let P:=x.2.pos+E;let Q:=x.2.pos+L;let R:=inR IntKind.i64 Q/\∃(y:Nat×SC),((↑(List.length y.2.out):Int)<=y.2.pos/\A<y.2.pos+(↑y.1:Int)/\E<=y.2.pos/\y.2.pos<=A/\cy s=k8 s y.1 y.2)/\y.1<x.1/\F/\G/\F/\x.2.pos+L=y.2.pos/\x.2.out=y.2.out/\x.2.err=y.2.err/\x.2.fat=y.2.fat/\List.length x.2.out=List.length y.2.out/\H;let S:=(↑(aq ew s x.2.pos):Int);let T:=(jj s x.2.pos (x.2.pos+S) {pos:=x.2.pos+S,out:=x.2.out,err:=x.2.err,fat:=x.2.fat:SC});let U:=bw s x.2;let V:=(O/\List.length x.2.out<=I/\J/\M/\N/\x.2.pos<A)/\if(!U.1)=true then B/\D/\U.2.err=C.2.err/\U.2.fat=C.2.pos/\B else ∃(y:Nat×SC),((↑(List.length y.2.out):Int)<=y.2.pos/\A<y.2.pos+(↑y.1:Int)/\E<=y.2.pos/\y.2.pos<=A/\cy s=k8 s y.1 y.2)/\y.1<x.1/\F/\G/\F/\U.2.pos=y.2.pos/\U.2.out=y.2.out/\U.2.err=y.2.err/\U.2.fat=y.2.fat/\List.length U.2.out=List.length y.2.out/\H;(↑(List.length x.2.out):Int)<=x.2.pos/\A<x.2.pos+(↑x.1:Int)/\M/\N/\cy s=k8 s x.1 x.2->(J/\M/\N/\E<=E/\E<=(2:Int))/\if decide (x.2.pos=A)=true then(O/\(List.length x.2.out+List.length K)*(32:Nat)<=(140737488355328:Nat))/\B/\x.2.out++K=C.1/\E=C.2.err/\E=C.2.pos/\B else if decide (bAt s P=(32:Int))=true then R else if decide (bAt s P=(10:Int))=true then R else if decide (bAt s P=(9:Int))=true then R else if decide (bAt s P=(13:Int))=true then R else if decide (bAt s P=(45:Int))=true then(J/\M/\N/\E<=L/\L<=(2:Int))/\if decide (bAt s Q=(45:Int))=true then(J/\M/\N)/\(O/\J/\M/\x.2.pos<=x.2.pos+S/\x.2.pos+S<=A)/\if(!T.1)=true then B/\D/\T.2.err=C.2.err/\T.2.fat=C.2.pos/\B else ∃(y:Nat×SC),((↑(List.length y.2.out):Int)<=y.2.pos/\A<y.2.pos+(↑y.1:Int)/\E<=y.2.pos/\y.2.pos<=A/\cy s=k8 s y.1 y.2)/\y.1<x.1/\F/\G/\F/\T.2.pos=y.2.pos/\T.2.out=y.2.out/\T.2.err=y.2.err/\T.2.fat=y.2.fat/\List.length T.2.out=List.length y.2.out/\H else V else V:=by
 conv=>zeta
 apply a6<;>intro h
 ·have h:=Xo h;have e:cy s=([],⟨3,4096⟩):=by unfold cy;rw[OB (by omega)]
  rw[e];exact Xr
 have h:¬(4096:Int)<(s.length:Int):=fun e=>h (Xd e);have hs0:cy s=k8 s (s.length+2) ⟨0,[],0,0⟩:=by unfold cy;rw[OA (by omega)]
 refine⟨⟨(s.length+2,⟨0,[],0,0⟩),⟨by show((0:Nat):Int)<=0;omega,by show _<0+((s.length+2:Nat):Int);omega,by show(0:Int)<=0;omega,by show(0:Int)<=_;omega,hs0⟩,?_⟩,?_⟩
 ·exact Xr
 rintro⟨f,d⟩ ⟨d1,d2,d3,d4,d5⟩;simp only at d1 d2 d3 d4 d5;obtain⟨f,rfl⟩:∃g,f=g+1:=⟨f-1,by omega⟩;rw[k8]at d5;have e0:d.pos+0=d.pos:=Int.add_zero _;simp only[e0];refine⟨⟨by omega,by omega,by omega,by omega,by omega⟩,a6 (fun k=>?_) (fun k=>?_)⟩
 ·replace k:=Xo k;rw[OB k]at d5;rw[d5];refine⟨⟨by trivial,by simp only[OD];omega⟩,trivial,?_⟩;exact Xr
 replace k:¬d.pos=(s.length:Int):=fun e=>k (Xd e);have hlt:d.pos<(s.length:Int):=by omega
 rw[OA k]at d5;clear k;apply a6<;>intro k
 ·replace k:=Xo k;rw[OB ((eU _).2 (by omega))]at d5;refine⟨aj (by omega) (by omega),(f,dJ d (d.pos+1)),⟨by show(d.out.length:Int)<=d.pos+1;omega,by show _<d.pos+1+(f:Int);omega,by show 0<=d.pos+1;omega,by show d.pos+1<=_;omega,d5⟩,by show f<f+1;omega,?_⟩;exact Xr
 replace k:¬bAt s d.pos=32:=fun e=>k (Xd e);have k32:=k;clear k;apply a6<;>intro k
 ·replace k:=Xo k;rw[OB ((eU _).2 (by omega))]at d5;refine⟨aj (by omega) (by omega),(f,dJ d (d.pos+1)),⟨by show(d.out.length:Int)<=d.pos+1;omega,by show _<d.pos+1+(f:Int);omega,by show 0<=d.pos+1;omega,by show d.pos+1<=_;omega,d5⟩,by show f<f+1;omega,?_⟩;exact Xr
 replace k:¬bAt s d.pos=10:=fun e=>k (Xd e);have k10:=k;clear k;apply a6<;>intro k
 ·replace k:=Xo k;rw[OB ((eU _).2 (by omega))]at d5;refine⟨aj (by omega) (by omega),(f,dJ d (d.pos+1)),⟨by show(d.out.length:Int)<=d.pos+1;omega,by show _<d.pos+1+(f:Int);omega,by show 0<=d.pos+1;omega,by show d.pos+1<=_;omega,d5⟩,by show f<f+1;omega,?_⟩;exact Xr
 replace k:¬bAt s d.pos=9:=fun e=>k (Xd e);have k9:=k;clear k;apply a6<;>intro k
 ·replace k:=Xo k;rw[OB ((eU _).2 (by omega))]at d5;refine⟨aj (by omega) (by omega),(f,dJ d (d.pos+1)),⟨by show(d.out.length:Int)<=d.pos+1;omega,by show _<d.pos+1+(f:Int);omega,by show 0<=d.pos+1;omega,by show d.pos+1<=_;omega,d5⟩,by show f<f+1;omega,?_⟩;exact Xr
 replace k:¬bAt s d.pos=13:=fun e=>k (Xd e);have k13:=k;clear k;have hbl:¬bm (bAt s d.pos)=true:=fun e=>by have:=(eU _).1 e;omega
 rw[OA hbl]at d5;apply a6<;>intro k
 ·replace k:=Xo k;refine⟨⟨by omega,by omega,by omega,by omega,by omega⟩,a6 (fun j=>?_) (fun j=>?_)⟩
  ·replace j:=Xo j;rw[OB ⟨k,j⟩]at d5;have hw:=eE (pr:=ew) d3 d4;have hp:=Fe (s:=s) (a:=d.pos+1) (by omega);have hh:=dp (pr:=ew) d3 hlt (by rw[<-mZ hlt,k];rfl);refine⟨⟨by omega,by omega,by omega⟩,⟨by trivial,by omega,by omega,by omega,by omega⟩,?_⟩;unfold jj
   cases hb:dF (cut s d.pos (d.pos+(aq ew s d.pos:Int)))with|some q=>rw[hb]at d5;simp only at d5;rw[d5];refine a6 (fun _=>?_) (fun e=>absurd rfl e);refine⟨trivial,?_⟩;exact Xr|none=>rw[hb]at d5;simp only at d5;refine a6 (fun e=>Bool.noConfusion e) (fun _=>?_);refine⟨(f,dJ d (d.pos+(aq ew s d.pos:Int))),⟨by show(d.out.length:Int)<=d.pos+_;omega,by show _<d.pos+_+(f:Int);omega,by show 0<=d.pos+_;omega,hw,d5⟩,by show f<f+1;omega,?_⟩;exact Xr
  replace j:¬bAt s (d.pos+1)=45:=fun e=>j (Xd e)
  ·refine⟨⟨by trivial,by omega,by omega,by omega,by omega,by omega⟩,?_⟩;have hne:¬(bAt s d.pos=45/\bAt s (d.pos+1)=45):=by omega
   rw[OA hne]at d5
   cases ht:(bw s d).1 with
   |false=>rw[ht,OA Pk]at d5;refine a6 (fun _=>?_) (fun e=>absurd rfl e);rw[d5];refine⟨trivial,?_⟩;exact Xr
   |true=>rw[ht,OB rfl]at d5;obtain⟨t1,t2,t3⟩:=lV d3 hlt ht;refine a6 (fun e=>Bool.noConfusion e) (fun _=>?_);refine⟨(f,(bw s d).2),⟨by show((bw s d).2.out.length:Int)<=(bw s d).2.pos;omega,by show _<(bw s d).2.pos+(f:Int);omega,by show 0<=(bw s d).2.pos;omega,t2,d5⟩,by show f<f+1;omega,?_⟩;exact Xr
 replace k:¬bAt s d.pos=45:=fun e=>k (Xd e)
 ·refine⟨⟨by trivial,by omega,by omega,by omega,by omega,by omega⟩,?_⟩;have hne:¬(bAt s d.pos=45/\bAt s (d.pos+1)=45):=by omega
  rw[OA hne]at d5
  cases ht:(bw s d).1 with
  |false=>rw[ht,OA Pk]at d5;refine a6 (fun _=>?_) (fun e=>absurd rfl e);rw[d5];refine⟨trivial,?_⟩;exact Xr
  |true=>rw[ht,OB rfl]at d5;obtain⟨t1,t2,t3⟩:=lV d3 hlt ht;refine a6 (fun e=>Bool.noConfusion e) (fun _=>?_);refine⟨(f,(bw s d).2),⟨by show((bw s d).2.out.length:Int)<=(bw s d).2.pos;omega,by show _<(bw s d).2.pos+(f:Int);omega,by show 0<=(bw s d).2.pos;omega,t2,d5⟩,by show f<f+1;omega,?_⟩;exact Xr
theorem Kg(l:List Tokn)(a:Int)(hl:Wf (.lst (.st .token)) l)(hN:aO l) :
  let A:=bE l a;let B:=True;let C:=(0:Int);let D:=bS l a;let E:=C=D.1.kind;let F:=[]=D.1.pkg;let G:=[]=D.1.name;let H:=C=D.1.n;let I:=D.1.names=[];let J:=D.1.vars=[];let K:=D.1.shapes=[];let L:=D.1.parts=[];let M:=C=D.1.pos;let N:=C=D.2.1;let O:=(a7 (5000:Nat) A);let P:=dh (bF O.1) (aH A).pos O.2;let Q:=C=D.2.2.err/\C=D.2.2.pos/\B;let R:=if b6 P=true then B/\E/\F/\G/\H/\I/\J/\K/\L/\M/\N/\P.err=D.2.2.err/\P.fat=D.2.2.pos/\B else B/\O.1=D.1/\P.pos=D.2.1/\Q;let S:=if b6 O.2=true then B/\E/\F/\G/\H/\I/\J/\K/\L/\M/\N/\O.2.err=D.2.2.err/\O.2.fat=D.2.2.pos/\B else B/\O.1=D.1/\O.2.pos=D.2.1/\Q;if b6 A=true then B/\E/\F/\G/\H/\I/\J/\K/\L/\M/\N/\A.err=D.2.2.err/\A.fat=D.2.2.pos/\B else a8 A/\(a8 A/\rem A<(5000:Nat))/\if(!b6 O.2)=true then dx O.1=true/\if decide (bF O.1=(3:Int))=true then R else if decide (bF O.1=(91:Int))=true then R else S else S:=by
 conv=>zeta
 apply a6<;>intro h
 ·have hG:bS l a=(pD,0,⟨(bE l a).err,(bE l a).fat⟩):=by unfold bS;rw[OB h]
  rw[hG];exact Xr
 have b':b6 (bE l a)=false:=by simpa using h
 have g:=lU hN b';have hG:bS l a=Fg l a (a7 5000 (bE l a)):=by unfold bS;rw[OA h]
 have hf:=(tH g.2.2.1 5000 (bE l a) rfl).1;refine⟨g,⟨g,by have:=te g;omega⟩,?_⟩;unfold Fg at hG;generalize a7 5000 (bE l a)=p at hG hf⊢;apply a6<;>intro k
 ·have k:b6 p.2=false:=by simpa using k
  rw[OA (by rw[k];exact Pk)]at hG
  have fin:∀q:Par,bS l a=rG pD (p.1,q)->if b6 q=true then True/\(0:Int)=(bS l a).1.kind/\[]=(bS l a).1.pkg/\[]=(bS l a).1.name/\(0:Int)=(bS l a).1.n/\(bS l a).1.names=[]/\(bS l a).1.vars=[]/\(bS l a).1.shapes=[]/\(bS l a).1.parts=[]/\(0:Int)=(bS l a).1.pos/\(0:Int)=(bS l a).2.1/\q.err=(bS l a).2.2.err/\q.fat=(bS l a).2.2.pos/\True
    else True/\p.1=(bS l a).1/\q.pos=(bS l a).2.1/\(0:Int)=(bS l a).2.2.err/\(0:Int)=(bS l a).2.2.pos/\True:=by
   intro q hq;unfold rG at hq;apply a6<;>intro j
   ·rw[OB j]at hq;rw[hq];exact Xr
   ·rw[OA j]at hq;rw[hq];exact Xr
  refine⟨hf,a6 (fun j=>?_) (fun j=>a6 (fun i=>?_) (fun i=>?_))⟩
  ·rw[OB (.inl (Xo j))]at hG;exact fin _ hG
  ·rw[OB (.inr (Xo i))]at hG;exact fin _ hG
  ·rw[OA (fun e=>e.elim (fun e=>j (Xd e)) (fun e=>i (Xd e)))]at hG;exact fin _ hG
 ·have k:b6 p.2=true:=by simpa using k
  rw[OB k]at hG;unfold rG at hG;rw[OB k]at hG;refine a6 (fun _=>?_) (fun j=>absurd k j);rw[hG];exact Xr
theorem Am(s:Str)  :
  let A:=cy s;let B:=(0:Int);let C:=True;let D:=qv s;let E:=B=D.1.kind;let F:=[]=D.1.pkg;let G:=[]=D.1.name;let H:=D.1.names=[];let I:=D.1.parts=[];let J:=jo A.1 B;let K:=fm A.1 J.2.1=D.2/\C;let L:=J.2.2=D.2/\C;if(!decide (A.2.err=B))=true then C/\E/\F/\G/\H/\I/\A.2=D.2/\C else aO A.1/\if decide (J.2.2.err=B)=true then(B<=J.2.1/\J.2.1<(↑(List.length A.1):Int))/\if(!decide ((fm A.1 J.2.1).err=B))=true then C/\E/\F/\G/\H/\I/\K else C/\J.1=D.1/\K else if(!decide (J.2.2.err=B))=true then C/\E/\F/\G/\H/\I/\L else C/\J.1=D.1/\L:=by
 conv=>zeta
 have e0:qv s=w4 Fc (fun l=>jo l 0) s:=rfl;unfold w4 at e0;simp only at e0;apply a6<;>intro h
 ·have h:¬(cy s).2.err=0:=by simpa using h
  rw[OA h]at e0;rw[e0];exact Xr
 have h:(cy s).2.err=0:=by simpa using h
 rw[OB h]at e0;have hN:=tJ h;obtain⟨l1,l2⟩:=tK h;refine⟨hN,a6 (fun k=>?_) (fun k=>?_)⟩
 ·replace k:=Xo k;rw[OB k]at e0;refine⟨Gr hN l1 l2 k,a6 (fun j=>?_) (fun j=>?_)⟩
  ·have j:¬(fm (cy s).1 (jo (cy s).1 0).2.1).err=0:=by simpa using j
   rw[OA j]at e0;rw[e0];exact Xr
  ·have j:(fm (cy s).1 (jo (cy s).1 0).2.1).err=0:=by simpa using j
   rw[OB j]at e0;rw[e0];exact Xr
 ·have k:¬(jo (cy s).1 0).2.2.err=0:=fun e=>k (Xd e);rw[OA k]at e0;refine a6 (fun _=>?_) (fun j=>absurd (by simp[k]) j);rw[e0];exact Xr
theorem Ao(s:Str)  :
  let A:=cy s;let B:=(0:Int);let C:=True;let D:=qw s;let E:=B=D.1.kind;let F:=[]=D.1.pkg;let G:=[]=D.1.name;let H:=B=D.1.n;let I:=D.1.names=[];let J:=D.1.vars=[];let K:=D.1.shapes=[];let L:=D.1.parts=[];let M:=B=D.1.pos;let N:=bS A.1 B;let O:=fm A.1 N.2.1=D.2/\C;let P:=N.2.2=D.2/\C;if(!decide (A.2.err=B))=true then C/\E/\F/\G/\H/\I/\J/\K/\L/\M/\A.2=D.2/\C else aO A.1/\if decide (N.2.2.err=B)=true then(B<=N.2.1/\N.2.1<(↑(List.length A.1):Int))/\if(!decide ((fm A.1 N.2.1).err=B))=true then C/\E/\F/\G/\H/\I/\J/\K/\L/\M/\O else C/\N.1=D.1/\O else if(!decide (N.2.2.err=B))=true then C/\E/\F/\G/\H/\I/\J/\K/\L/\M/\P else C/\N.1=D.1/\P:=by
 conv=>zeta
 have e0:qw s=w4 pD (fun l=>bS l 0) s:=rfl;unfold w4 at e0;simp only at e0;apply a6<;>intro h
 ·have h:¬(cy s).2.err=0:=by simpa using h
  rw[OA h]at e0;rw[e0];exact Xr
 have h:(cy s).2.err=0:=by simpa using h
 rw[OB h]at e0;have hN:=tJ h;obtain⟨l1,l2⟩:=tK h;refine⟨hN,a6 (fun k=>?_) (fun k=>?_)⟩
 ·replace k:=Xo k;rw[OB k]at e0;refine⟨CR hN l1 l2 k,a6 (fun j=>?_) (fun j=>?_)⟩
  ·have j:¬(fm (cy s).1 (bS (cy s).1 0).2.1).err=0:=by simpa using j
   rw[OA j]at e0;rw[e0];exact Xr
  ·have j:(fm (cy s).1 (bS (cy s).1 0).2.1).err=0:=by simpa using j
   rw[OB j]at e0;rw[e0];exact Xr
 ·have k:¬(bS (cy s).1 0).2.2.err=0:=fun e=>k (Xd e);rw[OA k]at e0;refine a6 (fun _=>?_) (fun j=>absurd (by simp[k]) j);rw[e0];exact Xr
end Go.AL.Seat
end
section
open Go Go.AL Go.Proofs Go.Shelf Go.Pd
namespace Go.AL.Seat
open Go.Proofs.Tryz
variable [Tabs]
def nn:Nat->Bool:=fun _=>false
def cf(k:Nat->Bool)(l:Nat->List (Option Nat))(p r m:Nat->Bool)(s:Nat->List AV->List (Nat×SObj)->Option Ans):Cfg:=⟨tbl,s,k,l,p,r,m⟩
def a0:An:=⟨[],[],[]⟩
theorem g1(k:Nat->Bool)(l:Nat->List (Option Nat))(p r m:Nat->Bool){s:Nat->List AV->List (Nat×SObj)->Option Ans}(hS:eP prog s)(a:An){f:Nat}{fn:Func}(hf:Tryz.prog.funcs[f]?=some fn)
 {args:List AV}{S:List (Nat×SObj)}{A:Ans}{Q:Prop}(q:Q)(h:fwp (cf k l p r m s) a fn args S A=Q:=by kernel_rfl):aB prog f args S A:=J5 (C:=cf k l p r m s) mixed JF hS hf q h
theorem g0{s:Nat->List AV->List (Nat×SObj)->Option Ans}(hS:eP prog s)(a:An){f:Nat}{fn:Func}(hf:Tryz.prog.funcs[f]?=some fn)
 {args:List AV}{S:List (Nat×SObj)}{A:Ans}{Q:Prop}(q:Q)(h:fwp (cf nn (fun _=>[]) nn nn nn s) a fn args S A=Q:=by kernel_rfl):aB prog f args S A:=J5 (C:=cf nn (fun _=>[]) nn nn nn s) mixed JF hS hf q h
theorem sc{f:Nat}{g:Pat}{l:List (Nat×Pat)}(h:ab prog f g)(hl:eP prog (oi l)):eP prog (oi ((f,g)::l)):=sZ h hl
theorem sn:eP prog (oi []):=vJ
theorem ee{f:Nat}{fn:Func}(h:Tryz.prog.funcs[f]?=some fn)(e:(fn.body.isNone || (fn.name == "runtime.NumGoroutine"))=false:=by kernel_rfl):aA prog f:=aA.mk' h e
variable [SeatLaid]
theorem lu:ab prog 126 (p1 (.int .u8) fun c=>.ret (.bool (bV c))):=
 b7 (ee func126) fun c _ _=>g0 sn a0 func126 (JL c)
theorem lx:ab prog 127 (p1 (.int .u8) fun c=>.ret (.bool (cb c))):=
 b7 (ee func127) fun c _ _=>g0 sn a0 func127 (JM c)
theorem qx:ab prog 132 (p1 (.int .u8) fun c=>.ret (.bool (aY c))):=
 b7 (ee func132) fun c _ _=>g0 sn a0 func132 (JN c)
theorem tL:ab prog 128 (p1 (.int .u8) fun c=>.ret (.bool (cd c))):=
 b7 (ee func128) fun c _ _=>g0 (sc lu (sc lx (sc qx sn))) a0 func128 (Ma c)
theorem D2:ab prog 181 (pf .str 126 fun s=>.ret (.bool (eh bV s))):=
 rj (ee func181) fun s hs _=>g0 (sc lu (sc lx (sc tL sn))) ⟨[(4,fun S0=>⟨Nat,fun k=>k<=s.length/\eh bV s=(s.drop k).all fun c=>cd (bI c),fun k=>[(22,.int .i64 k)],fun _=>[],fun k=>s.length-k⟩)],[],[]⟩ func181 (Gs s hs)
theorem D3:ab prog 181 (pf .str 127 fun s=>.ret (.bool (eh cb s))):=
 rj (ee func181) fun s hs _=>g0 (sc lu (sc lx (sc tL sn))) ⟨[(4,fun S0=>⟨Nat,fun k=>k<=s.length/\eh cb s=(s.drop k).all fun c=>cd (bI c),fun k=>[(22,.int .i64 k)],fun _=>[],fun k=>s.length-k⟩)],[],[]⟩ func181 (Gt s hs)
theorem Ap:ab prog 129 (p1 .str fun s=>.ret (.bool (l9 s))):=
 b7 (ee func129) fun s _ _=>g0 sn a0 func129 (Mb s)
theorem nj:ab prog 130 (p1 .str fun s=>.ret (.bool (aX s))):=
 b7 (ee func130) fun s _ _=>g0 (sc D2 (sc Ap sn)) a0 func130 (Mc s)
theorem qy:ab prog 131 (p1 .str fun s=>.ret (.bool (dH s))):=
 b7 (ee func131) fun s _ _=>g0 (sc D3 sn) a0 func131 (JO s)
theorem D4:ab prog 163 (p2 (.lst .str) .str fun a v=>.ret (.int .i64 (gW a v 0))):=
 dB (ee func163) fun a v ha _ _=>g0 sn ⟨[(2,fun S0=>⟨Nat,fun k=>k<=a.length/\gW a v 0=gW (a.drop k) v k,fun k=>[(8,.int .i64 k)],fun _=>[],fun k=>a.length-k⟩)],[],[]⟩ func163 (Gu a v ha)
theorem v8:ab prog 116 (p2 (.lst .str) .str fun a v=>.ret (.bool (decide (v∈a)))):=
 dB (ee func116) fun a v _ _ _=>g0 (sc D4 sn) a0 func116 (xK a v)
theorem GX:ab prog 154 (p1 .str fun s=>.ret (.bool (mV s))):=
 b7 (ee func154) fun s _ _=>g0 sn a0 func154 (JP s)
theorem tM:ab prog 201 (p1 (.lst .str) fun a=>⟨none,none,.fn 230 [.ptr 1 0],[(1,.box (.lst .str a none))]⟩):=
 b7 (ee func201) fun a _ _=>g0 sn a0 func201 (Gv a)
theorem GY:ab prog 153 (p1 (.st .shape) fun s=>⟨some (s.parts.length *16<=140737488355328),none,.bool (fh s),[]⟩):=
 b7 (ee func153) fun s hs ho=>g0 (sc nj (sc tM (sc (tA) (sc (ru) sn)))) ⟨[(4,fun S0=>⟨Nat,fun k=>k<=s.names.length/\s.names.length=s.parts.length/\fh s=(((s.names.drop k).all aX)&&decide s.names.Nodup),fun k=>[(16,.int .i64 k)],fun _=>[],fun k=>s.names.length-k⟩)],[],[]⟩ func153 (JQ s hs (ho _ rfl))
theorem Kh:ab prog 92 (p1 (.st .shape) fun s=>⟨some (s.parts.length *16<=140737488355328),none,.bool (bK s),[]⟩):=
 b7 (ee func92) fun s hs ho=>g0 (sc GY (sc qy (sc nj (sc GX sn)))) a0 func92 (Md s hs (ho _ rfl))
theorem tN:aA prog 91:=ee func91
theorem vd(n:Nat)(s:AL.Shape)(hs:Wf (.st .shape) s)(hn:sz s<=n+1)(hb:n<=1000000)(hA:ab prog 91 (pf (.st .shape) 92 fun s=>⟨some (sz s<=n),none,.bool (allS bK s),[]⟩)):aB prog 91 [.st .shape s,.fn 92 []] [] (.ret (.bool (allS bK s))):=
 g0 (sc Kh (sc (hA) sn)) ⟨[(4,fun S0=>⟨Nat,fun k=>k<=s.parts.length/\allS bK s=allL bK (s.parts.drop k),fun k=>[(14,.int .i64 k)],fun _=>[],fun k=>s.parts.length-k⟩)],[],[]⟩ func91 (CS n s hs hn hb)
theorem Aq:∀n:Nat,n<=1000000->ab prog 91 (pf (.st .shape) 92 fun s=>⟨some (sz s<=n),none,.bool (allS bK s),[]⟩):=by
 intro n
 induction n with
 |zero=>exact fun _=>rj tN fun a hs ho=>absurd (ho _ rfl) (by have:=jV a;omega)
 |succ n ih=>exact fun hb=>rj tN fun a hs ho=>vd n a hs (ho _ rfl) (by omega) (ih (by omega))
theorem Ki:ab prog 152 (xz 146):=
 Cz (ee func152) fun c hc=>g0 sn a0 func152 (Me c hc)
theorem Fi:aA prog 151:=ee func151
theorem D5(n:Nat)(s:AL.Shape)(l c:Int)(hs:Wf (.st .shape) s)(hn:sz s<=n+1)(hc:0<=c/\c<=400/\1<=l/\l<=c+1)(hA:ab prog 151 (rY 146 152 n)):aB prog 151 [.st .shape s,.int .i64 l,.fn 152 [.ptr 900 0]] [(900,.box (.int .i64 c))] (Jb 146 s l c (sz s<=n+1)):=
 g0 (sc Ki (sc (hA) sn)) ⟨[(4,fun S0=>⟨Nat×Int,fun x=>x.1<=s.parts.length/\c+1+(szL (s.parts.take x.1):Int)<=400/\deepL (s.parts.drop x.1) (l+1) x.2=deepS s l,fun x=>[(7,.int .i64 x.2),(16,.int .i64 x.1)],fun x=>[(900,.box (.int .i64 (c+1+(szL (s.parts.take x.1):Int))))],fun x=>s.parts.length-x.1⟩)],[],[]⟩ func151 (Mf n s l c hs hn hc)
theorem Kj:∀n:Nat,ab prog 151 (rY 146 152 n):=by
 intro n
 induction n with
 |zero=>exact tc Fi fun s l c hs hn hc=>absurd hn (by have:=jV s;omega)
 |succ n ih=>exact tc Fi fun s l c hs hn hc=>D5 n s l c hs hn hc ih
theorem Ar(s:AL.Shape)(hs:Wf (.st .shape) s) :aB prog 90 [.st .shape s] [] (.ret (.tup [.int .i64 (if sz s<=400 then(sz s:Int)else 401),.int .i64 (if sz s<=400 then deepS s 1 else 0),.bool (decide (sz s<=400))])):=
 fwpR_sound (C:=⟨tbl,_,fun _=>false,fun _=>[],fun _=>false,fun _=>false,fun _=>false⟩) (ann:=⟨[],[],[]⟩) (annC:=⟨[],[],[]⟩) mixed JF (sZ (Kj (sz s)) (vJ)) func90 func150 (enters_of func150 (by kernel_rfl) rfl) (@Eq.mpr _ _ (by kernel_rfl) (JR s hs))
theorem GZ:ab prog 90 (p1 (.st .shape) fun s=>.ret (.tup [.int .i64 (if sz s<=400 then(sz s:Int)else 401),.int .i64 (if sz s<=400 then deepS s 1 else 0),.bool (decide (sz s<=400))])):=
 b7 (ee func90) fun s hs _=>Ar s hs
theorem w6:ab prog 46 (p1 (.st .shape) fun s=>.ret (.int .i64 (bD s))):=
 b7 (ee func46) fun s _ _=>g0 (sc (GZ) (sc (Aq 400 (by decide)) sn)) a0 func46 (JS s)
theorem eK:ab prog 29 (pP0 fun s=>⟨none,none,.bool (b6 s),[(900,.box (.st .par (s)))]⟩):=
 jY (ee func29) (fun _=>rfl) (fun _=>by simp[aC]) fun s ho=>g0 sn a0 func29 (NG s)
theorem hX:ab prog 33 (pP0 fun s=>⟨some (a8 s),none,.st .token (aH s),[(900,.box (.st .par (s)))]⟩):=
 jY (ee func33) (fun _=>rfl) (fun _=>by simp[aC]) fun s ho=>g0 sn a0 func33 (Mg s (ho _ rfl))
theorem ja:ab prog 36 (pP2 (.int .i64) (.int .i64) fun s e a=>⟨none,none,.tup [],[(900,.box (.st .par (dh e a s)))]⟩):=
 Nt (ee func36) (fun _ _ _=>rfl) (fun _ _ _=>by simp[aC]) fun s e a hwe hwa ho=>g0 (sc eK sn) a0 func36 (Mh s e a)
theorem NL:ab prog 115 (pP1 .str fun s t=>⟨some (a8 s),none,.bool (isF t s),[(900,.box (.st .par (s)))]⟩):=
 tg (ee func115) (fun _ _=>rfl) (fun _ _=>by simp[aC]) fun s t hwt ho=>g0 (sc hX (sc eK sn)) a0 func115 (O9 s t (ho _ rfl))
theorem gu:ab prog 59 (pP1 .str fun s t=>⟨some (a8 s),none,.bool (isF t s),[(900,.box (.st .par (cZ t s)))]⟩):=
 tg (ee func59) (fun _ _=>rfl) (fun _ _=>by simp[aC]) fun s t hwt ho=>g0 (sc NL sn) a0 func59 (NH s t (ho _ rfl))
theorem dK:ab prog 58 (pP1 .str fun s t=>⟨some (a8 s),none,.tup [],[(900,.box (.st .par (au t s)))]⟩):=
 tg (ee func58) (fun _ _=>rfl) (fun _ _=>by simp[aC]) fun s t hwt ho=>g0 (sc gu (sc hX (sc ja sn))) a0 func58 (Mi s t (ho _ rfl))
theorem ly:ab prog 63 (pP1 (.int .i64) fun s k=>⟨some (a8 s/\¬k=0),none,.st .token (bd k s).1,[(900,.box (.st .par ((bd k s).2)))]⟩):=
 tg (ee func63) (fun _ _=>rfl) (fun _ _=>by simp[aC]) fun s k hwk ho=>g0 (sc hX (sc eK (sc ja sn))) a0 func63 (Mj s k (ho _ rfl))
theorem nQ:ab prog 62 (pP1 (.lst .str) fun s ns=>⟨some (a8 s),none,.str (cp ns s).1,[(900,.box (.st .par ((cp ns s).2)))]⟩):=
 tg (ee func62) (fun _ _=>rfl) (fun _ _=>by simp[aC]) fun s ns hwns ho=>g0 (sc ly (sc eK (sc ja (sc v8 sn)))) a0 func62 (JT s ns (ho _ rfl) hwns)
theorem H0:ab prog 107 (p2 .str .str fun p n=>.ret (.st .shape (fW p n))):=
 dB (ee func107) fun p n _ _ _=>g0 sn a0 func107 (JU p n)
theorem Kk:aA prog 106:=ee func106
def Ot(n:Nat):=pP0 fun s=>⟨some (a8 s/\rem s<n),none,.st .shape (an n s).1,[(900,.box (.st .par (an n s).2))]⟩
theorem As(n:Nat)(s:Par) (ho:a8 s/\rem (au [58] s)<n)(hS:ab prog 53 (Ot n)):aB prog 106 [.ptr 900 0] [(900,.box (.st .par s))] (⟨some (a8 s/\rem (au [58] s)<n),none,.st .shape (an n (au [58] s)).1,[(900,.box (.st .par ((an n (au [58] s)).2)))]⟩):=
 g0 (sc dK (sc (hS) sn)) a0 func106 (JV n s ho)
theorem H2(n:Nat)(hS:ab prog 53 (Ot n)):ab prog 106 (pP0 fun s=>⟨some (a8 s/\rem (au [58] s)<n),none,.st .shape (an n (au [58] s)).1,[(900,.box (.st .par ((an n (au [58] s)).2)))]⟩):=
 jY Kk (fun _=>rfl) (fun _=>by simp[aC]) fun s ho=>As n s (ho _ rfl) hS
theorem H3:aA prog 105:=ee func105
def Ox(n:Nat):=pP0 fun s=>⟨some (a8 s/\rem (au [58] s)<n),none,.st .shape (an n (au [58] s)).1,[(900,.box (.st .par (an n (au [58] s)).2))]⟩
theorem xM(n:Nat)(x:Shape)(s:Par)(hi:a8 s)(h0:s.err=0)(hn:rem s<=n)(hl:x.names.length+x.parts.length<=100000)(hT:ab prog 106 (Ox n)):aB prog 105 [.ptr 900 0,.ptr 901 0] (Jf x (.st .par s) x.names.length x.parts.length) (⟨some (a8 s/\s.err=0/\rem s<=n/\x.names.length=x.names.length/\x.parts.length=x.parts.length/\x.names.length+x.parts.length<=100000),none,.tup [],[(900,.box (.ptr 902 0)),(901,.box (.agg [.int .i64 ((aE (an n) x s).1).kind,.str ((aE (an n) x s).1).pkg,.str ((aE (an n) x s).1).name,.lst .str ((aE (an n) x s).1).names (some 903),.lst (.st .shape) ((aE (an n) x s).1).parts (some 904)])),(902,.box (.st .par (aE (an n) x s).2)),(903,.tail .str (aE (an n) x s).1.names.length),(904,.tail (.st .shape) (aE (an n) x s).1.parts.length)]⟩):=
 g1 nn (fun _=>[]) (fun d=>Nat.beq d 21) nn nn (sc nQ (sc (hT) sn)) a0 func105 (Gw n x s hi h0 hn hl)
def Oi(n:Nat):=th fun x s m m'=>⟨some (a8 s/\s.err=0/\rem s<=n/\m=x.names.length/\m'=x.parts.length/\m+m'<=100000),none,.tup [],[(900,.box (.ptr 902 0)),(901,.box (.agg [.int .i64 ((aE (an n) x s).1).kind,.str ((aE (an n) x s).1).pkg,.str ((aE (an n) x s).1).name,.lst .str ((aE (an n) x s).1).names (some 903),.lst (.st .shape) ((aE (an n) x s).1).parts (some 904)])),(902,.box (.st .par (aE (an n) x s).2)),(903,.tail .str (aE (an n) x s).1.names.length),(904,.tail (.st .shape) (aE (an n) x s).1.parts.length)]⟩
theorem D6(n:Nat)(hT:ab prog 106 (Ox n)):ab prog 105 (Oi n):=
 Ga H3 (fun _ _ _ _=>rfl) (fun _ _ _ _=>by simp[aC]) fun x s m m' ho=>by obtain⟨q1,q2,q3,q4,q5,q6⟩:=ho _ rfl;subst q4 q5;exact xM n x s q1 q2 q3 q6 hT
theorem Kl:aA prog 108:=ee func108
theorem Au(n:Nat)(x:Shape)(s:Par)(hi:a8 s)(hn:rem s<n)(hl:x.parts.length<=100000)(hS:ab prog 53 (Ot n)):aB prog 108 [.ptr 900 0,.ptr 901 0] (N9 x (.st .par s) x.parts.length) (⟨some (a8 s/\rem s<n/\x.parts.length=x.parts.length/\x.parts.length<=100000),none,.tup [],[(900,.box (.agg [.int .i64 ((aI (an n) x s).1).kind,.str ((aI (an n) x s).1).pkg,.str ((aI (an n) x s).1).name,.nils,.lst (.st .shape) ((aI (an n) x s).1).parts (some 902)])),(901,.box (.ptr 903 0)),(902,.tail (.st .shape) (aI (an n) x s).1.parts.length),(903,.box (.st .par (aI (an n) x s).2))]⟩):=
 g1 nn (fun _=>[]) (fun d=>Nat.beq d 8) nn nn (sc (hS) sn) a0 func108 (JW n x s hi hn hl)
def Oj(n:Nat):=zF fun x s m=>⟨some (a8 s/\rem s<n/\m=x.parts.length/\m<=100000),none,.tup [],[(900,.box (.agg [.int .i64 ((aI (an n) x s).1).kind,.str ((aI (an n) x s).1).pkg,.str ((aI (an n) x s).1).name,.nils,.lst (.st .shape) ((aI (an n) x s).1).parts (some 902)])),(901,.box (.ptr 903 0)),(902,.tail (.st .shape) (aI (an n) x s).1.parts.length),(903,.box (.st .par (aI (an n) x s).2))]⟩
theorem H4(n:Nat)(hS:ab prog 53 (Ot n)):ab prog 108 (Oj n):=
 Jg Kl (fun _ _ _=>rfl) (fun _ _ _=>by simp[aC]) fun x s m hx ho=>by obtain⟨q1,q2,q3,q4⟩:=ho _ rfl;subst q3;exact Au n x s q1 q2 q4 hS
theorem Km:aA prog 60:=ee func60
theorem Av(n:Nat)(b e:Str)(k:Int)(s:Par)(hi:a8 s)(hn:rem s<=n)(hC:ab prog 105 (Oi n)):aB prog 60 [.ptr 900 0,.str b,.str e,.fn 105 [.ptr 901 0,.ptr 902 0]] (Jh k (.st .par s)) (⟨some (a8 s/\rem s<=n),none,.tup [],[(900,.box (.st .par (ai b e (aE (an n)) (⟨k,[],[],[],[]⟩) s).2)),(901,.box (.ptr 900 0)),(902,.box (.agg [.int .i64 ((ai b e (aE (an n)) (⟨k,[],[],[],[]⟩) s).1).kind,.str ((ai b e (aE (an n)) (⟨k,[],[],[],[]⟩) s).1).pkg,.str ((ai b e (aE (an n)) (⟨k,[],[],[],[]⟩) s).1).name,.lst .str ((ai b e (aE (an n)) (⟨k,[],[],[],[]⟩) s).1).names (some 701),.lst (.st .shape) ((ai b e (aE (an n)) (⟨k,[],[],[],[]⟩) s).1).parts (some 702)])),(701,.tail .str (ai b e (aE (an n)) (⟨k,[],[],[],[]⟩) s).1.names.length),(702,.tail (.st .shape) (ai b e (aE (an n)) (⟨k,[],[],[],[]⟩) s).1.parts.length)]⟩):=
 g0 (sc gu (sc eK (sc dK (sc (hC) sn)))) ⟨[(1,fun S0=>⟨Nat×Shape×Par,fun y=>a8 y.2.2/\rem y.2.2<y.1/\rem y.2.2<=n/\y.2.1.names.length+y.1<=5000/\y.2.1.parts.length+y.1<=5000/\bB b e (aE (an n)) y.1 y.2.1 y.2.2=(ai b e (aE (an n)) (⟨k,[],[],[],[]⟩) s),fun _=>[],fun y=>[(900,.box (.st .par y.2.2)),(902,.box (.agg [.int .i64 (y.2.1).kind,.str (y.2.1).pkg,.str (y.2.1).name,.lst .str (y.2.1).names (some 701),.lst (.st .shape) (y.2.1).parts (some 702)])),(701,.tail .str y.2.1.names.length),(702,.tail (.st .shape) y.2.1.parts.length)],fun y=>y.1⟩)],[],[]⟩ func60 (JX n b e k s hi hn)
def Ol(n:Nat):=xB 105 fun b e k s=>⟨some (a8 s/\rem s<=n),none,.tup [],[(900,.box (.st .par (ai b e (aE (an n)) (⟨k,[],[],[],[]⟩) s).2)),(901,.box (.ptr 900 0)),(902,.box (.agg [.int .i64 ((ai b e (aE (an n)) (⟨k,[],[],[],[]⟩) s).1).kind,.str ((ai b e (aE (an n)) (⟨k,[],[],[],[]⟩) s).1).pkg,.str ((ai b e (aE (an n)) (⟨k,[],[],[],[]⟩) s).1).name,.lst .str ((ai b e (aE (an n)) (⟨k,[],[],[],[]⟩) s).1).names (some 701),.lst (.st .shape) ((ai b e (aE (an n)) (⟨k,[],[],[],[]⟩) s).1).parts (some 702)])),(701,.tail .str (ai b e (aE (an n)) (⟨k,[],[],[],[]⟩) s).1.names.length),(702,.tail (.st .shape) (ai b e (aE (an n)) (⟨k,[],[],[],[]⟩) s).1.parts.length)]⟩
theorem H5(n:Nat)(hC:ab prog 105 (Oi n)):ab prog 60 (Ol n):=
 Gb Km (fun _ _ _ _=>rfl) (fun _ _ _ _=>by simp[aC]) fun b e k s ho=>Av n b e k s (ho _ rfl).1 (ho _ rfl).2 hC
theorem Kn:aA prog 60:=ee func60
theorem Aw(n:Nat)(b e:Str)(k:Int)(s:Par)(hi:a8 s)(hn:rem s<n)(hC:ab prog 108 (Oj n)):aB prog 60 [.ptr 900 0,.str b,.str e,.fn 108 [.ptr 901 0,.ptr 902 0]] (Ji k (.st .par s)) (⟨some (a8 s/\rem s<n),none,.tup [],[(900,.box (.st .par (ai b e (aI (an n)) (⟨k,[],[],[],[]⟩) s).2)),(901,.box (.agg [.int .i64 ((ai b e (aI (an n)) (⟨k,[],[],[],[]⟩) s).1).kind,.str ((ai b e (aI (an n)) (⟨k,[],[],[],[]⟩) s).1).pkg,.str ((ai b e (aI (an n)) (⟨k,[],[],[],[]⟩) s).1).name,.nils,.lst (.st .shape) ((ai b e (aI (an n)) (⟨k,[],[],[],[]⟩) s).1).parts (some 702)])),(902,.box (.ptr 900 0)),(702,.tail (.st .shape) (ai b e (aI (an n)) (⟨k,[],[],[],[]⟩) s).1.parts.length)]⟩):=
 g0 (sc gu (sc eK (sc dK (sc (hC) sn)))) ⟨[(1,fun S0=>⟨Nat×Shape×Par,fun y=>a8 y.2.2/\rem y.2.2<y.1/\rem y.2.2<n/\y.2.1.parts.length+y.1<=5000/\y.2.1.names=[]/\bB b e (aI (an n)) y.1 y.2.1 y.2.2=(ai b e (aI (an n)) (⟨k,[],[],[],[]⟩) s),fun _=>[],fun y=>[(900,.box (.st .par y.2.2)),(901,.box (.agg [.int .i64 (y.2.1).kind,.str (y.2.1).pkg,.str (y.2.1).name,.nils,.lst (.st .shape) (y.2.1).parts (some 702)])),(702,.tail (.st .shape) y.2.1.parts.length)],fun y=>y.1⟩)],[],[]⟩ func60 (JY n b e k s hi hn)
def Oo(n:Nat):=xC 108 fun b e k s=>⟨some (a8 s/\rem s<n),none,.tup [],[(900,.box (.st .par (ai b e (aI (an n)) (⟨k,[],[],[],[]⟩) s).2)),(901,.box (.agg [.int .i64 ((ai b e (aI (an n)) (⟨k,[],[],[],[]⟩) s).1).kind,.str ((ai b e (aI (an n)) (⟨k,[],[],[],[]⟩) s).1).pkg,.str ((ai b e (aI (an n)) (⟨k,[],[],[],[]⟩) s).1).name,.nils,.lst (.st .shape) ((ai b e (aI (an n)) (⟨k,[],[],[],[]⟩) s).1).parts (some 702)])),(902,.box (.ptr 900 0)),(702,.tail (.st .shape) (ai b e (aI (an n)) (⟨k,[],[],[],[]⟩) s).1.parts.length)]⟩
theorem H6(n:Nat)(hC:ab prog 108 (Oj n)):ab prog 60 (Oo n):=
 Gc Kn (fun _ _ _ _=>rfl) (fun _ _ _ _=>by simp[aC]) fun b e k s ho=>Aw n b e k s (ho _ rfl).1 (ho _ rfl).2 hC
theorem Ax:aA prog 53:=ee func53
theorem Ay(n:Nat)(s:Par)(hi:a8 s)(hn:rem s<n+1)(hS:ab prog 53 (Ot n))(hL:ab prog 60 (Ol n))(hM:ab prog 60 (Oo n)):aB prog 53 [.ptr 900 0] [(900,.box (.st .par s))] (⟨some (a8 s/\rem s<n+1),none,.st .shape (an (n+1) s).1,[(900,.box (.st .par (an (n+1) s).2))]⟩):=
 g1 nn (fun _=>[]) (fun d=>Nat.beq d 129) nn nn (sc hX (sc eK (sc dK (sc ly (sc gu (sc ja (sc H0 (sc (hS) (sc (hL) (sc (hM) sn)))))))))) a0 func53 (JZ n s hi hn)
theorem nR:∀n:Nat,ab prog 53 (Ot n)
 |0=>jY Ax (fun _=>rfl) (fun _=>by simp[aC]) fun s ho=>absurd (ho _ rfl).2 (Ql _)
 |n+1=>jY Ax (fun _=>rfl) (fun _=>by simp[aC]) fun s ho=>
  Ay n s (ho _ rfl).1 (ho _ rfl).2 (nR n) (H5 n (D6 n (H2 n (nR n)))) (H6 n (H4 n (nR n)))
theorem lz:ab prog 30 (pP0 fun s=>⟨some (a8 s),none,.st .shape (ck s).1,[(900,.box (.st .par ((ck s).2)))]⟩):=
 jY (ee func30) (fun _=>rfl) (fun _=>by simp[aC]) fun s ho=>g0 (sc hX (sc (nR big) (sc eK (sc w6 (sc ja sn))))) a0 func30 (K0 s (ho _ rfl))
theorem H7:aA prog 56:=ee func56
def Od(n:Nat):=pP0 fun s=>⟨some (a8 s/\rem s<n),none,.st .term (a7 n s).1,[(900,.box (.st .par (a7 n s).2))]⟩
theorem xN(n:Nat)(x:Trm)(s:Par)(hi:a8 s)(hn:rem s<n)(zn:x.names=[])(zv:x.vars=[])(zs:x.shapes=[])(zp:x.parts=[])(hT:ab prog 34 (Od n)):aB prog 56 [.ptr 900 0,.ptr 901 0] (sT_ x (.st .par s)) (⟨some (a8 s/\rem s<n),none,.tup [],[(900,.box (.agg [.int .i64 x.kind,.str x.pkg,.str x.name,.int .i64 x.n,.nils,.nils,.nils,.lst (.st .term) ((x.parts++[(a7 n s).1])) (some 8),.int .i64 x.pos])),(901,.box (.ptr 902 0)),(902,.box (.st .par (a7 n s).2)),(8,.tail (.st .term) (x.parts++[(a7 n s).1]).length)]⟩):=
 g1 nn (fun _=>[]) (fun d=>Nat.beq d 8) nn nn (sc (hT) sn) a0 func56 (Gx n x s hi hn zn zv zs zp)
def Ov(n:Nat):=pT_ fun x s=>⟨some (a8 s/\rem s<n),none,.tup [],[(900,.box (.agg [.int .i64 x.kind,.str x.pkg,.str x.name,.int .i64 x.n,.nils,.nils,.nils,.lst (.st .term) ((x.parts++[(a7 n s).1])) (some 8),.int .i64 x.pos])),(901,.box (.ptr 902 0)),(902,.box (.st .par (a7 n s).2)),(8,.tail (.st .term) (x.parts++[(a7 n s).1]).length)]⟩
theorem D7(n:Nat)(hT:ab prog 34 (Od n)):ab prog 56 (Ov n):=
 Nu H7 (fun _ _=>rfl) (fun _ _=>by simp[aC]) fun x s zn zv zs zp ho=>by obtain⟨q1,q2⟩:=ho _ rfl;exact xN n x s q1 q2 zn zv zs zp hT
theorem H8:aA prog 56:=ee func56
theorem xO(n:Nat)(x:Trm)(s:Par)(hi:a8 s)(hn:rem s<n)(zn:x.names=[])(zv:x.vars=[])(zs:x.shapes=[])(hl:x.parts.length<=100000)(hT:ab prog 34 (Od n)):aB prog 56 [.ptr 900 0,.ptr 901 0] (Nv x (.st .par s) x.parts.length) (⟨some (a8 s/\rem s<n/\x.parts.length=x.parts.length/\x.parts.length<=100000),none,.tup [],[(900,.box (.agg [.int .i64 x.kind,.str x.pkg,.str x.name,.int .i64 x.n,.nils,.nils,.nils,.lst (.st .term) ((x.parts++[(a7 n s).1])) (some 902),.int .i64 x.pos])),(901,.box (.ptr 903 0)),(902,.tail (.st .term) (x.parts++[(a7 n s).1]).length),(903,.box (.st .par (a7 n s).2))]⟩):=
 g1 nn (fun _=>[]) (fun d=>Nat.beq d 8) nn nn (sc (hT) sn) a0 func56 (Gy n x s hi hn zn zv zs hl)
def Oc(n:Nat):=xD fun x s mp=>⟨some (a8 s/\rem s<n/\mp=x.parts.length/\mp<=100000),none,.tup [],[(900,.box (.agg [.int .i64 x.kind,.str x.pkg,.str x.name,.int .i64 x.n,.nils,.nils,.nils,.lst (.st .term) ((x.parts++[(a7 n s).1])) (some 902),.int .i64 x.pos])),(901,.box (.ptr 903 0)),(902,.tail (.st .term) (x.parts++[(a7 n s).1]).length),(903,.box (.st .par (a7 n s).2))]⟩
theorem tO(n:Nat)(hT:ab prog 34 (Od n)):ab prog 56 (Oc n):=
 F7 H8 (fun _ _ _=>rfl) (fun _ _ _=>by simp[aC]) fun x s mp zn zv zs ho=>by obtain⟨q1,q2,ep,ql⟩:=ho _ rfl;subst ep;exact xO n x s q1 q2 zn zv zs ql hT
theorem D8:aA prog 56:=ee func56
theorem ve(n:Nat)(x:Trm)(s:Par)(hi:a8 s)(hn:rem s<n)(zv:x.vars=[])(zp:x.parts=[])(hl:x.names.length+x.shapes.length<=100000)(hT:ab prog 34 (Od n)):aB prog 56 [.ptr 900 0,.ptr 901 0] (Na x (.st .par s) x.names.length x.shapes.length) (⟨some (a8 s/\rem s<n/\x.names.length=x.names.length/\x.shapes.length=x.shapes.length/\x.names.length+x.shapes.length<=100000),none,.tup [],[(900,.box (.agg [.int .i64 x.kind,.str x.pkg,.str x.name,.int .i64 x.n,.lst .str (x.names) (some 902),.nils,.lst (.st .shape) (x.shapes) (some 903),.lst (.st .term) ((x.parts++[(a7 n s).1])) (some 8),.int .i64 x.pos])),(901,.box (.ptr 904 0)),(902,.tail .str x.names.length),(903,.tail (.st .shape) x.shapes.length),(904,.box (.st .par (a7 n s).2)),(8,.tail (.st .term) (x.parts++[(a7 n s).1]).length)]⟩):=
 g1 nn (fun _=>[]) (fun d=>Nat.beq d 8) nn nn (sc (hT) sn) a0 func56 (CT n x s hi hn zv zp hl)
def Oq(n:Nat):=F8 fun x s mn ms=>⟨some (a8 s/\rem s<n/\mn=x.names.length/\ms=x.shapes.length/\mn+ms<=100000),none,.tup [],[(900,.box (.agg [.int .i64 x.kind,.str x.pkg,.str x.name,.int .i64 x.n,.lst .str (x.names) (some 902),.nils,.lst (.st .shape) (x.shapes) (some 903),.lst (.st .term) ((x.parts++[(a7 n s).1])) (some 8),.int .i64 x.pos])),(901,.box (.ptr 904 0)),(902,.tail .str x.names.length),(903,.tail (.st .shape) x.shapes.length),(904,.box (.st .par (a7 n s).2)),(8,.tail (.st .term) (x.parts++[(a7 n s).1]).length)]⟩
theorem Az(n:Nat)(hT:ab prog 34 (Od n)):ab prog 56 (Oq n):=
 Jj D8 (fun _ _ _ _=>rfl) (fun _ _ _ _=>by simp[aC]) fun x s mn ms zv zp ho=>by obtain⟨q1,q2,en,es,ql⟩:=ho _ rfl;subst en;subst es;exact ve n x s q1 q2 zv zp ql hT
theorem xP:aA prog 56:=ee func56
theorem rL(n:Nat)(x:Trm)(s:Par)(hi:a8 s)(hn:rem s<n)(hl:x.names.length+x.vars.length+x.shapes.length+x.parts.length<=100000)(hT:ab prog 34 (Od n)):aB prog 56 [.ptr 900 0,.ptr 901 0] (F9 x (.st .par s) x.names.length x.vars.length x.shapes.length x.parts.length) (⟨some (a8 s/\rem s<n/\x.names.length=x.names.length/\x.vars.length=x.vars.length/\x.shapes.length=x.shapes.length/\x.parts.length=x.parts.length/\x.names.length+x.vars.length+x.shapes.length+x.parts.length<=100000),none,.tup [],[(900,.box (.agg [.int .i64 x.kind,.str x.pkg,.str x.name,.int .i64 x.n,.lst .str (x.names) (some 902),.lst .str (x.vars) (some 903),.lst (.st .shape) (x.shapes) (some 904),.lst (.st .term) ((x.parts++[(a7 n s).1])) (some 905),.int .i64 x.pos])),(901,.box (.ptr 906 0)),(902,.tail .str x.names.length),(903,.tail .str x.vars.length),(904,.tail (.st .shape) x.shapes.length),(905,.tail (.st .term) (x.parts++[(a7 n s).1]).length),(906,.box (.st .par (a7 n s).2))]⟩):=
 g1 nn (fun _=>[]) (fun d=>Nat.beq d 8) nn nn (sc (hT) sn) a0 func56 (xL n x s hi hn hl)
def Oe(n:Nat):=pC fun x s mn mv ms mp=>⟨some (a8 s/\rem s<n/\mn=x.names.length/\mv=x.vars.length/\ms=x.shapes.length/\mp=x.parts.length/\mn+mv+ms+mp<=100000),none,.tup [],[(900,.box (.agg [.int .i64 x.kind,.str x.pkg,.str x.name,.int .i64 x.n,.lst .str (x.names) (some 902),.lst .str (x.vars) (some 903),.lst (.st .shape) (x.shapes) (some 904),.lst (.st .term) ((x.parts++[(a7 n s).1])) (some 905),.int .i64 x.pos])),(901,.box (.ptr 906 0)),(902,.tail .str x.names.length),(903,.tail .str x.vars.length),(904,.tail (.st .shape) x.shapes.length),(905,.tail (.st .term) (x.parts++[(a7 n s).1]).length),(906,.box (.st .par (a7 n s).2))]⟩
theorem vf(n:Nat)(hT:ab prog 34 (Od n)):ab prog 56 (Oe n):=
 CD xP (fun _ _ _ _ _ _=>rfl) (fun _ _ _ _ _ _=>by simp[aC]) fun x s mn mv ms mp _ ho=>by obtain⟨q1,q2,en,ev,es,ep,ql⟩:=ho _ rfl;subst en;subst ev;subst es;subst ep;exact rL n x s q1 q2 ql hT
theorem H9:aA prog 118:=ee func118
theorem xQ(n:Nat)(x:Trm)(s:Par)(hi:a8 s)(hn:rem s<n)(zn:x.names=[])(zv:x.vars=[])(zs:x.shapes=[])(hl:x.parts.length<=100000)(hT:ab prog 34 (Od n)):aB prog 118 [.ptr 900 0,.ptr 901 0] (Nv x (.st .par s) x.parts.length) (⟨some (a8 s/\rem s<n/\x.parts.length=x.parts.length/\x.parts.length<=100000),none,.tup [],[(900,.box (.agg [.int .i64 x.kind,.str x.pkg,.str x.name,.int .i64 x.n,.nils,.nils,.nils,.lst (.st .term) ((x.parts++[(a7 n s).1])) (some 902),.int .i64 x.pos])),(901,.box (.ptr 903 0)),(902,.tail (.st .term) (x.parts++[(a7 n s).1]).length),(903,.box (.st .par (a7 n s).2))]⟩):=
 g1 nn (fun _=>[]) (fun d=>Nat.beq d 8) nn nn (sc (hT) sn) a0 func118 (Gz n x s hi hn zn zv zs hl)
theorem D9(n:Nat)(hT:ab prog 34 (Od n)):ab prog 118 (Oc n):=
 F7 H9 (fun _ _ _=>rfl) (fun _ _ _=>by simp[aC]) fun x s mp zn zv zs ho=>by obtain⟨q1,q2,ep,ql⟩:=ho _ rfl;subst ep;exact xQ n x s q1 q2 zn zv zs ql hT
theorem tQ:ab prog 57 (Jl fun x a s mn ms=>⟨some (a8 s/\mn=x.names.length/\ms=x.shapes.length/\mn+ms<=100000),none,.tup [],[(900,.box (.ptr 902 0)),(901,.box (.agg [.int .i64 x.kind,.str x.pkg,.str x.name,.int .i64 x.n,.lst .str (x.names) (some 903),.nils,.lst (.st .shape) ((x.shapes++[(ck (au a s)).1])) (some 904),.nils,.int .i64 x.pos])),(902,.box (.st .par (ck (au a s)).2)),(903,.tail .str x.names.length),(904,.tail (.st .shape) (x.shapes++[(ck (au a s)).1]).length)]⟩):=
 Jm (ee func57) (fun _ _ _ _ _=>rfl) (fun _ _ _ _ _=>by simp[aC]) fun x a s mn ms zv zp ho=>by obtain⟨q1,en,es,ql⟩:=ho _ rfl;subst en;subst es;exact g1 nn (fun _=>[]) (fun d=>Nat.beq d 15) nn nn (sc dK (sc lz sn)) a0 func57 (GA x a s q1 zv zp ql)
theorem Ha:ab prog 57 (Nw fun x a s mp=>⟨some (a8 s/\mp=x.parts.length/\mp<=100000),none,.tup [],[(900,.box (.ptr 902 0)),(901,.box (.agg [.int .i64 x.kind,.str x.pkg,.str x.name,.int .i64 x.n,.nils,.nils,.lst (.st .shape) ((x.shapes++[(ck (au a s)).1])) (some 15),.lst (.st .term) (x.parts) (some 903),.int .i64 x.pos])),(902,.box (.st .par (ck (au a s)).2)),(903,.tail (.st .term) x.parts.length),(15,.tail (.st .shape) (x.shapes++[(ck (au a s)).1]).length)]⟩):=
 LZ (ee func57) (fun _ _ _ _=>rfl) (fun _ _ _ _=>by simp[aC]) fun x a s mp zn zv zs ho=>by obtain⟨q1,ep,ql⟩:=ho _ rfl;subst ep;exact g1 nn (fun _=>[]) (fun d=>Nat.beq d 15) nn nn (sc dK (sc lz sn)) a0 func57 (K1 x a s q1 zn zv zs ql)
theorem pI:ab prog 57 (xE fun x a s mn mv ms mp=>⟨some (a8 s/\mn=x.names.length/\mv=x.vars.length/\ms=x.shapes.length/\mp=x.parts.length/\mn+mv+ms+mp<=100000),none,.tup [],[(900,.box (.ptr 902 0)),(901,.box (.agg [.int .i64 x.kind,.str x.pkg,.str x.name,.int .i64 x.n,.lst .str (x.names) (some 903),.lst .str (x.vars) (some 904),.lst (.st .shape) ((x.shapes++[(ck (au a s)).1])) (some 905),.lst (.st .term) (x.parts) (some 906),.int .i64 x.pos])),(902,.box (.st .par (ck (au a s)).2)),(903,.tail .str x.names.length),(904,.tail .str x.vars.length),(905,.tail (.st .shape) (x.shapes++[(ck (au a s)).1]).length),(906,.tail (.st .term) x.parts.length)]⟩):=
 CE (ee func57) (fun _ _ _ _ _ _ _=>rfl) (fun _ _ _ _ _ _ _=>by simp[aC]) fun x a s mn mv ms mp _ ho=>by obtain⟨q1,en,ev,es,ep,ql⟩:=ho _ rfl;subst en;subst ev;subst es;subst ep;exact g1 nn (fun _=>[]) (fun d=>Nat.beq d 15) nn nn (sc dK (sc lz sn)) a0 func57 (Af x a s q1 ql)
theorem Ko:aA prog 165:=ee func165
theorem AA(n:Nat)(x:Trm)(s:Par)(hi:a8 s)(h0:s.err=0)(hn:rem s<=n)(zv:x.vars=[])(zs:x.shapes=[])(hl:x.names.length+x.parts.length<=100000)(hT:ab prog 34 (Od n)):aB prog 165 [.ptr 900 0,.ptr 901 0] (Nb x (.st .par s) x.names.length x.parts.length) (⟨some (a8 s/\s.err=0/\rem s<=n/\x.names.length=x.names.length/\x.parts.length=x.parts.length/\x.names.length+x.parts.length<=100000),none,.tup [],[(900,.box (.agg [.int .i64 ((ao (a7 n) x s).1).kind,.str ((ao (a7 n) x s).1).pkg,.str ((ao (a7 n) x s).1).name,.int .i64 ((ao (a7 n) x s).1).n,.lst .str ((ao (a7 n) x s).1).names (some 902),.nils,.nils,.lst (.st .term) ((ao (a7 n) x s).1).parts (some 903),.int .i64 ((ao (a7 n) x s).1).pos])),(901,.box (.ptr 904 0)),(902,.tail .str (ao (a7 n) x s).1.names.length),(903,.tail (.st .term) (ao (a7 n) x s).1.parts.length),(904,.box (.st .par (ao (a7 n) x s).2))]⟩):=
 g1 nn (fun _=>[]) (fun d=>Nat.beq d 23) nn nn (sc nQ (sc dK (sc (hT) sn))) a0 func165 (K2 n x s hi h0 hn zv zs hl)
def Og(n:Nat):=zJ fun x s mn mp=>⟨some (a8 s/\s.err=0/\rem s<=n/\mn=x.names.length/\mp=x.parts.length/\mn+mp<=100000),none,.tup [],[(900,.box (.agg [.int .i64 ((ao (a7 n) x s).1).kind,.str ((ao (a7 n) x s).1).pkg,.str ((ao (a7 n) x s).1).name,.int .i64 ((ao (a7 n) x s).1).n,.lst .str ((ao (a7 n) x s).1).names (some 902),.nils,.nils,.lst (.st .term) ((ao (a7 n) x s).1).parts (some 903),.int .i64 ((ao (a7 n) x s).1).pos])),(901,.box (.ptr 904 0)),(902,.tail .str (ao (a7 n) x s).1.names.length),(903,.tail (.st .term) (ao (a7 n) x s).1.parts.length),(904,.box (.st .par (ao (a7 n) x s).2))]⟩
theorem Hb(n:Nat)(hT:ab prog 34 (Od n)):ab prog 165 (Og n):=
 Jk Ko (fun _ _ _ _=>rfl) (fun _ _ _ _=>by simp[aC]) fun x s mn mp zv zs ho=>by obtain⟨q1,q2,q3,en,ep,ql⟩:=ho _ rfl;subst en;subst ep;exact AA n x s q1 q2 q3 zv zs ql hT
theorem Mv:ab prog 61 (Nx 57 fun x s mn ms=>⟨some (a8 s/\mn=x.names.length/\ms=x.shapes.length/\mn+ms<=90000),none,.tup [],[(900,.box (.agg [.int .i64 ((aK x s).1).kind,.str ((aK x s).1).pkg,.str ((aK x s).1).name,.int .i64 ((aK x s).1).n,.lst .str ((aK x s).1).names (some 903),.nils,.lst (.st .shape) ((aK x s).1).shapes (some 904),.nils,.int .i64 ((aK x s).1).pos])),(901,.box (.ptr 905 0)),(902,.box (.fn 57 [.ptr 901 0,.ptr 900 0])),(903,.tail .str (aK x s).1.names.length),(904,.tail (.st .shape) (aK x s).1.shapes.length),(905,.box (.st .par (aK x s).2))]⟩):=
 M1 (ee func61) (fun _ _ _ _=>rfl) (fun _ _ _ _=>by simp[aC]) fun x s mn ms zv zp ho=>by obtain⟨q1,en,es,ql⟩:=ho _ rfl;subst en;subst es;exact g0 (sc nQ (sc tQ sn)) a0 func61 (NI x s q1 zv zp ql)
theorem NM:aA prog 64:=ee func64
theorem Hc(n:Nat)(x:Trm)(s:Par)(hi:a8 s)(h0:s.err=0)(hn:rem s<=n)(hl:x.names.length+x.vars.length+x.shapes.length+x.parts.length<=90000)(hP:ab prog 56 (Oe n)):aB prog 64 [.ptr 900 0,.ptr 901 0,.ptr 902 0,.ptr 903 0] (sWay 57 56 x (.st .par s) x.names.length x.vars.length x.shapes.length x.parts.length) (⟨some (a8 s/\s.err=0/\rem s<=n/\x.names.length=x.names.length/\x.vars.length=x.vars.length/\x.shapes.length=x.shapes.length/\x.parts.length=x.parts.length/\x.names.length+x.vars.length+x.shapes.length+x.parts.length<=90000),none,.tup [],[(900,.box (.agg [.int .i64 ((ax (a7 n) x s).1).kind,.str ((ax (a7 n) x s).1).pkg,.str ((ax (a7 n) x s).1).name,.int .i64 ((ax (a7 n) x s).1).n,.lst .str ((ax (a7 n) x s).1).names (some 904),.lst .str ((ax (a7 n) x s).1).vars (some 905),.lst (.st .shape) ((ax (a7 n) x s).1).shapes (some 906),.lst (.st .term) ((ax (a7 n) x s).1).parts (some 907),.int .i64 ((ax (a7 n) x s).1).pos])),(901,.box (.ptr 908 0)),(902,.box (.fn 57 [.ptr 901 0,.ptr 900 0])),(903,.box (.fn 56 [.ptr 900 0,.ptr 901 0])),(904,.tail .str (ax (a7 n) x s).1.names.length),(905,.tail .str (ax (a7 n) x s).1.vars.length),(906,.tail (.st .shape) (ax (a7 n) x s).1.shapes.length),(907,.tail (.st .term) (ax (a7 n) x s).1.parts.length),(908,.box (.st .par (ax (a7 n) x s).2))]⟩):=
 g0 (sc nQ (sc dK (sc ly (sc pI (sc (hP) sn))))) a0 func64 (NJ n x s hi h0 hn hl)
theorem Mw(n:Nat)(hP:ab prog 56 (Oe n)):ab prog 64 (Jn 57 56 fun x s mn mv ms mp=>⟨some (a8 s/\s.err=0/\rem s<=n/\mn=x.names.length/\mv=x.vars.length/\ms=x.shapes.length/\mp=x.parts.length/\mn+mv+ms+mp<=90000),none,.tup [],[(900,.box (.agg [.int .i64 ((ax (a7 n) x s).1).kind,.str ((ax (a7 n) x s).1).pkg,.str ((ax (a7 n) x s).1).name,.int .i64 ((ax (a7 n) x s).1).n,.lst .str ((ax (a7 n) x s).1).names (some 904),.lst .str ((ax (a7 n) x s).1).vars (some 905),.lst (.st .shape) ((ax (a7 n) x s).1).shapes (some 906),.lst (.st .term) ((ax (a7 n) x s).1).parts (some 907),.int .i64 ((ax (a7 n) x s).1).pos])),(901,.box (.ptr 908 0)),(902,.box (.fn 57 [.ptr 901 0,.ptr 900 0])),(903,.box (.fn 56 [.ptr 900 0,.ptr 901 0])),(904,.tail .str (ax (a7 n) x s).1.names.length),(905,.tail .str (ax (a7 n) x s).1.vars.length),(906,.tail (.st .shape) (ax (a7 n) x s).1.shapes.length),(907,.tail (.st .term) (ax (a7 n) x s).1.parts.length),(908,.box (.st .par (ax (a7 n) x s).2))]⟩):=
 M3 NM (fun _ _ _ _ _ _=>rfl) (fun _ _ _ _ _ _=>by simp[aC]) fun x s mn mv ms mp _ ho=>by obtain⟨q1,q2,q3,en,ev,es,ep,ql⟩:=ho _ rfl;subst en;subst ev;subst es;subst ep;exact Hc n x s q1 q2 q3 ql hP
theorem Kp:aA prog 166:=ee func166
theorem AB(n:Nat)(s:Par) (ho:a8 s/\rem (au [40] s)<n)(hT:ab prog 34 (Od n)):aB prog 166 [.ptr 900 0] [(900,.box (.st .par s))] (⟨some (a8 s/\rem (au [40] s)<n),none,.lst (.st .term) (dQ (a7 n) s).1 none,[(900,.box (.st .par ((dQ (a7 n) s).2)))]⟩):=
 g0 (sc dK (sc (hT) sn)) a0 func166 (K3 n s ho)
theorem Hd(n:Nat)(hT:ab prog 34 (Od n)):ab prog 166 (pP0 fun s=>⟨some (a8 s/\rem (au [40] s)<n),none,.lst (.st .term) (dQ (a7 n) s).1 none,[(900,.box (.st .par ((dQ (a7 n) s).2)))]⟩):=
 jY Kp (fun _=>rfl) (fun _=>by simp[aC]) fun s ho=>AB n s (ho _ rfl) hT
theorem Mx:aA prog 60:=ee func60
theorem Da(n:Nat)(k pp z:Int)(g q:Str)(b e:Str)(s:Par)(hi:a8 s)(hn:rem s<=n) :aB prog 60 [.ptr 900 0,.str b,.str e,.fn 61 [.ptr 901 0,.ptr 902 0,.ptr 903 0]] (Nc 61 57 (⟨k,g,q,z,[],[],[],[],pp⟩:Trm) (.st .par s)) (⟨some (a8 s/\rem s<=n),none,.tup [],[(900,.box (.st .par (ai b e (aK) ⟨k,g,q,z,[],[],[],[],pp⟩ s).2)),(901,.box (.agg [.int .i64 ((ai b e (aK) ⟨k,g,q,z,[],[],[],[],pp⟩ s).1).kind,.str ((ai b e (aK) ⟨k,g,q,z,[],[],[],[],pp⟩ s).1).pkg,.str ((ai b e (aK) ⟨k,g,q,z,[],[],[],[],pp⟩ s).1).name,.int .i64 ((ai b e (aK) ⟨k,g,q,z,[],[],[],[],pp⟩ s).1).n,.lst .str ((ai b e (aK) ⟨k,g,q,z,[],[],[],[],pp⟩ s).1).names (some 701),.nils,.lst (.st .shape) ((ai b e (aK) ⟨k,g,q,z,[],[],[],[],pp⟩ s).1).shapes (some 702),.nils,.int .i64 ((ai b e (aK) ⟨k,g,q,z,[],[],[],[],pp⟩ s).1).pos])),(902,.box (.ptr 900 0)),(903,.box (.fn 57 [.ptr 902 0,.ptr 901 0])),(701,.tail .str (ai b e (aK) ⟨k,g,q,z,[],[],[],[],pp⟩ s).1.names.length),(702,.tail (.st .shape) (ai b e (aK) ⟨k,g,q,z,[],[],[],[],pp⟩ s).1.shapes.length)]⟩):=
 g0 (sc gu (sc eK (sc dK (sc (Mv) sn)))) ⟨[(1,fun S0=>⟨Nat×Trm×Par,fun y=>a8 y.2.2/\rem y.2.2<y.1/\rem y.2.2<=n/\y.2.1.names.length+y.1<=5000/\y.2.1.shapes.length+y.1<=5000/\y.2.1.vars=[]/\y.2.1.parts=[]/\bB b e (aK) y.1 y.2.1 y.2.2=(ai b e (aK) ⟨k,g,q,z,[],[],[],[],pp⟩ s),fun _=>[],fun y=>[(900,.box (.st .par y.2.2)),(901,.box (.agg [.int .i64 (y.2.1).kind,.str (y.2.1).pkg,.str (y.2.1).name,.int .i64 (y.2.1).n,.lst .str (y.2.1).names (some 701),.nils,.lst (.st .shape) (y.2.1).shapes (some 702),.nils,.int .i64 (y.2.1).pos])),(701,.tail .str y.2.1.names.length),(702,.tail (.st .shape) y.2.1.shapes.length)],fun y=>y.1⟩)],[],[]⟩ func60 (Mk n k pp z g q b e s hi hn)
theorem Kq(n:Nat) :ab prog 60 (Fa 61 57 fun x b e s=>⟨some (a8 s/\rem s<=n),none,.tup [],[(900,.box (.st .par (ai b e (aK) x s).2)),(901,.box (.agg [.int .i64 ((ai b e (aK) x s).1).kind,.str ((ai b e (aK) x s).1).pkg,.str ((ai b e (aK) x s).1).name,.int .i64 ((ai b e (aK) x s).1).n,.lst .str ((ai b e (aK) x s).1).names (some 701),.nils,.lst (.st .shape) ((ai b e (aK) x s).1).shapes (some 702),.nils,.int .i64 ((ai b e (aK) x s).1).pos])),(902,.box (.ptr 900 0)),(903,.box (.fn 57 [.ptr 902 0,.ptr 901 0])),(701,.tail .str (ai b e (aK) x s).1.names.length),(702,.tail (.st .shape) (ai b e (aK) x s).1.shapes.length)]⟩):=
 Jo Mx (fun _ _ _ _=>rfl) (fun _ _ _ _=>by simp[aC]) fun x b e s zn zv zs zp ho=>by obtain⟨k,g,q,z,ns,vs,ss,us,pp⟩:=x;simp only at zn zv zs zp;obtain⟨q1,q2⟩:=ho _ rfl;subst zn zv zs zp;exact Da n k pp z g q b e s q1 q2
theorem My:aA prog 60:=ee func60
theorem Db(n:Nat)(k pp z:Int)(g q:Str)(us:List Trm)(b e:Str)(s:Par)(hi:a8 s)(hn:rem s<=n)(hu:us.length<=1)(hC:ab prog 64 (Jn 57 56 fun x s mn mv ms mp=>⟨some (a8 s/\s.err=0/\rem s<=n/\mn=x.names.length/\mv=x.vars.length/\ms=x.shapes.length/\mp=x.parts.length/\mn+mv+ms+mp<=90000),none,.tup [],[(900,.box (.agg [.int .i64 ((ax (a7 n) x s).1).kind,.str ((ax (a7 n) x s).1).pkg,.str ((ax (a7 n) x s).1).name,.int .i64 ((ax (a7 n) x s).1).n,.lst .str ((ax (a7 n) x s).1).names (some 904),.lst .str ((ax (a7 n) x s).1).vars (some 905),.lst (.st .shape) ((ax (a7 n) x s).1).shapes (some 906),.lst (.st .term) ((ax (a7 n) x s).1).parts (some 907),.int .i64 ((ax (a7 n) x s).1).pos])),(901,.box (.ptr 908 0)),(902,.box (.fn 57 [.ptr 901 0,.ptr 900 0])),(903,.box (.fn 56 [.ptr 900 0,.ptr 901 0])),(904,.tail .str (ax (a7 n) x s).1.names.length),(905,.tail .str (ax (a7 n) x s).1.vars.length),(906,.tail (.st .shape) (ax (a7 n) x s).1.shapes.length),(907,.tail (.st .term) (ax (a7 n) x s).1.parts.length),(908,.box (.st .par (ax (a7 n) x s).2))]⟩)):aB prog 60 [.ptr 900 0,.str b,.str e,.fn 64 [.ptr 901 0,.ptr 902 0,.ptr 903 0,.ptr 904 0]] (Nd 64 57 56 (⟨k,g,q,z,[],[],[],us,pp⟩:Trm) (.st .par s) us.length) (⟨some (a8 s/\rem s<=n/\us.length=us.length/\us.length<=1),none,.tup [],[(900,.box (.st .par (ai b e (ax (a7 n)) ⟨k,g,q,z,[],[],[],us,pp⟩ s).2)),(901,.box (.agg [.int .i64 ((ai b e (ax (a7 n)) ⟨k,g,q,z,[],[],[],us,pp⟩ s).1).kind,.str ((ai b e (ax (a7 n)) ⟨k,g,q,z,[],[],[],us,pp⟩ s).1).pkg,.str ((ai b e (ax (a7 n)) ⟨k,g,q,z,[],[],[],us,pp⟩ s).1).name,.int .i64 ((ai b e (ax (a7 n)) ⟨k,g,q,z,[],[],[],us,pp⟩ s).1).n,.lst .str ((ai b e (ax (a7 n)) ⟨k,g,q,z,[],[],[],us,pp⟩ s).1).names (some 701),.lst .str ((ai b e (ax (a7 n)) ⟨k,g,q,z,[],[],[],us,pp⟩ s).1).vars (some 702),.lst (.st .shape) ((ai b e (ax (a7 n)) ⟨k,g,q,z,[],[],[],us,pp⟩ s).1).shapes (some 703),.lst (.st .term) ((ai b e (ax (a7 n)) ⟨k,g,q,z,[],[],[],us,pp⟩ s).1).parts (some 905),.int .i64 ((ai b e (ax (a7 n)) ⟨k,g,q,z,[],[],[],us,pp⟩ s).1).pos])),(902,.box (.ptr 900 0)),(903,.box (.fn 57 [.ptr 902 0,.ptr 901 0])),(904,.box (.fn 56 [.ptr 901 0,.ptr 902 0])),(701,.tail .str (ai b e (ax (a7 n)) ⟨k,g,q,z,[],[],[],us,pp⟩ s).1.names.length),(702,.tail .str (ai b e (ax (a7 n)) ⟨k,g,q,z,[],[],[],us,pp⟩ s).1.vars.length),(703,.tail (.st .shape) (ai b e (ax (a7 n)) ⟨k,g,q,z,[],[],[],us,pp⟩ s).1.shapes.length),(905,.tail (.st .term) (ai b e (ax (a7 n)) ⟨k,g,q,z,[],[],[],us,pp⟩ s).1.parts.length)]⟩):=
 g0 (sc gu (sc eK (sc dK (sc (hC) sn)))) ⟨[(1,fun S0=>⟨Nat×Trm×Par,fun y=>a8 y.2.2/\rem y.2.2<y.1/\rem y.2.2<=n/\y.2.1.names.length+y.1<=5000/\y.2.1.vars.length+y.1<=5000/\y.2.1.shapes.length+y.1<=5000/\y.2.1.parts.length+y.1<=5000/\bB b e (ax (a7 n)) y.1 y.2.1 y.2.2=(ai b e (ax (a7 n)) ⟨k,g,q,z,[],[],[],us,pp⟩ s),fun _=>[],fun y=>[(900,.box (.st .par y.2.2)),(901,.box (.agg [.int .i64 (y.2.1).kind,.str (y.2.1).pkg,.str (y.2.1).name,.int .i64 (y.2.1).n,.lst .str (y.2.1).names (some 701),.lst .str (y.2.1).vars (some 702),.lst (.st .shape) (y.2.1).shapes (some 703),.lst (.st .term) (y.2.1).parts (some 905),.int .i64 (y.2.1).pos])),(701,.tail .str y.2.1.names.length),(702,.tail .str y.2.1.vars.length),(703,.tail (.st .shape) y.2.1.shapes.length),(905,.tail (.st .term) y.2.1.parts.length)],fun y=>y.1⟩)],[],[]⟩ func60 (Ml n k pp z g q us b e s hi hn hu)
theorem Kr(n:Nat)(hC:ab prog 64 (Jn 57 56 fun x s mn mv ms mp=>⟨some (a8 s/\s.err=0/\rem s<=n/\mn=x.names.length/\mv=x.vars.length/\ms=x.shapes.length/\mp=x.parts.length/\mn+mv+ms+mp<=90000),none,.tup [],[(900,.box (.agg [.int .i64 ((ax (a7 n) x s).1).kind,.str ((ax (a7 n) x s).1).pkg,.str ((ax (a7 n) x s).1).name,.int .i64 ((ax (a7 n) x s).1).n,.lst .str ((ax (a7 n) x s).1).names (some 904),.lst .str ((ax (a7 n) x s).1).vars (some 905),.lst (.st .shape) ((ax (a7 n) x s).1).shapes (some 906),.lst (.st .term) ((ax (a7 n) x s).1).parts (some 907),.int .i64 ((ax (a7 n) x s).1).pos])),(901,.box (.ptr 908 0)),(902,.box (.fn 57 [.ptr 901 0,.ptr 900 0])),(903,.box (.fn 56 [.ptr 900 0,.ptr 901 0])),(904,.tail .str (ax (a7 n) x s).1.names.length),(905,.tail .str (ax (a7 n) x s).1.vars.length),(906,.tail (.st .shape) (ax (a7 n) x s).1.shapes.length),(907,.tail (.st .term) (ax (a7 n) x s).1.parts.length),(908,.box (.st .par (ax (a7 n) x s).2))]⟩)):ab prog 60 (Fb 64 57 56 fun x b e s mp=>⟨some (a8 s/\rem s<=n/\mp=x.parts.length/\mp<=1),none,.tup [],[(900,.box (.st .par (ai b e (ax (a7 n)) x s).2)),(901,.box (.agg [.int .i64 ((ai b e (ax (a7 n)) x s).1).kind,.str ((ai b e (ax (a7 n)) x s).1).pkg,.str ((ai b e (ax (a7 n)) x s).1).name,.int .i64 ((ai b e (ax (a7 n)) x s).1).n,.lst .str ((ai b e (ax (a7 n)) x s).1).names (some 701),.lst .str ((ai b e (ax (a7 n)) x s).1).vars (some 702),.lst (.st .shape) ((ai b e (ax (a7 n)) x s).1).shapes (some 703),.lst (.st .term) ((ai b e (ax (a7 n)) x s).1).parts (some 905),.int .i64 ((ai b e (ax (a7 n)) x s).1).pos])),(902,.box (.ptr 900 0)),(903,.box (.fn 57 [.ptr 902 0,.ptr 901 0])),(904,.box (.fn 56 [.ptr 901 0,.ptr 902 0])),(701,.tail .str (ai b e (ax (a7 n)) x s).1.names.length),(702,.tail .str (ai b e (ax (a7 n)) x s).1.vars.length),(703,.tail (.st .shape) (ai b e (ax (a7 n)) x s).1.shapes.length),(905,.tail (.st .term) (ai b e (ax (a7 n)) x s).1.parts.length)]⟩):=
 Jp My (fun _ _ _ _ _=>rfl) (fun _ _ _ _ _=>by simp[aC]) fun x b e s mp zn zv zs ho=>by obtain⟨k,g,q,z,ns,vs,ss,us,pp⟩:=x;simp only at zn zv zs;obtain⟨q1,q2,e1,ql⟩:=ho _ rfl;subst zn zv zs e1;exact Db n k pp z g q us b e s q1 q2 ql hC
theorem Ks:aA prog 60:=ee func60
theorem AD(n:Nat)(k pp z:Int)(g q:Str)(b e:Str)(s:Par)(hi:a8 s)(hn:rem s<n)(hC:ab prog 56 (Oc n)):aB prog 60 [.ptr 900 0,.str b,.str e,.fn 56 [.ptr 901 0,.ptr 902 0]] (Jq 56 (⟨k,g,q,z,[],[],[],[],pp⟩:Trm) (.st .par s)) (⟨some (a8 s/\rem s<n),none,.tup [],[(900,.box (.st .par (ai b e (aF (a7 n)) ⟨k,g,q,z,[],[],[],[],pp⟩ s).2)),(901,.box (.agg [.int .i64 ((ai b e (aF (a7 n)) ⟨k,g,q,z,[],[],[],[],pp⟩ s).1).kind,.str ((ai b e (aF (a7 n)) ⟨k,g,q,z,[],[],[],[],pp⟩ s).1).pkg,.str ((ai b e (aF (a7 n)) ⟨k,g,q,z,[],[],[],[],pp⟩ s).1).name,.int .i64 ((ai b e (aF (a7 n)) ⟨k,g,q,z,[],[],[],[],pp⟩ s).1).n,.nils,.nils,.nils,.lst (.st .term) ((ai b e (aF (a7 n)) ⟨k,g,q,z,[],[],[],[],pp⟩ s).1).parts (some 701),.int .i64 ((ai b e (aF (a7 n)) ⟨k,g,q,z,[],[],[],[],pp⟩ s).1).pos])),(902,.box (.ptr 900 0)),(701,.tail (.st .term) (ai b e (aF (a7 n)) ⟨k,g,q,z,[],[],[],[],pp⟩ s).1.parts.length)]⟩):=
 g0 (sc gu (sc eK (sc dK (sc (hC) sn)))) ⟨[(1,fun S0=>⟨Nat×Trm×Par,fun y=>a8 y.2.2/\rem y.2.2<y.1/\rem y.2.2<n/\y.2.1.parts.length+y.1<=5000/\y.2.1.names=[]/\y.2.1.vars=[]/\y.2.1.shapes=[]/\bB b e (aF (a7 n)) y.1 y.2.1 y.2.2=(ai b e (aF (a7 n)) ⟨k,g,q,z,[],[],[],[],pp⟩ s),fun _=>[],fun y=>[(900,.box (.st .par y.2.2)),(901,.box (.agg [.int .i64 (y.2.1).kind,.str (y.2.1).pkg,.str (y.2.1).name,.int .i64 (y.2.1).n,.nils,.nils,.nils,.lst (.st .term) (y.2.1).parts (some 701),.int .i64 (y.2.1).pos])),(701,.tail (.st .term) y.2.1.parts.length)],fun y=>y.1⟩)],[],[]⟩ func60 (K4 n k pp z g q b e s hi hn)
def Ou(n:Nat):=tj 56 fun x b e s=>⟨some (a8 s/\rem s<n),none,.tup [],[(900,.box (.st .par (ai b e (aF (a7 n)) x s).2)),(901,.box (.agg [.int .i64 ((ai b e (aF (a7 n)) x s).1).kind,.str ((ai b e (aF (a7 n)) x s).1).pkg,.str ((ai b e (aF (a7 n)) x s).1).name,.int .i64 ((ai b e (aF (a7 n)) x s).1).n,.nils,.nils,.nils,.lst (.st .term) ((ai b e (aF (a7 n)) x s).1).parts (some 701),.int .i64 ((ai b e (aF (a7 n)) x s).1).pos])),(902,.box (.ptr 900 0)),(701,.tail (.st .term) (ai b e (aF (a7 n)) x s).1.parts.length)]⟩
theorem He(n:Nat)(hC:ab prog 56 (Oc n)):ab prog 60 (Ou n):=
 zK Ks (fun _ _ _ _=>rfl) (fun _ _ _ _=>by simp[aC]) fun x b e s zn zv zs zp ho=>by obtain⟨k,g,q,z,ns,vs,ss,us,pp⟩:=x;simp only at zn zv zs zp;obtain⟨q1,q2⟩:=ho _ rfl;subst zn zv zs zp;exact AD n k pp z g q b e s q1 q2 hC
theorem Hf:aA prog 60:=ee func60
theorem xR(n:Nat)(k pp z:Int)(g q:Str)(b e:Str)(s:Par)(hi:a8 s)(hn:rem s<=n)(hC:ab prog 165 (Og n)):aB prog 60 [.ptr 900 0,.str b,.str e,.fn 165 [.ptr 901 0,.ptr 902 0]] (Jq 165 (⟨k,g,q,z,[],[],[],[],pp⟩:Trm) (.st .par s)) (⟨some (a8 s/\rem s<=n),none,.tup [],[(900,.box (.st .par (ai b e (ao (a7 n)) ⟨k,g,q,z,[],[],[],[],pp⟩ s).2)),(901,.box (.agg [.int .i64 ((ai b e (ao (a7 n)) ⟨k,g,q,z,[],[],[],[],pp⟩ s).1).kind,.str ((ai b e (ao (a7 n)) ⟨k,g,q,z,[],[],[],[],pp⟩ s).1).pkg,.str ((ai b e (ao (a7 n)) ⟨k,g,q,z,[],[],[],[],pp⟩ s).1).name,.int .i64 ((ai b e (ao (a7 n)) ⟨k,g,q,z,[],[],[],[],pp⟩ s).1).n,.lst .str ((ai b e (ao (a7 n)) ⟨k,g,q,z,[],[],[],[],pp⟩ s).1).names (some 701),.nils,.nils,.lst (.st .term) ((ai b e (ao (a7 n)) ⟨k,g,q,z,[],[],[],[],pp⟩ s).1).parts (some 702),.int .i64 ((ai b e (ao (a7 n)) ⟨k,g,q,z,[],[],[],[],pp⟩ s).1).pos])),(902,.box (.ptr 900 0)),(701,.tail .str (ai b e (ao (a7 n)) ⟨k,g,q,z,[],[],[],[],pp⟩ s).1.names.length),(702,.tail (.st .term) (ai b e (ao (a7 n)) ⟨k,g,q,z,[],[],[],[],pp⟩ s).1.parts.length)]⟩):=
 g0 (sc gu (sc eK (sc dK (sc (hC) sn)))) ⟨[(1,fun S0=>⟨Nat×Trm×Par,fun y=>a8 y.2.2/\rem y.2.2<y.1/\rem y.2.2<=n/\y.2.1.names.length+y.1<=5000/\y.2.1.parts.length+y.1<=5000/\y.2.1.vars=[]/\y.2.1.shapes=[]/\bB b e (ao (a7 n)) y.1 y.2.1 y.2.2=(ai b e (ao (a7 n)) ⟨k,g,q,z,[],[],[],[],pp⟩ s),fun _=>[],fun y=>[(900,.box (.st .par y.2.2)),(901,.box (.agg [.int .i64 (y.2.1).kind,.str (y.2.1).pkg,.str (y.2.1).name,.int .i64 (y.2.1).n,.lst .str (y.2.1).names (some 701),.nils,.nils,.lst (.st .term) (y.2.1).parts (some 702),.int .i64 (y.2.1).pos])),(701,.tail .str y.2.1.names.length),(702,.tail (.st .term) y.2.1.parts.length)],fun y=>y.1⟩)],[],[]⟩ func60 (GB n k pp z g q b e s hi hn)
def Of(n:Nat):=tj 165 fun x b e s=>⟨some (a8 s/\rem s<=n),none,.tup [],[(900,.box (.st .par (ai b e (ao (a7 n)) x s).2)),(901,.box (.agg [.int .i64 ((ai b e (ao (a7 n)) x s).1).kind,.str ((ai b e (ao (a7 n)) x s).1).pkg,.str ((ai b e (ao (a7 n)) x s).1).name,.int .i64 ((ai b e (ao (a7 n)) x s).1).n,.lst .str ((ai b e (ao (a7 n)) x s).1).names (some 701),.nils,.nils,.lst (.st .term) ((ai b e (ao (a7 n)) x s).1).parts (some 702),.int .i64 ((ai b e (ao (a7 n)) x s).1).pos])),(902,.box (.ptr 900 0)),(701,.tail .str (ai b e (ao (a7 n)) x s).1.names.length),(702,.tail (.st .term) (ai b e (ao (a7 n)) x s).1.parts.length)]⟩
theorem Dc(n:Nat)(hC:ab prog 165 (Og n)):ab prog 60 (Of n):=
 zK Hf (fun _ _ _ _=>rfl) (fun _ _ _ _=>by simp[aC]) fun x b e s zn zv zs zp ho=>by obtain⟨k,g,q,z,ns,vs,ss,us,pp⟩:=x;simp only at zn zv zs zp;obtain⟨q1,q2⟩:=ho _ rfl;subst zn zv zs zp;exact xR n k pp z g q b e s q1 q2 hC
theorem Kt:aA prog 60:=ee func60
theorem AE(n:Nat)(k pp z:Int)(g q:Str)(us:List Trm)(b e:Str)(s:Par)(hi:a8 s)(hn:rem s<n)(hu:us.length<=1)(hC:ab prog 118 (Oc n)):aB prog 60 [.ptr 900 0,.str b,.str e,.fn 118 [.ptr 901 0,.ptr 902 0]] (Jr 118 (⟨k,g,q,z,[],[],[],us,pp⟩:Trm) (.st .par s) us.length) (⟨some (a8 s/\rem s<n/\us.length=us.length/\us.length<=1),none,.tup [],[(900,.box (.st .par (ai b e (aF (a7 n)) ⟨k,g,q,z,[],[],[],us,pp⟩ s).2)),(901,.box (.agg [.int .i64 ((ai b e (aF (a7 n)) ⟨k,g,q,z,[],[],[],us,pp⟩ s).1).kind,.str ((ai b e (aF (a7 n)) ⟨k,g,q,z,[],[],[],us,pp⟩ s).1).pkg,.str ((ai b e (aF (a7 n)) ⟨k,g,q,z,[],[],[],us,pp⟩ s).1).name,.int .i64 ((ai b e (aF (a7 n)) ⟨k,g,q,z,[],[],[],us,pp⟩ s).1).n,.nils,.nils,.nils,.lst (.st .term) ((ai b e (aF (a7 n)) ⟨k,g,q,z,[],[],[],us,pp⟩ s).1).parts (some 903),.int .i64 ((ai b e (aF (a7 n)) ⟨k,g,q,z,[],[],[],us,pp⟩ s).1).pos])),(902,.box (.ptr 900 0)),(903,.tail (.st .term) (ai b e (aF (a7 n)) ⟨k,g,q,z,[],[],[],us,pp⟩ s).1.parts.length)]⟩):=
 g0 (sc gu (sc eK (sc dK (sc (hC) sn)))) ⟨[(1,fun S0=>⟨Nat×Trm×Par,fun y=>a8 y.2.2/\rem y.2.2<y.1/\rem y.2.2<n/\y.2.1.parts.length+y.1<=5000/\y.2.1.names=[]/\y.2.1.vars=[]/\y.2.1.shapes=[]/\bB b e (aF (a7 n)) y.1 y.2.1 y.2.2=(ai b e (aF (a7 n)) ⟨k,g,q,z,[],[],[],us,pp⟩ s),fun _=>[],fun y=>[(900,.box (.st .par y.2.2)),(901,.box (.agg [.int .i64 (y.2.1).kind,.str (y.2.1).pkg,.str (y.2.1).name,.int .i64 (y.2.1).n,.nils,.nils,.nils,.lst (.st .term) (y.2.1).parts (some 903),.int .i64 (y.2.1).pos])),(903,.tail (.st .term) y.2.1.parts.length)],fun y=>y.1⟩)],[],[]⟩ func60 (K5 n k pp z g q us b e s hi hn hu)
def Oh(n:Nat):=tl 118 fun x b e s mp=>⟨some (a8 s/\rem s<n/\mp=x.parts.length/\mp<=1),none,.tup [],[(900,.box (.st .par (ai b e (aF (a7 n)) x s).2)),(901,.box (.agg [.int .i64 ((ai b e (aF (a7 n)) x s).1).kind,.str ((ai b e (aF (a7 n)) x s).1).pkg,.str ((ai b e (aF (a7 n)) x s).1).name,.int .i64 ((ai b e (aF (a7 n)) x s).1).n,.nils,.nils,.nils,.lst (.st .term) ((ai b e (aF (a7 n)) x s).1).parts (some 903),.int .i64 ((ai b e (aF (a7 n)) x s).1).pos])),(902,.box (.ptr 900 0)),(903,.tail (.st .term) (ai b e (aF (a7 n)) x s).1.parts.length)]⟩
theorem Hg(n:Nat)(hC:ab prog 118 (Oc n)):ab prog 60 (Oh n):=
 Gd Kt (fun _ _ _ _ _=>rfl) (fun _ _ _ _ _=>by simp[aC]) fun x b e s mp zn zv zs ho=>by obtain⟨k,g,q,z,ns,vs,ss,us,pp⟩:=x;simp only at zn zv zs;obtain⟨q1,q2,e1,ql⟩:=ho _ rfl;subst zn zv zs e1;exact AE n k pp z g q us b e s q1 q2 ql hC
theorem Mz:aA prog 65:=ee func65
def Oy(n:Nat):=pP0 fun s=>⟨some (a8 s/\rem s<n+1),none,.st .term (eo (a7 n) s).1,[(900,.box (.st .par (eo (a7 n) s).2))]⟩
theorem Dd(n:Nat)(s:Par) (ho:a8 s/\rem s<n+1)(hA:ab prog 117 (Oy n))(hL:ab prog 60 (Oh n)):aB prog 65 [.ptr 900 0] [(900,.box (.st .par s))] (⟨some (a8 s/\rem s<n+1),none,.st .term (gi (a7 n) s).1,[(900,.box (.st .par ((gi (a7 n) s).2)))]⟩):=
 g0 (sc hX (sc (hA) (sc eK (sc gu (sc ly (sc (hL) sn)))))) ⟨[(3,fun S0=>⟨Nat×Trm×Par,fun y=>a8 y.2.2/\rem y.2.2<y.1/\rem y.2.2<n+1/\gJ (a7 n) (aH s).pos y.1 y.2.1 y.2.2=gi (a7 n) s,fun _=>[],fun y=>[(900,.box (.st .par y.2.2)),(4,.box (.st .term y.2.1))],fun y=>y.1⟩)],[],[]⟩ func65 (Mm n s ho)
theorem Ku(n:Nat)(hA:ab prog 117 (Oy n))(hL:ab prog 60 (Oh n)):ab prog 65 (pP0 fun s=>⟨some (a8 s/\rem s<n+1),none,.st .term (gi (a7 n) s).1,[(900,.box (.st .par ((gi (a7 n) s).2)))]⟩):=
 jY Mz (fun _=>rfl) (fun _=>by simp[aC]) fun s ho=>Dd n s (ho _ rfl) hA hL
theorem MA:aA prog 117:=ee func117
def Ow(n:Nat):=pP0 fun s=>⟨some (a8 s/\rem (au [40] s)<n),none,.lst (.st .term) (dQ (a7 n) s).1 none,[(900,.box (.st .par (dQ (a7 n) s).2))]⟩
theorem De(n:Nat)(s:Par) (ho:a8 s/\rem s<n+1)(hT:ab prog 34 (Od n))(hL:ab prog 60 (Of n))(hI:ab prog 166 (Ow n)):aB prog 117 [.ptr 900 0] [(900,.box (.st .par s))] (⟨some (a8 s/\rem s<n+1),none,.st .term (eo (a7 n) s).1,[(900,.box (.st .par ((eo (a7 n) s).2)))]⟩):=
 g0 (sc hX (sc eK (sc (zY) (sc gu (sc ly (sc dK (sc lz (sc ja (sc (hT) (sc (hL) (sc (hI) sn))))))))))) a0 func117 (Mn n s ho)
theorem Kv(n:Nat)(hT:ab prog 34 (Od n))(hL:ab prog 60 (Of n))(hI:ab prog 166 (Ow n)):ab prog 117 (pP0 fun s=>⟨some (a8 s/\rem s<n+1),none,.st .term (eo (a7 n) s).1,[(900,.box (.st .par ((eo (a7 n) s).2)))]⟩):=
 jY MA (fun _=>rfl) (fun _=>by simp[aC]) fun s ho=>De n s (ho _ rfl) hT hL hI
theorem Fj:aA prog 34:=ee func34
theorem Df(n:Nat)(s:Par) (ho:a8 s/\rem s<n+1)(hPo:ab prog 56 (Ov n))(hPp:ab prog 56 (Oc n))(hPns:ab prog 56 (Oq n))(hF:ab prog 60 (Fa 61 57 fun x b e s=>⟨some (a8 s/\rem s<=n),none,.tup [],[(900,.box (.st .par (ai b e (aK) x s).2)),(901,.box (.agg [.int .i64 ((ai b e (aK) x s).1).kind,.str ((ai b e (aK) x s).1).pkg,.str ((ai b e (aK) x s).1).name,.int .i64 ((ai b e (aK) x s).1).n,.lst .str ((ai b e (aK) x s).1).names (some 701),.nils,.lst (.st .shape) ((ai b e (aK) x s).1).shapes (some 702),.nils,.int .i64 ((ai b e (aK) x s).1).pos])),(902,.box (.ptr 900 0)),(903,.box (.fn 57 [.ptr 902 0,.ptr 901 0])),(701,.tail .str (ai b e (aK) x s).1.names.length),(702,.tail (.st .shape) (ai b e (aK) x s).1.shapes.length)]⟩))(hW:ab prog 60 (Fb 64 57 56 fun x b e s mp=>⟨some (a8 s/\rem s<=n/\mp=x.parts.length/\mp<=1),none,.tup [],[(900,.box (.st .par (ai b e (ax (a7 n)) x s).2)),(901,.box (.agg [.int .i64 ((ai b e (ax (a7 n)) x s).1).kind,.str ((ai b e (ax (a7 n)) x s).1).pkg,.str ((ai b e (ax (a7 n)) x s).1).name,.int .i64 ((ai b e (ax (a7 n)) x s).1).n,.lst .str ((ai b e (ax (a7 n)) x s).1).names (some 701),.lst .str ((ai b e (ax (a7 n)) x s).1).vars (some 702),.lst (.st .shape) ((ai b e (ax (a7 n)) x s).1).shapes (some 703),.lst (.st .term) ((ai b e (ax (a7 n)) x s).1).parts (some 905),.int .i64 ((ai b e (ax (a7 n)) x s).1).pos])),(902,.box (.ptr 900 0)),(903,.box (.fn 57 [.ptr 902 0,.ptr 901 0])),(904,.box (.fn 56 [.ptr 901 0,.ptr 902 0])),(701,.tail .str (ai b e (ax (a7 n)) x s).1.names.length),(702,.tail .str (ai b e (ax (a7 n)) x s).1.vars.length),(703,.tail (.st .shape) (ai b e (ax (a7 n)) x s).1.shapes.length),(905,.tail (.st .term) (ai b e (ax (a7 n)) x s).1.parts.length)]⟩))(hE:ab prog 60 (Ou n))(hO:ab prog 65 (pP0 fun s=>⟨some (a8 s/\rem s<n+1),none,.st .term (gi (a7 n) s).1,[(900,.box (.st .par (gi (a7 n) s).2))]⟩)):aB prog 34 [.ptr 900 0] [(900,.box (.st .par s))] (⟨some (a8 s/\rem s<n+1),none,.st .term (a7 (n+1) s).1,[(900,.box (.st .par ((a7 (n+1) s).2)))]⟩):=
 g0 (sc hX (sc gu (sc dK (sc ly (sc Ha (sc pI (sc tQ (sc (hPo) (sc (hPp) (sc (hPns) (sc (hF) (sc (hW) (sc (hE) (sc (hO) sn)))))))))))))) a0 func34 (Mo n s ho)
theorem AF:∀n:Nat,ab prog 34 (Od n)
 |0=>jY Fj (fun _=>rfl) (fun _=>by simp[aC]) fun s ho=>absurd (ho _ rfl).2 (Ql _)
 |n+1=>by
  have hT:=AF n
  exact jY Fj (fun _=>rfl) (fun _=>by simp[aC]) fun s ho=>
   Df n s (ho _ rfl) (D7 n hT) (tO n hT) (Az n hT) (Kq n) (Kr n (Mw n (vf n hT))) (He n (tO n hT))
    (Ku n (Kv n hT (Dc n (Hb n hT)) (Hd n hT)) (Hg n (D9 n hT)))
theorem w7:ab prog 28 (p2 (.lst (.st .token)) (.int .i64) fun l a=>⟨none,none,.ptr 10 0,[(10,.box (.st .par (bE l a)))]⟩):=
 dB (ee func28) fun l a hl _ _=>g0 (sc ja sn) a0 func28 (K6 l a hl)
theorem tR:ab prog 42 (p2 (.lst (.st .token)) (.int .i64) fun l a=>⟨some (0<=a/\a<(l.length:Int)),none,.st .fault (fm l a),[]⟩):=
 dB (ee func42) fun l a hl _ ho=>g0 sn a0 func42 (GC l a hl (ho _ rfl))
theorem Kw:ab prog 12 (p2 (.lst (.st .token)) (.int .i64) fun l a=>⟨some (aO l),none,.tup [.st .shape (jo l a).1,.int .i64 (jo l a).2.1,.st .fault (jo l a).2.2],[]⟩):=
 dB (ee func12) fun l a _ _ ho=>g0 (sc w7 (sc eK (sc lz sn))) a0 func12 (Mp l a (ho _ rfl))
theorem w8:aA prog 66:=ee func66
theorem xS(n:Nat)(t:Trm)(m:Int)(hs:Wf (.st .term) t)(hz:szT t<=n+1)(h0:0<=m)(h1:m<=1000000)(hA:ab prog 66 (p2 (.st .term) (.int .i64) fun t m=>⟨some (szT t<=n/\0<=m/\m<=1000000),none,.tup [.int .i64 (countT t m).1,.int .i64 (countT t m).2],[]⟩)):aB prog 66 [.st .term t,.int .i64 m] [] (⟨some (szT t<=n+1/\0<=m/\m<=1000000),none,.tup [.int .i64 (countT t m).1,.int .i64 (countT t m).2],[]⟩):=
 g0 (sc (hA) sn) ⟨[(3,fun S0=>⟨Nat×Int×Int,fun y=>y.1<=t.parts.length/\1<=y.2.1/\y.2.1<=m+1/\0<=y.2.2/\y.2.2+1<=y.2.1/\countL (t.parts.drop y.1) m y.2.1 y.2.2=countL t.parts m 1 0,fun y=>[(6,.int .i64 y.2.1),(7,.int .i64 y.2.2),(15,.int .i64 y.1)],fun _=>[],fun y=>t.parts.length-y.1⟩)],[],[]⟩ func66 (GD n t m hs hz h0 h1)
theorem tT:∀n:Nat,ab prog 66 (p2 (.st .term) (.int .i64) fun t m=>⟨some (szT t<=n/\0<=m/\m<=1000000),none,.tup [.int .i64 (countT t m).1,.int .i64 (countT t m).2],[]⟩)
 |0=>dB w8 fun t m hs _ ho=>absurd (ho _ rfl).1 (by have:=kt t;omega)
 |n+1=>dB w8 fun t m hs _ ho=>xS n t m hs (ho _ rfl).1 (ho _ rfl).2.1 (ho _ rfl).2.2 (tT n)
theorem AG:ab prog 214 (pcl .str 130 fun x=>⟨none,none,.bool (!aX x),[]⟩):=
 xF (ee func214) fun x _ ho=>g0 (sc nj sn) a0 func214 (CU x)
theorem AH:ab prog 244 (pfc (.lst .str) 214 130 fun l=>⟨none,none,.int .i64 (cW aX l 0),[]⟩):=
 mY (ee func244) fun l hl ho=>g0 (sc AG sn) ⟨[(2,fun S0=>⟨Nat,fun k=>k<=l.length/\cW aX (l.drop k) k=cW aX l 0,fun k=>[(8,.int .i64 k)],fun _=>[],fun k=>l.length-k⟩)],[],[]⟩ func244 (CV l hl)
theorem AI:ab prog 213 (pfc (.lst .str) 214 130 fun l=>⟨none,none,.bool (!l.all aX),[]⟩):=
 mY (ee func213) fun l _ ho=>g0 (sc AH sn) a0 func213 (CW l)
theorem w9:ab prog 172 (pf (.lst .str) 130 fun l=>⟨none,none,.bool (l.all aX),[]⟩):=
 rj (ee func172) fun l _ ho=>g0 (sc AI sn) a0 func172 (K7 l)
theorem Hh:ab prog 171 (p1 (.lst .str) fun l=>⟨some (l.length *16<=140737488355328),none,.bool (l.all aX&&decide l.Nodup),[]⟩):=
 b7 (ee func171) fun l _ ho=>g0 (sc tM (sc (tA) (sc w9 (sc (ru) sn)))) a0 func171 (K8 l (ho _ rfl))
theorem Dg:aA prog 210:=ee func210
theorem vg(n:Nat)(x:Shape) (ho:sz x<=n)(hA:ab prog 211 (p1 (.st .shape) fun s=>⟨some (sz s<=n),none,.bool (allS bh s),[]⟩)):aB prog 210 [.st .shape x,.ptr 900 0] [(900,.box (.fn 211 []))] (⟨some (sz x<=n),none,.bool (!(allS bh) x),[]⟩):=
 g0 (sc (hA) sn) a0 func210 (CX n x ho)
theorem AJ(n:Nat)(hA:ab prog 211 (p1 (.st .shape) fun s=>⟨some (sz s<=n),none,.bool (allS bh s),[]⟩)):ab prog 210 (pcl (.st .shape) 211 fun x=>⟨some (sz x<=n),none,.bool (!(allS bh) x),[]⟩):=
 xF Dg fun x _ ho=>vg n x (ho _ rfl) hA
theorem Dh:aA prog 242:=ee func242
theorem vh(n:Nat)(l:List AL.Shape) (hl:Wf (.lst (.st .shape)) l)(ho:∀x∈l,sz x<=n)(hA:ab prog 211 (p1 (.st .shape) fun s=>⟨some (sz s<=n),none,.bool (allS bh s),[]⟩)):aB prog 242 [.lst (.st .shape) l none,.fn 210 [.ptr 900 0]] [(900,.box (.fn 211 []))] (⟨some (∀x∈l,sz x<=n),none,.int .i64 (cW (allS bh) l 0),[]⟩):=
 g0 (sc ((AJ n hA)) sn) ⟨[(2,fun S0=>⟨Nat,fun k=>k<=l.length/\cW (allS bh) (l.drop k) k=cW (allS bh) l 0,fun k=>[(8,.int .i64 k)],fun _=>[],fun k=>l.length-k⟩)],[],[]⟩ func242 (CY n l hl ho)
theorem AK(n:Nat)(hA:ab prog 211 (p1 (.st .shape) fun s=>⟨some (sz s<=n),none,.bool (allS bh s),[]⟩)):ab prog 242 (pfc (.lst (.st .shape)) 210 211 fun l=>⟨some (∀x∈l,sz x<=n),none,.int .i64 (cW (allS bh) l 0),[]⟩):=
 mY Dh fun l hl ho=>vh n l hl (ho _ rfl) hA
theorem Di:aA prog 209:=ee func209
theorem vi(n:Nat)(l:List AL.Shape) (ho:∀x∈l,sz x<=n)(hA:ab prog 211 (p1 (.st .shape) fun s=>⟨some (sz s<=n),none,.bool (allS bh s),[]⟩)):aB prog 209 [.lst (.st .shape) l none,.fn 210 [.ptr 900 0]] [(900,.box (.fn 211 []))] (⟨some (∀x∈l,sz x<=n),none,.bool (!l.all (allS bh)),[]⟩):=
 g0 (sc ((AK n hA)) sn) a0 func209 (CZ n l ho)
theorem AM(n:Nat)(hA:ab prog 211 (p1 (.st .shape) fun s=>⟨some (sz s<=n),none,.bool (allS bh s),[]⟩)):ab prog 209 (pfc (.lst (.st .shape)) 210 211 fun l=>⟨some (∀x∈l,sz x<=n),none,.bool (!l.all (allS bh)),[]⟩):=
 mY Di fun l _ ho=>vi n l (ho _ rfl) hA
theorem Kx:aA prog 168:=ee func168
theorem AN(n:Nat)(l:List AL.Shape) (ho:∀x∈l,sz x<=n)(hA:ab prog 211 (p1 (.st .shape) fun s=>⟨some (sz s<=n),none,.bool (allS bh s),[]⟩)):aB prog 168 [.lst (.st .shape) l none,.fn 211 []] [] (⟨some (∀x∈l,sz x<=n),none,.bool (l.all (allS bh)),[]⟩):=
 g0 (sc ((AM n hA)) sn) a0 func168 (K9 n l ho)
theorem Hi(n:Nat)(hA:ab prog 211 (p1 (.st .shape) fun s=>⟨some (sz s<=n),none,.bool (allS bh s),[]⟩)):ab prog 168 (pf (.lst (.st .shape)) 211 fun l=>⟨some (∀x∈l,sz x<=n),none,.bool (l.all (allS bh)),[]⟩):=
 rj Kx fun l _ ho=>AN n l (ho _ rfl) hA
theorem Fk:aA prog 211:=ee func211
theorem Dj(n:Nat)(s:AL.Shape)(ho:sz s<=n+1)(hE:ab prog 168 (pf (.lst (.st .shape)) 211 fun l=>⟨some (∀x∈l,sz x<=n),none,.bool (l.all (allS bh)),[]⟩)):aB prog 211 [.st .shape s] [] (⟨some (sz s<=n+1),none,.bool (allS bh s),[]⟩):=
 g0 (sc (hE) sn) a0 func211 (Mq n s ho)
theorem AO:∀n:Nat,ab prog 211 (p1 (.st .shape) fun s=>⟨some (sz s<=n),none,.bool (allS bh s),[]⟩)
 |0=>b7 Fk fun s _ ho=>absurd (ho _ rfl) (by have:=jV s;omega)
 |n+1=>b7 Fk fun s _ ho=>Dj n s (ho _ rfl) (Hi n (AO n))
theorem Dk:ab prog 169 (p1 (.st .shape) fun s=>.ret (.bool (decide (bD s=0)&&allS bh s))):=
 b7 (ee func169) fun s _ _=>g0 (sc w6 (sc (AO 400) sn)) a0 func169 (GF s)
theorem MB:ab prog 167 (p1 (.st .term) fun t=>.ret (.agg [.int .i64 (t.names.length:Int),.int .i64 (t.vars.length:Int),.int .i64 (t.shapes.length:Int),.int .i64 (t.parts.length:Int)])):=
 b7 (ee func167) fun t _ _=>g0 sn a0 func167 (NK t)
theorem Hj:ab prog 170 (p1 .str fun s=>.ret (.bool (kx s))):=
 b7 (ee func170) fun s hs _=>g0 (sc (Gm) sn) ⟨[(2,fun S0=>⟨Nat,fun k=>k<=s.length/\(s.all eJ)=(s.drop k).all eJ,fun k=>[(8,.int .i64 k)],fun _=>[],fun k=>s.length-k⟩)],[],[]⟩ func170 (Ka s hs)
theorem xT:ab prog 210 (pcl (.st .shape) 169 fun x=>⟨none,none,.bool (!cm x),[]⟩):=
 xF (ee func210) fun x _ ho=>g0 (sc Dk sn) a0 func210 (Ag x)
theorem xU:ab prog 242 (pfc (.lst (.st .shape)) 210 169 fun l=>⟨none,none,.int .i64 (cW cm l 0),[]⟩):=
 mY (ee func242) fun l hl ho=>g0 (sc xT sn) ⟨[(2,fun S0=>⟨Nat,fun k=>k<=l.length/\cW cm (l.drop k) k=cW cm l 0,fun k=>[(8,.int .i64 k)],fun _=>[],fun k=>l.length-k⟩)],[],[]⟩ func242 (Ah l hl)
theorem xV:ab prog 209 (pfc (.lst (.st .shape)) 210 169 fun l=>⟨none,none,.bool (!l.all cm),[]⟩):=
 mY (ee func209) fun l _ ho=>g0 (sc xU sn) a0 func209 (Ai l)
theorem Dl:ab prog 168 (pf (.lst (.st .shape)) 169 fun l=>⟨none,none,.bool (l.all cm),[]⟩):=
 rj (ee func168) fun l _ ho=>g0 (sc xV sn) a0 func168 (GH l)
theorem Hk:ab prog 119 (p1 (.st .term) fun t=>⟨some (t.names.length<=1000000),none,.bool (aS t),[]⟩):=
 b7 (ee func119) fun t ht ho=>g0 (sc MB (sc Dl (sc Hj (sc nj (sc Hh (sc w9 (sc qy sn))))))) ⟨[],[],[(2,fun S0=>⟨[(34,.bool (!ky t))],[]⟩)]⟩ func119 (Kb t ht (ho _ rfl))
theorem AP:aA prog 100:=ee func100
theorem tU(n:Nat)(x:Trm) (ho:szT x<=n/\dx x=true)(hA:ab prog 67 (p1 (.st .term) fun t=>⟨some (szT t<=n/\dx t=true),none,.bool (allT aS t),[]⟩)):aB prog 100 [.st .term x,.ptr 900 0] [(900,.box (.fn 67 []))] (⟨some (szT x<=n/\dx x=true),none,.bool (!(allT aS) x),[]⟩):=
 g0 (sc (hA) sn) a0 func100 (Aj n x ho)
theorem xW(n:Nat)(hA:ab prog 67 (p1 (.st .term) fun t=>⟨some (szT t<=n/\dx t=true),none,.bool (allT aS t),[]⟩)):ab prog 100 (pcl (.st .term) 67 fun x=>⟨some (szT x<=n/\dx x=true),none,.bool (!(allT aS) x),[]⟩):=
 xF AP fun x _ ho=>tU n x (ho _ rfl) hA
theorem AQ:aA prog 161:=ee func161
theorem tV(n:Nat)(l:List Trm) (hl:Wf (.lst (.st .term)) l)(ho:∀x∈l,szT x<=n/\dx x=true)(hA:ab prog 67 (p1 (.st .term) fun t=>⟨some (szT t<=n/\dx t=true),none,.bool (allT aS t),[]⟩)):aB prog 161 [.lst (.st .term) l none,.fn 100 [.ptr 900 0]] [(900,.box (.fn 67 []))] (⟨some (∀x∈l,szT x<=n/\dx x=true),none,.int .i64 (cW (allT aS) l 0),[]⟩):=
 g0 (sc ((xW n hA)) sn) ⟨[(2,fun S0=>⟨Nat,fun k=>k<=l.length/\cW (allT aS) (l.drop k) k=cW (allT aS) l 0,fun k=>[(8,.int .i64 k)],fun _=>[],fun k=>l.length-k⟩)],[],[]⟩ func161 (Ak n l hl ho)
theorem xX(n:Nat)(hA:ab prog 67 (p1 (.st .term) fun t=>⟨some (szT t<=n/\dx t=true),none,.bool (allT aS t),[]⟩)):ab prog 161 (pfc (.lst (.st .term)) 100 67 fun l=>⟨some (∀x∈l,szT x<=n/\dx x=true),none,.int .i64 (cW (allT aS) l 0),[]⟩):=
 mY AQ fun l hl ho=>tV n l hl (ho _ rfl) hA
theorem AR:aA prog 99:=ee func99
theorem tW(n:Nat)(l:List Trm) (ho:∀x∈l,szT x<=n/\dx x=true)(hA:ab prog 67 (p1 (.st .term) fun t=>⟨some (szT t<=n/\dx t=true),none,.bool (allT aS t),[]⟩)):aB prog 99 [.lst (.st .term) l none,.fn 100 [.ptr 900 0]] [(900,.box (.fn 67 []))] (⟨some (∀x∈l,szT x<=n/\dx x=true),none,.bool (!l.all (allT aS)),[]⟩):=
 g0 (sc ((xX n hA)) sn) a0 func99 (Al n l ho)
theorem xY(n:Nat)(hA:ab prog 67 (p1 (.st .term) fun t=>⟨some (szT t<=n/\dx t=true),none,.bool (allT aS t),[]⟩)):ab prog 99 (pfc (.lst (.st .term)) 100 67 fun l=>⟨some (∀x∈l,szT x<=n/\dx x=true),none,.bool (!l.all (allT aS)),[]⟩):=
 mY AR fun l _ ho=>tW n l (ho _ rfl) hA
theorem Hl:aA prog 49:=ee func49
theorem xZ(n:Nat)(l:List Trm) (ho:∀x∈l,szT x<=n/\dx x=true)(hA:ab prog 67 (p1 (.st .term) fun t=>⟨some (szT t<=n/\dx t=true),none,.bool (allT aS t),[]⟩)):aB prog 49 [.lst (.st .term) l none,.fn 67 []] [] (⟨some (∀x∈l,szT x<=n/\dx x=true),none,.bool (l.all (allT aS)),[]⟩):=
 g0 (sc ((xY n hA)) sn) a0 func49 (GI n l ho)
theorem Dm(n:Nat)(hA:ab prog 67 (p1 (.st .term) fun t=>⟨some (szT t<=n/\dx t=true),none,.bool (allT aS t),[]⟩)):ab prog 49 (pf (.lst (.st .term)) 67 fun l=>⟨some (∀x∈l,szT x<=n/\dx x=true),none,.bool (l.all (allT aS)),[]⟩):=
 rj Hl fun l _ ho=>xZ n l (ho _ rfl) hA
theorem wb:aA prog 67:=ee func67
theorem y5(n:Nat)(t:Trm)(ho:szT t<=n+1/\dx t=true)(hE:ab prog 49 (pf (.lst (.st .term)) 67 fun l=>⟨some (∀x∈l,szT x<=n/\dx x=true),none,.bool (l.all (allT aS)),[]⟩)):aB prog 67 [.st .term t] [] (⟨some (szT t<=n+1/\dx t=true),none,.bool (allT aS t),[]⟩):=
 g0 (sc Hk (sc (hE) sn)) a0 func67 (GJ n t ho)
theorem tX:∀n:Nat,ab prog 67 (p1 (.st .term) fun t=>⟨some (szT t<=n/\dx t=true),none,.bool (allT aS t),[]⟩)
 |0=>b7 wb fun t _ ho=>absurd (ho _ rfl).1 (by have:=kt t;omega)
 |n+1=>b7 wb fun t _ ho=>y5 n t (ho _ rfl) (Dm n (tX n))
theorem y7(x:Trm)(ho:dx x=true) :aB prog 35 [.st .term x] [] (⟨some (dx x=true),none,.int .i64 (bF x),[]⟩):=
 g0 (sc (tT (szT x)) (sc (tX (szT x)) sn)) a0 func35 (GK x ho)
theorem Dn:ab prog 35 (p1 (.st .term) fun t=>⟨some (dx t=true),none,.int .i64 (bF t),[]⟩):=
 b7 (ee func35) fun t _ ho=>y7 t (ho _ rfl)
theorem qz:ab prog 80 (pLn fun s p n k=>⟨some (s.length<=4096/\0<=p/\p<=(s.length:Int)/\0<=k/\k<=2),none,.int .u8 (bAt s (p+k)),[]⟩):=
 Ny (ee func80) fun s p n k ho=>g0 sn a0 func80 (Kc s p n k (ho _ rfl))
theorem Ky:ab prog 133 (p1 (.int .u8) fun c=>.ret (.bool (aZ c))):=
 b7 (ee func133) fun c _ _=>g0 (sc lu (sc lx (sc qx sn))) a0 func133 (Mr c)
theorem Hm:ab prog 82 (p1 (.int .u8) fun c=>.ret (.bool (ew c))):=
 b7 (ee func82) fun c _ _=>g0 sn a0 func82 (Kd c)
theorem Dp:ab prog 194 (p1 (.int .u8) fun c=>.ret (.bool (bQ c))):=
 b7 (ee func194) fun c _ _=>g0 sn a0 func194 (GL c)
theorem Dq:ab prog 81 (pLf 128 fun s p n=>⟨some (s.length<=4096/\0<=p/\p<=(s.length:Int)),none,.str (cut s p (p+aq cd s p)),[(900,.box (.agg [.str s,.int .i64 (p+aq cd s p)]))]⟩):=
 xG (ee func81) fun s p n ho=>g0 (sc tL sn) ⟨[(2,fun S0=>⟨Nat,fun k=>p+k<=(s.length:Int)/\aq cd s p=k+aq cd s (p+k),fun _=>[],fun k=>[(900,.box (.agg [.str s,.int .i64 (p+(k:Int))]))],fun k=>s.length-k⟩)],[],[]⟩ func81 (GM s p n (ho _ rfl))
theorem Dr:ab prog 81 (pLf 133 fun s p n=>⟨some (s.length<=4096/\0<=p/\p<=(s.length:Int)),none,.str (cut s p (p+aq aZ s p)),[(900,.box (.agg [.str s,.int .i64 (p+aq aZ s p)]))]⟩):=
 xG (ee func81) fun s p n ho=>g0 (sc Ky sn) ⟨[(2,fun S0=>⟨Nat,fun k=>p+k<=(s.length:Int)/\aq aZ s p=k+aq aZ s (p+k),fun _=>[],fun k=>[(900,.box (.agg [.str s,.int .i64 (p+(k:Int))]))],fun k=>s.length-k⟩)],[],[]⟩ func81 (GN s p n (ho _ rfl))
theorem Ds:ab prog 81 (pLf 82 fun s p n=>⟨some (s.length<=4096/\0<=p/\p<=(s.length:Int)),none,.str (cut s p (p+aq ew s p)),[(900,.box (.agg [.str s,.int .i64 (p+aq ew s p)]))]⟩):=
 xG (ee func81) fun s p n ho=>g0 (sc Hm sn) ⟨[(2,fun S0=>⟨Nat,fun k=>p+k<=(s.length:Int)/\aq ew s p=k+aq ew s (p+k),fun _=>[],fun k=>[(900,.box (.agg [.str s,.int .i64 (p+(k:Int))]))],fun k=>s.length-k⟩)],[],[]⟩ func81 (GO s p n (ho _ rfl))
theorem Dt:ab prog 81 (pLf 194 fun s p n=>⟨some (s.length<=4096/\0<=p/\p<=(s.length:Int)),none,.str (cut s p (p+aq bQ s p)),[(900,.box (.agg [.str s,.int .i64 (p+aq bQ s p)]))]⟩):=
 xG (ee func81) fun s p n ho=>g0 (sc Dp sn) ⟨[(2,fun S0=>⟨Nat,fun k=>p+k<=(s.length:Int)/\aq bQ s p=k+aq bQ s (p+k),fun _=>[],fun k=>[(900,.box (.agg [.str s,.int .i64 (p+(k:Int))]))],fun k=>s.length-k⟩)],[],[]⟩ func81 (GP s p n (ho _ rfl))
theorem Du:ab prog 123 (p1 .str fun s=>⟨some (s.length<=4096),none,.tup [.undef,.st .fault (xH s)],[]⟩):=
 b7 (ee func123) fun s _ ho=>g0 (sc (tB) sn) ⟨[(3,fun S0=>⟨Nat×List Int,fun y=>y.1<=s.length/\y.2.length<=y.1/\dF s=j8 s y.1,fun y=>[(4,.lst (.int .i64) y.2 (some 10)),(5,.int .i64 y.1)],fun y=>[(10,.tail (.int .i64) y.2.length)],fun y=>s.length-y.1⟩)],[],[]⟩ func123 (GQ s (ho _ rfl))
theorem rz:ab prog 191 (p1 .str fun s=>.ret (.bool (cq s))):=
 b7 (ee func191) fun s _ _=>g0 (sc (zZ) sn) a0 func191 (D0 s)
theorem Hn:ab prog 223 (p1 .str fun s=>.ret (.bool (dn s))):=
 b7 (ee func223) fun s hs _=>g0 (sc rz sn) ⟨[(4,fun S0=>⟨Nat,fun k=>k<=s.length/\(s.all fun c=>gj (bI c))=(s.drop k).all fun c=>gj (bI c),fun k=>[(22,.int .i64 k)],fun _=>[],fun k=>s.length-k⟩)],[],[]⟩ func223 (Ke s hs)
theorem Dv:ab prog 192 (p1 (.st .version) fun v=>.ret (.int .i64 (bW v))):=
 b7 (ee func192) fun v hv _=>g0 (sc (vV) (sc Hn sn)) ⟨[(2,fun S0=>⟨Nat,fun k=>k<=3/\([v.major,v.minor,v.patch].take k).all rJ=true,fun k=>[(15,.int .i64 k)],fun _=>[],fun k=>3-k⟩),(11,fun S0=>⟨Nat,fun k=>k<=(splitB 46 v.pre).length/\((splitB 46 v.pre).take k).all dn=true,fun k=>[(37,.int .i64 k)],fun _=>[],fun k=>(splitB 46 v.pre).length-k⟩)],[],[]⟩ func192 (GR v hv)
def Oz:=p1 .str fun s=>⟨some (s.length<=4096),none,.tup [.st .version (cz s).1,.int .i64 (cz s).2],[]⟩
theorem Dw:ab prog 135 Oz:=
 b7 (ee func135) fun s _ ho=>g0 (sc (M7) (sc (vV) (sc rz (sc (zY) (sc Dv sn))))) ⟨[(7,fun S0=>⟨Nat,fun k=>k<=3/\((splitB 46 (aU s)).take k).all fB=true,fun k=>[(34,.int .i64 k)],fun k=>[(8,.box (.row (.int .i64) (pE s k)))],fun k=>3-k⟩)],[],[]⟩ func135 (GU s (ho _ rfl))
theorem qA:ab prog 124 (pC2 fun s c n e a=>⟨some (n=c.out.length),none,.bool false,[(900,.box (.agg [.str s,.int .i64 ((gZ e a c).2).pos,.lst (.st .token) ((gZ e a c).2).out (some 901),.int .i64 ((gZ e a c).2).err,.int .i64 ((gZ e a c).2).fat])),(901,.tail (.st .token) ((gZ e a c).2).out.length)]⟩):=
 Ju (ee func124) fun s c n e a ho=>g0 sn a0 func124 (Kf s c n e a (ho _ rfl))
theorem tY:ab prog 83 (pC2 fun s c n a b=>⟨some (n=c.out.length/\s.length<=4096/\0<=a/\a<=b/\b<=(s.length:Int)),none,.bool (jj s a b c).1,[(900,.box (.agg [.str s,.int .i64 ((jj s a b c).2).pos,.lst (.st .token) ((jj s a b c).2).out (some 901),.int .i64 ((jj s a b c).2).err,.int .i64 ((jj s a b c).2).fat])),(901,.tail (.st .token) ((jj s a b c).2).out.length)]⟩):=
 Ju (ee func83) fun s c n a b ho=>g0 (sc Du (sc qA sn)) a0 func83 (GV s c n a b (ho _ rfl))
theorem Kz:ab prog 125 (pCt fun s c n k t fr=>⟨some (n=c.out.length/\(n+1) *32<=140737488355328),none,.bool true,[(902,.box (.agg [.str s,.int .i64 ((ji k t fr c).2).pos,.lst (.st .token) ((ji k t fr c).2).out (some 903),.int .i64 ((ji k t fr c).2).err,.int .i64 ((ji k t fr c).2).fat])),(903,.tail (.st .token) (n+1))]⟩):=
 Nz (ee func125) fun s c n k t fr ho=>g0 sn a0 func125 (Ms s c n k t fr (ho _ rfl))
theorem AT:ab prog 136 (pC0 fun s c n=>⟨some (n=c.out.length/\n<=4096/\s.length<=4096/\0<=c.pos/\c.pos<=(s.length:Int)/\c.pos<(s.length:Int)),none,.tup [.str (di s c).1,.bool (di s c).2.1],[(900,.box (.agg [.str s,.int .i64 ((di s c).2.2).pos,.lst (.st .token) ((di s c).2.2).out (some 901),.int .i64 ((di s c).2.2).err,.int .i64 ((di s c).2.2).fat])),(901,.tail (.st .token) ((di s c).2.2).out.length)]⟩):=
 Jt (ee func136) fun s c n ho=>g1 nn (fun f=>if Nat.beq f 80||Nat.beq f 81 then[some 2]else[]) nn nn nn (sc qz (sc qA (sc (v7) (sc Dt (sc tY sn))))) ⟨[(4,fun S0=>⟨Nat×Str×SC,fun y=>y.2.2.out=c.out/\y.2.2.err=c.err/\y.2.2.fat=c.fat/\0<=y.2.2.pos/\y.2.2.pos<=(s.length:Int)/\(y.2.1.length:Int)<=y.2.2.pos/\(s.length:Int)<y.2.2.pos+(y.1:Int)/\di s c=eY s c.pos y.1 y.2.1 y.2.2,fun y=>[(5,.lst (.int .u8) (aT y.2.1) (some 701))],fun y=>[(900,.box (.agg [.str s,.int .i64 (y.2.2).pos,.lst (.st .token) (y.2.2).out (some 901),.int .i64 (y.2.2).err,.int .i64 (y.2.2).fat])),(701,.tail (.int .u8) (aT y.2.1).length)],fun y=>y.1⟩)],[],[]⟩ func136 (D1 s c n (ho _ rfl))
theorem KA:ab prog 137 (p1 .str fun s=>.ret (.bool (j7 s))):=
 b7 (ee func137) fun s _ _=>g0 (sc (xJ) sn) a0 func137 (Mt s)
theorem Dx:ab prog 84 (pC0 fun s c n=>⟨some (n=c.out.length/\n<=4096/\s.length<=4096/\0<=c.pos/\c.pos<=(s.length:Int)/\c.pos<(s.length:Int)),none,.bool (bw s c).1,[(900,.box (.agg [.str s,.int .i64 ((bw s c).2).pos,.lst (.st .token) ((bw s c).2).out (some 901),.int .i64 ((bw s c).2).err,.int .i64 ((bw s c).2).fat])),(901,.tail (.st .token) ((bw s c).2).out.length)]⟩):=
 Jt (ee func84) fun s c n ho=>g1 nn (fun f=>if Nat.beq f 80||Nat.beq f 81 then[some 2]else[]) nn nn (fun d=>Nat.beq d 21) (sc qz (sc lu (sc lx (sc Dq (sc Ap (sc Kz (sc nj (sc qy (sc qA (sc qx (sc Dr (sc (zZ) (sc Dw (sc AT (sc KA sn))))))))))))))) ⟨[(24,fun S0=>⟨Nat,fun k=>k<=2/\(k<=1->iG s c.pos 2=false)/\(k=0->iG s c.pos 1=false),fun k=>[(12,.int .i64 k)],fun k=>[],fun k=>k⟩)],[],[]⟩ func84 (GW s c n (ho _ rfl))
theorem AU:ab prog 41 (p1 .str fun s=>.ret (.tup [.lst (.st .token) (cy s).1 none,.st .fault (cy s).2])):=
 b7 (ee func41) fun s hs _=>g1 nn (fun f=>if Nat.beq f 80||Nat.beq f 81 then[some 2]else[]) nn nn nn (sc qz (sc Ds (sc tY (sc Dx sn)))) ⟨[(4,fun S0=>⟨Nat×SC,fun y=>(y.2.out.length:Int)<=y.2.pos/\(s.length:Int)<y.2.pos+(y.1:Int)/\0<=y.2.pos/\y.2.pos<=(s.length:Int)/\cy s=k8 s y.1 y.2,fun y=>[],fun y=>[(14,.box (.agg [.str s,.int .i64 (y.2).pos,.lst (.st .token) (y.2).out (some 701),.int .i64 (y.2).err,.int .i64 (y.2).fat])),(701,.tail (.st .token) y.2.out.length)],fun y=>y.1⟩)],[],[]⟩ func41 (Mu s hs)
theorem wc:ab prog 15 (p2 (.lst (.st .token)) (.int .i64) fun l a=>⟨some (aO l),none,.tup [.st .term (bS l a).1,.int .i64 (bS l a).2.1,.st .fault (bS l a).2.2],[]⟩):=
 dB (ee func15) fun l a hl _ ho=>g0 (sc w7 (sc eK (sc hX (sc (AF 5000) (sc Dn (sc ja sn)))))) a0 func15 (Kg l a hl (ho _ rfl))
theorem y8:ab prog 18 (p1 .str fun s=>.ret (.tup [.st .shape (qv s).1,.st .fault (qv s).2])):=
 b7 (ee func18) fun s _ _=>g0 (sc AU (sc Kw (sc tR sn))) a0 func18 (Am s)
theorem y9:ab prog 20 (p1 .str fun s=>.ret (.tup [.st .term (qw s).1,.st .fault (qw s).2])):=
 b7 (ee func20) fun s _ _=>g0 (sc AU (sc wc (sc tR sn))) a0 func20 (Ao s)
end Go.AL.Seat
end
section
namespace Go.Pd
open Go.AL
mutual
def sizeF:Shape->Int->Int
 |⟨_,_,_,_,ps⟩,m=>sizeL ps 1 m
def sizeL:List Shape->Int->Int->Int
 |[],n,_=>n
 |p::r,n,m=>if n<=m then sizeL r (n+sizeF p (m-n)) m else n
end
mutual
theorem sizeF_bd:∀(s:Shape)(m:Int),0<=m->1<=sizeF s m/\sizeF s m<=m+1
 |⟨_,_,_,_,ps⟩,m,h=>by simp only[sizeF];exact sizeL_bd ps 1 m (by omega) (by omega)
theorem sizeL_bd:∀(l:List Shape)(n m:Int),1<=n->n<=m+1->1<=sizeL l n m/\sizeL l n m<=m+1
 |[],n,m,h1,h2=>by simp only[sizeL];omega
 |p::r,n,m,h1,h2=>by
  simp only[sizeL];split
  ·have:=sizeF_bd p (m-n) (by omega);exact sizeL_bd r _ m (by omega) (by omega)
  ·omega
end
def dq:Str->Nat
 |[]=>0
 |b::r=>if cd (bI b)=true then dq r+1 else 0
theorem we:∀s:Str,(dq s=s.length↔(s.all fun c=>cd (bI c))=true)
 |[]=>by simp[dq]
 |b::r=>by
  simp only[dq,OP,P4,OF];by_cases h:cd (bI b)=true
  ·rw[OB h,<-we r];constructor
   ·intro e;exact⟨h,by omega⟩
   ·rintro⟨_,e⟩;omega
  ·rw[OA h];constructor
   ·intro e;omega
   ·rintro⟨e,_⟩;exact absurd e h
theorem tZ:∀s:Str,dq s<=s.length
 |[]=>ON _
 |b::r=>by have:=tZ r;simp only[dq,OP];split<;>omega
theorem rA(first:Int->Bool)(s:Str):eh first s=(!decide (s=[])&&decide (s.length<=24)&&first (bI (s.getD 0 0))&&decide (dq s=s.length)):=by unfold eh;congr 1;rw[Qk,OK];exact(we s).symm
def jx(ns:List Str)(n:Int):Bool:=decide ((ns.length:Int)=n)&&ns.all aX&&decide ns.Nodup
mutual
def deepF:Shape->Nat
 |⟨_,_,_,_,ps⟩=>maxDeep ps+1
def maxDeep:List Shape->Nat
 |[]=>0
 |p::r=>max (deepF p) (maxDeep r)
end
mutual
theorem deepS_F:∀(s:Shape)(l:Int),deepS s l=l+deepF s-1
 |⟨_,_,_,_,ps⟩,l=>by simp only[deepS,deepF];rw[deepL_F ps (l+1) l (by omega)];omega
theorem deepL_F:∀(ps:List Shape)(m d:Int),m-1<=d->deepL ps m d=max d (m+maxDeep ps-1)
 |[],m,d,h=>by simp only[deepL,maxDeep];omega
 |p::r,m,d,h=>by simp only[deepL,maxDeep];rw[deepL_F r m _ (by omega),deepS_F p m];omega
end
mutual
theorem deepF_sz:∀s:Shape,deepF s<=sz s
 |⟨_,_,_,_,ps⟩=>by have:=maxDeep_sz ps;simp only[deepF,sz];omega
theorem maxDeep_sz:∀l:List Shape,maxDeep l<=szL l
 |[]=>ON _
 |p::r=>by have:=deepF_sz p;have:=maxDeep_sz r;simp only[maxDeep,szL];omega
end
mutual
theorem sizeF_eq:∀(s:Shape)(m:Int),0<=m->sizeF s m=min (sz s:Int) (m+1)
 |⟨_,_,_,_,ps⟩,m,h=>by simp only[sizeF,sz];rw[sizeL_eq ps 1 m (by omega)];omega
theorem sizeL_eq:∀(l:List Shape)(n m:Int),n<=m+1->sizeL l n m=min (n+szL l) (m+1)
 |[],n,m,h=>by simp only[sizeL,szL];omega
 |p::r,n,m,h=>by
  simp only[sizeL,szL];have:=jV p;split
  ·rw[sizeF_eq p (m-n) (by omega),sizeL_eq r _ m (by omega)];omega
  ·omega
end
theorem NN(s:Shape):bD s=if 400<sizeF s 400 then 3 else if 40<(deepF s:Int)then 91 else if allS bK s=true then 0 else 70:=by
 unfold bD;rw[sizeF_eq s 400 (by omega),deepS_F];have e:(1:Int)+deepF s-1=deepF s:=by omega
 rw[e];by_cases h:400<sz s
 ·rw[OB h,OB (show(400:Int)<min (sz s:Int) (400+1) by omega)]
 ·rw[OA h,OA (show ¬(400:Int)<min (sz s:Int) (400+1) by omega)]
end Go.Pd
end
section
namespace Go.Pd
open Go.AL
def fX(p:Int):Bool:=decide (0<=p)&&decide (p<=1114111)&&(decide (p<55296)||decide (57343<p))
def lA(n:Int):UInt8:=UInt8.ofNat n.toNat
def ez(p:Int):Str:=
 if p<128 then[lA p]
 else if p<2048 then[lA (192+p/64),lA (128+p%64)]
 else if p<65536 then[lA (224+p/4096),lA (128+p/64%64),lA (128+p%64)]
 else[lA (240+p/262144),lA (128+p/4096%64),lA (128+p/64%64),lA (128+p%64)]
def dm(s:Str):Nat:=if 240<=bI (s.getD 0 0)then 4 else if 224<=bI (s.getD 0 0)then 3 else if 192<=bI (s.getD 0 0)then 2 else 1
def iu(s:Str):Int:=if 240<=bI (s.getD 0 0)then bI (s.getD 0 0)-240 else if 224<=bI (s.getD 0 0)then bI (s.getD 0 0)-224 else if 192<=bI (s.getD 0 0)then bI (s.getD 0 0)-192 else bI (s.getD 0 0)
def bf(s:Str):Nat->Int
 |0=>iu s
 |1=>iu s
 |k+2=>bf s (k+1) *64+bI (s.getD (k+1) 0)-128
def hZ(s:Str):Int×Int:=
 if s=[]then(0,0)else if s.length<dm s then(0,0)
 else if fX (bf s (dm s))=true/\ez (bf s (dm s))=s.take (dm s)then(bf s (dm s),dm s)else(0,0)
abbrev TK3:=Tokn×Int×Flt
def Dy:Tokn:=⟨0,[],0⟩
def qB:TK3:=(Dy,0,⟨60,0⟩)
def okK(k:Int)(t:Str)(n:Int):TK3:=(⟨k,t,0⟩,n,⟨0,0⟩)
def rB(s:Str):Bool:=s.all cI&&decide (1<=s.length)&&decide (s.length<=15)&&(decide (s.length=1)||!decide (bI (s.getD 0 0)=48))
def dr(s:Str):Nat->Str->Nat->TK3
 |0,_,_=>qB
 |n+1,acc,i=>
  if i<s.length then
   if bI (s.getD i 0)=34 then okK 4 acc (i+1)
   else if bI (s.getD i 0)<32 then qB
   else if bI (s.getD i 0)=92 then
    if i+1=s.length then qB
    else match lh (bI (s.getD (i+1) 0))with
     |none=>qB
     |some x=>dr s n (acc++[UInt8.ofNat x.toNat]) (i+2)
   else if dE (s.drop i)=0 then(Dy,0,⟨30,i⟩)
   else dr s n (acc++(s.drop i).take (dE (s.drop i))) (i+dE (s.drop i))
  else qB
def dC(s:Str):TK3:=dr s (s.length+2) [] 1
def pJ(s:Str):TK3:=
 if l9 (s.take (dq s))=true then okK 5 (s.take (dq s)) (dq s)
 else if aX (s.take (dq s))=true then okK 1 (s.take (dq s)) (dq s)
 else if dH (s.take (dq s))=true then okK 2 (s.take (dq s)) (dq s)
 else qB
def pK(t:Str)(n:Int):TK3:=
 if rB t=true then okK 3 t n else if(cz t).2=0 then okK 7 t n else qB
def s9(s:Str):TK3:=
 if 2<=s.length/\j7 (s.take 2)=true then okK 6 (s.take 2) 2 else if j7 (s.take 1)=true then okK 6 (s.take 1) 1 else qB
def cC(s:Str):TK3:=
 if bV (bI (s.getD 0 0))=true∨cb (bI (s.getD 0 0))=true then pJ s
 else if aY (bI (s.getD 0 0))=true then pK (s.take (aq aZ s 0)) (aq aZ s 0)
 else if bI (s.getD 0 0)=34 then dC s
 else s9 s
def nk(s:Str):Nat->Nat->Int×Flt
 |0,n=>(n,⟨0,0⟩)
 |f+1,n=>if n<s.length/\bI (s.getD n 0)≠10 then(if dE (s.drop n)=0 then(0,⟨30,n⟩)else nk s f (n+dE (s.drop n)))else(n,⟨0,0⟩)
def cw(s:Str):Int×Flt:=
 if s.length<=aq bm s 0+1∨bI (s.getD (aq bm s 0) 0)≠45∨bI (s.getD (aq bm s 0+1) 0)≠45 then((aq bm s 0:Int),⟨0,0⟩)else nk s (s.length+1) (aq bm s 0)
def MC(t:Tokn)(a:Int):Tokn:=⟨t.kind,t.text,a⟩
def jl(s:Str):Nat->Nat->List Tokn->List Tokn×Flt
 |0,_,_=>([],⟨0,0⟩)
 |f+1,a,out=>
  if a<s.length then
   if ¬(cw (s.drop a)).2.err=0 then([],⟨(cw (s.drop a)).2.err,a+(cw (s.drop a)).2.pos⟩)
   else if 0<(cw (s.drop a)).1 then jl s f (a+(cw (s.drop a)).1.toNat) out
   else if ¬(cC (s.drop a)).2.2.err=0 then([],⟨(cC (s.drop a)).2.2.err,a+(cC (s.drop a)).2.2.pos⟩)
   else jl s f (a+(cC (s.drop a)).2.1.toNat) (out++[MC (cC (s.drop a)).1 a])
  else(out++[⟨0,[],(s.length:Int)⟩],⟨0,0⟩)
def bR(s:Str):List Tokn×Flt:=if 4096<s.length then([],⟨3,4096⟩)else jl s (s.length+2) 0 []
end Go.Pd
end
section
namespace Go.Pd
open Go.AL
theorem Dz(s:Str):decide (s∈([[40],[41],[123],[125],[91],[93],[60],[62],[60,61],[62,61],[61],[94],[42],[44],[58],[46],[47],[64],[124],[45,62]]:List Str))=j7 s:=by
 unfold j7 Js
 match s with
 |[]=>decide
 |[a]=>simp[eq_comm]
 |[a,b]=>simp only[OT,PG,Qy,or_false,false_or,reduceCtorEq,Ru,OP,P7,Bool.decide_or];simp only[QC,Bool.false_or,Ri,Pb];simp[Bool.or_assoc]
 |a::b::c::r=>simp
theorem Ho(s:Str):s∈([[40],[41],[123],[125],[91],[93],[60],[62],[60,61],[62,61],[61],[94],[42],[44],[58],[46],[47],[64],[124],[45,62]]:List Str)↔j7 s=true:=by rw[<-Dz];exact Qg.symm
theorem gp{n:Int}{b:UInt8}(h0:0<=n)(h1:n<=255):lA n=b↔n=bI b:=by
 unfold lA bI;constructor
 ·intro e;rw[<-e,UInt8.toNat_ofNat'];have:n.toNat%2 ^ 8=n.toNat:=Rf (by omega);rw[this];omega
 ·intro e;rw[e,OH];exact UInt8.ofNat_toNat
theorem KB{p:Int}(h:0<=p)(a:UInt8):ez p=[a]↔p<128/\p=bI a:=by
 unfold ez;split
 ·simp only[PG,Pb];rw[gp h (by omega)];omega
 ·refine⟨fun e=>?_,fun e=>by omega⟩;revert e;split<;>(try split)<;>simp
theorem KC{p:Int}(h:0<=p)(a b:UInt8):ez p=[a,b]↔128<=p/\p<2048/\192+p/64=bI a/\128+p%64=bI b:=by
 unfold ez;split
 ·refine⟨fun e=>?_,fun e=>by omega⟩;simp at e
 split
 ·simp only[PG,Pb];rw[gp (by omega) (by omega),gp (by omega) (by omega)];omega
 ·refine⟨fun e=>?_,fun e=>by omega⟩;revert e;split<;>simp
theorem KD{p:Int}(h:0<=p)(a b c:UInt8):ez p=[a,b,c]↔2048<=p/\p<65536/\224+p/4096=bI a/\128+p/64%64=bI b/\128+p%64=bI c:=by
 unfold ez;split
 ·refine⟨fun e=>?_,fun e=>by omega⟩;simp at e
 split
 ·refine⟨fun e=>?_,fun e=>by omega⟩;simp at e
 split
 ·simp only[PG,Pb];rw[gp (by omega) (by omega),gp (by omega) (by omega),gp (by omega) (by omega)];omega
 ·refine⟨fun e=>?_,fun e=>by omega⟩;simp at e
theorem KE{p:Int}(h:0<=p)(hp:p<=1114111)(a b c d:UInt8):ez p=[a,b,c,d]↔65536<=p/\240+p/262144=bI a/\128+p/4096%64=bI b/\128+p/64%64=bI c/\128+p%64=bI d:=by
 unfold ez;split
 ·refine⟨fun e=>?_,fun e=>by omega⟩;simp at e
 split
 ·refine⟨fun e=>?_,fun e=>by omega⟩;simp at e
 split
 ·refine⟨fun e=>?_,fun e=>by omega⟩;simp at e
 ·simp only[PG,Pb];rw[gp (by omega) (by omega),gp (by omega) (by omega),gp (by omega) (by omega),gp (by omega) (by omega)];omega
theorem lX(p:Int):fX p=true↔0<=p/\p<=1114111/\(p<55296∨57343<p):=by unfold fX;simp only[OF,PM,OK,and_assoc]
theorem nr(s:Str):(hZ s).2=(dE s:Int):=by
 match s with
 |[]=>rfl
 |b::r=>
  rw[Jw];have hb:=Qz b;have e0:bI ((b::r).getD 0 0)=(b.toNat:Int):=rfl;unfold hZ;rw[OA (List.cons_ne_nil _ _)];by_cases c4:240<=(b.toNat:Int)
  ·have hL:dm (b::r)=4:=by unfold dm;rw[e0,OB c4]
   rw[hL]
   match r with
   |[]=>rw[OB (by simp)];unfold n5;simp only[P7];(repeat' split)<;>first|rfl|omega
   |[c1]=>rw[OB (by simp)];unfold n5;simp only[OP,P7];(repeat' split)<;>first|rfl|omega
   |[c1,c2]=>rw[OB (by simp)];unfold n5;simp only[OP,P7];(repeat' split)<;>first|rfl|omega
   |c1::c2::c3::r=>
    have h1:=Qz c1;have h2:=Qz c2;have h3:=Qz c3
    have hf:bf (b::c1::c2::c3::r) 4=((((b.toNat:Int)-240) *64+c1.toNat-128) *64+c2.toNat-128) *64+c3.toNat-128:=by
     have:iu (b::c1::c2::c3::r)=(b.toNat:Int)-240:=by unfold iu;rw[show bI ((b::c1::c2::c3::r).getD 0 0)=(b.toNat:Int)from rfl,OB c4]
     unfold bf bf bf bf;rw[this];rfl
    rw[OA (by simp),hf];have ht:(b::c1::c2::c3::r).take 4=[b,c1,c2,c3]:=rfl;rw[ht];generalize hp:((((b.toNat:Int)-240) *64+c1.toNat-128) *64+c2.toNat-128) *64+c3.toNat-128=p;have key:(fX p=true/\ez p=[b,c1,c2,c3])↔(0<=p/\p<=1114111/\(p<55296∨57343<p))/\(65536<=p/\240+p/262144=(b.toNat:Int)/\128+p/4096%64=(c1.toNat:Int)/\128+p/64%64=(c2.toNat:Int)/\128+p%64=(c3.toNat:Int)):=by rw[lX];exact and_congr_right fun e=>KE e.1 e.2.1 _ _ _ _
    unfold n5;simp only[OP,QY,Qu];rw[show p/4096=p/64/64 by omega,show p/262144=p/64/64/64 by omega]at key;generalize hu:p/64=u at key;generalize hv:u/64=v at key;generalize hw:v/64=w at key;split
    ·next h=>
     have h:=key.1 h;have x0:b.toNat/8=30/\c1.toNat/64=2/\c2.toNat/64=2/\c3.toNat/64=2:=by omega
     have x1:b.toNat%8 *262144+c1.toNat%64 *4096+c2.toNat%64 *64+c3.toNat%64=p.toNat:=by omega
     rw[x1,OA (by omega),OA (by omega),OA (by omega),OB ⟨x0.1,⟨by omega,x0.2.1⟩,⟨by omega,x0.2.2.1⟩,by omega,x0.2.2.2⟩,OB (by omega)]
    ·next h=>
     by_cases x0:b.toNat/8=30/\c1.toNat/64=2/\c2.toNat/64=2/\c3.toNat/64=2
     ·have x1:((b.toNat%8 *262144+c1.toNat%64 *4096+c2.toNat%64 *64+c3.toNat%64:Nat):Int)=p:=by omega
      have x2:¬((b.toNat%8 *262144+c1.toNat%64 *4096+c2.toNat%64 *64+c3.toNat%64)≥65536/\((b.toNat%8 *262144+c1.toNat%64 *4096+c2.toNat%64 *64+c3.toNat%64)<55296∨57344<=(b.toNat%8 *262144+c1.toNat%64 *4096+c2.toNat%64 *64+c3.toNat%64)/\(b.toNat%8 *262144+c1.toNat%64 *4096+c2.toNat%64 *64+c3.toNat%64)<=1114111)):=fun e=>h (key.2 ⟨by omega,by omega⟩);rw[OA (by omega),OA (by omega),OA (by omega),OB ⟨x0.1,⟨by omega,x0.2.1⟩,⟨by omega,x0.2.2.1⟩,by omega,x0.2.2.2⟩,OA x2];rfl
     ·rw[OA (by omega),OA (by omega),OA (by omega),OA (fun e=>x0 ⟨e.1,e.2.1.2,e.2.2.1.2,e.2.2.2.2⟩)];rfl
  by_cases c3:224<=(b.toNat:Int)
  ·have hL:dm (b::r)=3:=by unfold dm;rw[e0,OA c4,OB c3]
   rw[hL]
   match r with
   |[]=>rw[OB (by simp)];unfold n5;simp only[P7];(repeat' split)<;>first|rfl|omega
   |[c1]=>rw[OB (by simp)];unfold n5;simp only[OP,P7];(repeat' split)<;>first|rfl|omega
   |c1::c2::r=>
    have h1:=Qz c1;have h2:=Qz c2
    have hf:bf (b::c1::c2::r) 3=(((b.toNat:Int)-224) *64+c1.toNat-128) *64+c2.toNat-128:=by
     have:iu (b::c1::c2::r)=(b.toNat:Int)-224:=by unfold iu;rw[show bI ((b::c1::c2::r).getD 0 0)=(b.toNat:Int)from rfl,OA c4,OB c3]
     unfold bf bf bf;rw[this];rfl
    rw[OA (by simp),hf];have ht:(b::c1::c2::r).take 3=[b,c1,c2]:=rfl;rw[ht];generalize hp:(((b.toNat:Int)-224) *64+c1.toNat-128) *64+c2.toNat-128=p;have key:(fX p=true/\ez p=[b,c1,c2])↔(0<=p/\p<=1114111/\(p<55296∨57343<p))/\(2048<=p/\p<65536/\224+p/4096=(b.toNat:Int)/\128+p/64%64=(c1.toNat:Int)/\128+p%64=(c2.toNat:Int)):=by rw[lX];exact and_congr_right fun e=>KD e.1 _ _ _
    unfold n5;simp only[OP,QY,Qu];rw[show p/4096=p/64/64 by omega]at key;generalize hu:p/64=u at key;generalize hv:u/64=v at key;split
    ·next h=>
     have h:=key.1 h;have x0:b.toNat/16=14/\c1.toNat/64=2/\c2.toNat/64=2:=by omega
     have x1:b.toNat%16 *4096+c1.toNat%64 *64+c2.toNat%64=p.toNat:=by omega
     rw[x1,OA (by omega),OA (by omega),OB ⟨x0.1,⟨by omega,x0.2.1⟩,by omega,x0.2.2⟩,OB (by omega)]
    ·next h=>
     by_cases x0:b.toNat/16=14/\c1.toNat/64=2/\c2.toNat/64=2
     ·have x1:((b.toNat%16 *4096+c1.toNat%64 *64+c2.toNat%64:Nat):Int)=p:=by omega
      have x2:¬((b.toNat%16 *4096+c1.toNat%64 *64+c2.toNat%64)≥2048/\((b.toNat%16 *4096+c1.toNat%64 *64+c2.toNat%64)<55296∨57344<=(b.toNat%16 *4096+c1.toNat%64 *64+c2.toNat%64)/\(b.toNat%16 *4096+c1.toNat%64 *64+c2.toNat%64)<=1114111)):=fun e=>h (key.2 ⟨by omega,by omega⟩);rw[OA (by omega),OA (by omega),OB ⟨x0.1,⟨by omega,x0.2.1⟩,by omega,x0.2.2⟩,OA x2];rfl
     ·rw[OA (by omega),OA (by omega),OA (fun e=>x0 ⟨e.1,e.2.1.2,e.2.2.2⟩),OA (by omega)];rfl
  by_cases c2:192<=(b.toNat:Int)
  ·have hL:dm (b::r)=2:=by unfold dm;rw[e0,OA c4,OA c3,OB c2]
   rw[hL]
   match r with
   |[]=>rw[OB (by simp)];unfold n5;simp only[P7];(repeat' split)<;>first|rfl|omega
   |c1::r=>
    have h1:=Qz c1
    have hf:bf (b::c1::r) 2=((b.toNat:Int)-192) *64+c1.toNat-128:=by
     have:iu (b::c1::r)=(b.toNat:Int)-192:=by unfold iu;rw[show bI ((b::c1::r).getD 0 0)=(b.toNat:Int)from rfl,OA c4,OA c3,OB c2]
     unfold bf bf;rw[this];rfl
    rw[OA (by simp),hf];have ht:(b::c1::r).take 2=[b,c1]:=rfl;rw[ht];generalize hp:((b.toNat:Int)-192) *64+c1.toNat-128=p;have key:(fX p=true/\ez p=[b,c1])↔(0<=p/\p<=1114111/\(p<55296∨57343<p))/\(128<=p/\p<2048/\192+p/64=(b.toNat:Int)/\128+p%64=(c1.toNat:Int)):=by rw[lX];exact and_congr_right fun e=>KC e.1 _ _
    unfold n5;simp only[OP,QY,Qu];generalize hu:p/64=u at key;split
    ·next h=>
     have h:=key.1 h;have x0:b.toNat/32=6/\c1.toNat/64=2:=by omega
     have x1:b.toNat%32 *64+c1.toNat%64=p.toNat:=by omega
     rw[x1,OA (by omega),OB ⟨x0.1,by omega,x0.2⟩,OB (by omega)]
    ·next h=>
     by_cases x0:b.toNat/32=6/\c1.toNat/64=2
     ·have x1:((b.toNat%32 *64+c1.toNat%64:Nat):Int)=p:=by omega
      generalize b.toNat%32 *64+c1.toNat%64=q at x1⊢;have x2:¬(q≥128):=fun e=>h (key.2 ⟨by omega,by omega⟩);rw[OA (by omega),OB ⟨x0.1,by omega,x0.2⟩,OA x2];rfl
     ·rw[OA (by omega),OA (fun e=>x0 ⟨e.1,e.2.2⟩),OA (by omega),OA (by omega)];rfl
  ·have hL:dm (b::r)=1:=by unfold dm;rw[e0,OA c4,OA c3,OA c2]
   rw[hL,OA (by simp)];have hf:bf (b::r) 1=(b.toNat:Int):=by unfold bf iu;rw[e0,OA c4,OA c3,OA c2]
   rw[hf];have ht:(b::r).take 1=[b]:=rfl;rw[ht]
   have key:(fX (b.toNat:Int)=true/\ez (b.toNat:Int)=[b])↔(b.toNat:Int)<128:=by
    rw[lX,KB (by omega)];constructor
    ·exact fun e=>e.2.1
    ·exact fun e=>⟨by omega,e,rfl⟩
   by_cases h:b.toNat<128
   ·rw[OB (key.2 (by omega))];unfold n5;rw[OB h]
   ·rw[OA (fun e=>h (by have:=key.1 e;omega))];unfold n5;rw[OA h,OA (by omega),OA (by omega),OA (by omega)];rfl
theorem MD(s:Str):dE s<=s.length:=by
 by_cases h:s=[]
 ·subst h;exact ON _
 by_cases e:dE s=0
 ·omega
 obtain⟨_,h2,_,_,h5⟩:=lj h;have:=h2 e;omega
theorem lY{s:Str}{n:Nat}(h:n<=s.length):n+dE (s.drop n)<=s.length:=by have:=MD (s.drop n);rw[PK]at this;omega
theorem nS{s:Str}{x:Nat}(h:x<s.length)(hb:bm (bI (s.getD x 0))=true)(w:aq bm s 0=x+aq bm s (x:Int)):aq bm s 0=(x+1:Nat)+aq bm s ((x+1:Nat):Int):=by have:=dp (pr:=bm) (s:=s) (a:=(x:Int)) (by omega) (by omega) (by rw[OH];exact hb);have e:((x+1:Nat):Int)=(x:Int)+1:=rfl;rw[e];omega
theorem DA{s:Str}{x:Nat}(h:x<s.length)(hb:bm (bI (s.getD x 0))=false)(w:aq bm s 0=x+aq bm s (x:Int)):aq bm s 0=x:=by have:=gL (pr:=bm) (s:=s) (a:=(x:Int)) (by omega) (by omega) (by rw[OH];exact hb);omega
theorem Hp{s:Str}{x:Nat}(h:s.length<=x)(w:aq bm s 0=x+aq bm s (x:Int)):aq bm s 0=x:=by have:=iH (pr:=bm) (s:=s) (a:=(x:Int)) (by omega);omega
theorem u4(s:Str):∀(f n:Nat),n<=s.length->0<=(nk s f n).1/\(nk s f n).1<=(s.length:Int)/\0<=(nk s f n).2.pos/\(nk s f n).2.pos<=(s.length:Int)
 |0,n,h=>⟨QE n,by show(n:Int)<=_;omega,P8 0,by show(0:Int)<=_;omega⟩
 |f+1,n,h=>by
  unfold nk;split
  ·split
   ·exact⟨P8 0,by show(0:Int)<=_;omega,QE n,by show(n:Int)<=_;omega⟩
   ·exact u4 s f _ (lY h)
  ·exact⟨QE n,by show(n:Int)<=_;omega,P8 0,by show(0:Int)<=_;omega⟩
theorem yb(s:Str):0<=(cw s).1/\(cw s).1<=(s.length:Int)/\0<=(cw s).2.pos/\(cw s).2.pos<=(s.length:Int):=by
 have h:=eE (pr:=bm) (s:=s) (a:=0) (P8 0) (by omega);unfold cw;split
 ·exact⟨QE _,by show((aq bm s 0:Nat):Int)<=_;omega,P8 0,by show(0:Int)<=_;omega⟩
 ·exact u4 s _ _ (by omega)
def ME(s:Str)(x:TK3):Prop:=(x.2.2.err=0->1<=x.2.1/\x.2.1<=(s.length:Int))/\0<=x.2.2.pos/\x.2.2.pos<=(s.length:Int)
theorem kB(s:Str):ME s qB:=⟨fun e=>absurd e (by decide),P8 0,by show(0:Int)<=_;omega⟩
theorem nt{s:Str}{k n:Int}{t:Str}(h1:1<=n)(h2:n<=(s.length:Int)):ME s (okK k t n):=⟨fun _=>⟨h1,h2⟩,P8 0,by show(0:Int)<=_;omega⟩
theorem lZ(s:Str):∀(f:Nat)(acc:Str)(i:Nat),i<=s.length->ME s (dr s f acc i)
 |0,_,_,_=>kB s
 |f+1,acc,i,h=>by
  unfold dr;split
  ·split
   ·exact nt (by omega) (by omega)
   split
   ·exact kB s
   split
   ·split
    ·exact kB s
    split
    ·exact kB s
    ·exact lZ s f _ _ (by omega)
   split
   ·exact⟨fun e=>absurd e (by decide:¬(30:Int)=0),QE i,by show(i:Int)<=_;omega⟩
   ·exact lZ s f _ _ (lY h)
  ·exact kB s
theorem Hq{s:Str}(h:s≠[])(hb:cd (bI (s.getD 0 0))=true):1<=dq s:=by
 match s with
 |[]=>exact absurd rfl h
 |b::r=>have hb:cd (bI b)=true:=hb;unfold dq;rw[OB hb];omega
theorem DB{s:Str}(h:0<s.length):ME s (cC s):=by
 have hl:=tZ s;have hw:=eE (pr:=aZ) (s:=s) (a:=0) (P8 0) (by omega);unfold cC;split
 ·next hb=>
  have hp:=Hq (s:=s) (by intro e;rw[e]at h;exact absurd h (by decide)) (by unfold cd;rcases hb with e|e<;>rw[e]<;>simp only[QU,PN]);unfold pJ;split
  ·exact nt (by omega) (by omega)
  split
  ·exact nt (by omega) (by omega)
  split
  ·exact nt (by omega) (by omega)
  ·exact kB s
 split
 ·next hd=>
  have hp:=dp (pr:=aZ) (s:=s) (a:=0) (P8 0) (by omega) (by show aZ (bI (s.getD 0 0))=true;unfold aZ;rw[hd];simp only[QU,PN]);unfold pK;split
  ·exact nt (by omega) (by omega)
  split
  ·exact nt (by omega) (by omega)
  ·exact kB s
 split
 ·exact lZ s _ _ _ h
 ·unfold s9;split
  ·exact nt (by omega) (by omega)
  split
  ·exact nt (by omega) (by omega)
  ·exact kB s
theorem nu{s:Str}{x:Nat}(h:x<s.length)(hb:aZ (bI (s.getD x 0))=true)(w:aq aZ s 0=x+aq aZ s (x:Int)):aq aZ s 0=(x+1:Nat)+aq aZ s ((x+1:Nat):Int):=by have:=dp (pr:=aZ) (s:=s) (a:=(x:Int)) (by omega) (by omega) (by rw[OH];exact hb);have e:((x+1:Nat):Int)=(x:Int)+1:=rfl;rw[e];omega
theorem Hr{s:Str}{x:Nat}(h:x<s.length)(hb:aZ (bI (s.getD x 0))=false)(w:aq aZ s 0=x+aq aZ s (x:Int)):aq aZ s 0=x:=by have:=gL (pr:=aZ) (s:=s) (a:=(x:Int)) (by omega) (by omega) (by rw[OH];exact hb);omega
theorem KF{s:Str}{x:Nat}(h:s.length<=x)(w:aq aZ s 0=x+aq aZ s (x:Int)):aq aZ s 0=x:=by have:=iH (pr:=aZ) (s:=s) (a:=(x:Int)) (by omega);omega
end Go.Pd
end
section
namespace Go.Pd
open Go.AL
def Oa:Str:=[48,49,50,51,52,53,54,55,56,57]
def mr(d:Nat):Str:=(Oa.take (d+1)).drop d
def oK:Nat->Nat->Str->Str
 |0,_,acc=>acc
 |f+1,n,acc=>if 10<=n then oK f (n/10) (mr (n/10%10)++acc)else acc
def ct(n:Int):Str:=oK 20 n.toNat (mr (n.toNat%10))
def jb(v:Vers):Str:=ct v.major++[46]++ct v.minor++[46]++ct v.patch++(if v.pre=[]then[]else[45]++v.pre)
def dL(v:Vers):Str×Int:=if bW v=0 then(jb v,0)else([],40)
theorem pL(d:Nat):(mr d).length<=1:=by unfold mr;rw[PK,Qf];omega
theorem AW:∀(f n:Nat)(acc:Str),(oK f n acc).length<=f+acc.length
 |0,_,acc=>by show acc.length<=_;omega
 |f+1,n,acc=>by
  unfold oK;split
  ·have:=AW f (n/10) (mr (n/10%10)++acc);have h:=pL (n/10%10);rw[OE]at this;omega
  ·omega
theorem u5(n:Int):(ct n).length<=21:=by have:=AW 20 n.toNat (mr (n.toNat%10));have h:=pL (n.toNat%10);unfold ct;omega
theorem nv{v:Vers}(h:bW v=0):(0<=v.major/\v.major<=999999)/\(0<=v.minor/\v.minor<=999999)/\(0<=v.patch/\v.patch<=999999)/\v.pre.length<=24:=by
 unfold bW at h;split at h
 ·exact absurd h (by decide)
 split at h
 ·exact absurd h (by decide)
 omega
def rvL(s:Str):Nat->Nat->Nat->List Int->Option (List Int×Nat)
 |0,_,_,_=>none
 |f+1,i,p,r=>
  if i<s.length/\¬bI (s.getD i 0)=45 then
   if bI (s.getD i 0)=46 then(if 2<p+1 then none else rvL s f (i+1) (p+1) r)
   else if bI (s.getD i 0)<48∨57<bI (s.getD i 0)then none
   else rvL s f (i+1) p (if r.getD p 0<=999999 then r.set p (10 *r.getD p 0+(bI (s.getD i 0)-48))else r)
  else some (r,i)
def dy(s:Str)(r:List Int)(i:Nat):Vers:=⟨r.getD 0 0,r.getD 1 0,r.getD 2 0,if i<s.length then s.drop (i+1)else[]⟩
def ib(s:Str):Option (List Int×Nat)->Vers×Int
 |none=>(noV,40)
 |some (r,i)=>if ¬(dL (dy s r i)).2=0∨¬(dL (dy s r i)).1=s then(noV,40)else(dy s r i,0)
def fG(s:Str):Vers×Int:=if 60<s.length then(noV,40)else ib s (rvL s (s.length+1) 0 0 [0,0,0])
theorem MF{r:List Int}{p:Nat}{v:Int}(hl:r.length=3)(hp:p<=2)(hb:∀k,k<3->0<=r.getD k 0/\r.getD k 0<=99999999)(h0:0<=v)(h1:v<=99999999):∀k,k<3->0<=(r.set p v).getD k 0/\(r.set p v).getD k 0<=99999999:=by
 match r,hl with
 |[a,b,c],_=>
  intro k hk;have e:p=0∨p=1∨p=2:=by omega
  have g:k=0∨k=1∨k=2:=by omega
  rcases e with rfl|rfl|rfl<;>rcases g with rfl|rfl|rfl<;>first|exact⟨h0,h1⟩|exact hb 0 (by decide)|exact hb 1 (by decide)|exact hb 2 (by decide)
end Go.Pd
end
