/- What the functions' conditions say, proved. The contracts of the functions. Plain facts. No condition. -/
import Derived.Test.YtdmbjejhifjhbaaGreatDoorT04
import Derived.KernelRfl
import Derived.Laws.OwnMore
import Derived.Sort.Walk0
import Derived.Test.YtdmbjejhifjhbaaGreatDoorProg
import Derived.WalkKit
set_option linter.all false
set_option maxRecDepth 100000
section
open Go Go.AL Go.Pd
namespace Go.AL.Seat
theorem Fu(n:Nat)(s:Par) (ho:a8 s/\rem s<n+1) :
  let A:=True;let B:=(0:Int);let C:=a7 n;let D:=cr C s;let E:=B=D.1.kind;let F:=[]=D.1.pkg;let G:=[]=D.1.name;let H:=B=D.1.n;let I:=D.1.names=[];let J:=D.1.vars=[];let K:=D.1.shapes=[];let L:=D.1.parts=[];let M:=ai s;let N:=M.pos=D.1.pos;let O:=(1:Int);let P:=inR IntKind.i64 (s.pos+O);let Q:=I/\J/\K/\L/\N/\s.toks=D.2.toks/\s.pos+O=D.2.pos/\s.err=D.2.err/\s.fat=D.2.fat/\A;let R:=(2:Int);let S:=M.text=D.1.name;let T:=([47]:Str);let U:=(cw T {toks:=s.toks,pos:=s.pos+O,err:=s.err,fat:=s.fat:Par});let V:=(5:Int)=D.1.kind;let W:=([116,114,117,101]:Str);let X:=cw W s;let Y:=([102,97,108,115,101]:Str);let Z:=cw Y X;let a:=([40]:Str);let b:=cw a Z;let c:=a7 n b;let d:=([97,115]:Str);let e:=cw d c.2;let f:=bg e;let g:=(cw ([123]:Str) b);let h:=(ab ([44]:Str) ([125]:Str) (aj C) {kind:=(8:Int),pkg:=[],name:=[],n:=B,names:=[],vars:=[],shapes:=[],parts:=[],pos:=M.pos:Trm} g);let i:=(cw ([64]:Str) g);let j:=aE O i;let k:=bP C j.2;let l:=([110,101,119]:Str);let m:=cw l i;let o:=aE R m;let p:=bP C o.2;let q:=([114,97,119]:Str);let r:=cw q m;let t:=aE R r;let u:=bP C t.2;a8 s/\if aQ s=true then A/\E/\F/\G/\H/\I/\J/\K/\L/\N/\s=D.2/\A else if decide (M.kind=(3:Int))=true then P/\js M.text/\A/\O=D.1.kind/\F/\G/\iR M.text=D.1.n/\Q else if decide (M.kind=(4:Int))=true then P/\A/\R=D.1.kind/\F/\S/\H/\Q else if decide (M.kind=O)=true then P/\a8 {toks:=s.toks,pos:=s.pos+O,err:=s.err,fat:=s.fat:Par}/\if isF T {toks:=s.toks,pos:=s.pos+O,err:=s.err,fat:=s.fat:Par}=true then(a8 U/\¬O=B)/\A/\V/\M.text=D.1.pkg/\(aE O U).1.text=D.1.name/\H/\I/\J/\K/\L/\N/\(aE O U).2=D.2/\A else A/\V/\F/\S/\H/\I/\J/\K/\L/\N/\cw T {toks:=s.toks,pos:=s.pos+O,err:=s.err,fat:=s.fat:Par}=D.2/\A else a8 s/\if isF W s=true then A/\(3:Int)=D.1.kind/\F/\G/\H/\I/\J/\K/\L/\N/\cw W s=D.2/\A else a8 X/\if isF Y X=true then A/\(4:Int)=D.1.kind/\F/\G/\H/\I/\J/\K/\L/\N/\cw Y X=D.2/\A else a8 Z/\if isF a Z=true then(a8 b/\rem b<n)/\a8 c.2/\if(!isF d c.2)=true then a8 e/\A/\c.1=D.1/\ak ([41]:Str) e=D.2/\A else a8 e/\a8 f.2/\A/\(15:Int)=D.1.kind/\F/\G/\H/\I/\J/\[f.1]=D.1.shapes/\[c.1]=D.1.parts/\N/\ak ([41]:Str) f.2=D.2/\A else a8 b/\if isF ([123]:Str) b=true then(a8 g/\rem g<=n)/\A/\h.1.kind=D.1.kind/\h.1.pkg=D.1.pkg/\h.1.name=D.1.name/\h.1.n=D.1.n/\h.1.names=D.1.names/\J/\K/\h.1.parts=D.1.parts/\h.1.pos=D.1.pos/\h.2=D.2/\A else a8 g/\if isF ([64]:Str) g=true then(a8 i/\¬O=B)/\(a8 j.2/\rem (ak a j.2)<n)/\A/\(10:Int)=D.1.kind/\F/\j.1.text=D.1.name/\H/\I/\J/\K/\k.1=D.1.parts/\N/\k.2=D.2/\A else a8 i/\if isF l i=true then(a8 m/\¬R=B)/\(a8 o.2/\rem (ak a o.2)<n)/\A/\(16:Int)=D.1.kind/\F/\o.1.text=D.1.name/\H/\I/\J/\K/\p.1=D.1.parts/\N/\p.2=D.2/\A else a8 m/\if isF q m=true then(a8 r/\¬R=B)/\(a8 t.2/\rem (ak a t.2)<n)/\A/\(17:Int)=D.1.kind/\F/\t.1.text=D.1.name/\H/\I/\J/\K/\u.1=D.1.parts/\N/\u.2=D.2/\A else A/\E/\F/\G/\H/\I/\J/\K/\L/\N/\cC (90:Int) M.pos r=D.2/\A:=by
 conv=>zeta
 obtain⟨hi,hn⟩:=ho;obtain⟨G,hG⟩:∃G,G=cr (a7 n) s:=⟨_,rfl⟩;rw[<-hG];unfold cr at hG;have i1:=hi.1;have i2:=hi.2.2.1;have hR:=cD n;refine⟨hi,a6 (fun b=>?_) (fun b=>?_)⟩
 ·rw[Hj b]at hG;subst hG;exact Xr
 rw[Hh b]at hG;have b:aQ s=false:=by simpa using b
 apply a6<;>intro k
 ·replace k:=Xo k;rw[Hj k]at hG;subst hG;have hl:=fC (l:=s.toks) (a:=s.pos) (by unfold ai at k;omega);have hm:ai s∈s.toks:=by unfold ai cK;rw[Hj hl];exact cY s.toks s.pos.toNat (dfl (.st .token)) (by omega)
  refine⟨aP (by omega) (by omega),hi.2.2.2 _ hm k,?_⟩;exact Xr
 replace k:¬(ai s).kind=3:=fun e=>k (Xd e);rw[Hh k]at hG;apply a6<;>intro k
 ·replace k:=Xo k;rw[Hj k]at hG;subst hG;have hl:=fC (l:=s.toks) (a:=s.pos) (by unfold ai at k;omega);refine⟨aP (by omega) (by omega),?_⟩;exact Xr
 replace k:¬(ai s).kind=4:=fun e=>k (Xd e);rw[Hh k]at hG;apply a6<;>intro k
 ·replace k:=Xo k;rw[Hj k]at hG;have hl:=fC (l:=s.toks) (a:=s.pos) (by unfold ai at k;omega);have m:=(eZ hi (by decide) k b).1;refine⟨aP (by omega) (by omega),m.good,?_⟩;show(if isF [47] (au s)=true then _ else _);apply a6<;>intro c
  ·rw[Hj c]at hG;subst hG;have m2:=aC m.good c;have e:cw [47] (⟨s.toks,s.pos+1,s.err,s.fat⟩:Par)=au (au s):=aH c;rw[e];refine⟨⟨m2.good,by decide⟩,?_⟩;exact Xr
  ·rw[Hh c]at hG;subst hG;have c:isF [47] (au s)=false:=by simpa using c
   have e:cw [47] (⟨s.toks,s.pos+1,s.err,s.fat⟩:Par)=au s:=aR c;rw[e];exact Xr
 replace k:¬(ai s).kind=1:=fun e=>k (Xd e);rw[Hh k]at hG;refine⟨hi,a6 (fun c=>?_) (fun c=>?_)⟩;rotate_left
 ·rw[Hh c]at hG;have c:isF [116,114,117,101] s=false:=by simpa using c
  rw[aR c];refine⟨hi,a6 (fun c=>?_) (fun c=>?_)⟩;rotate_left
  ·rw[Hh c]at hG;have c:isF [102,97,108,115,101] s=false:=by simpa using c
   rw[aR c];refine⟨hi,a6 (fun c=>?_) (fun c=>?_)⟩;rotate_left
   ·rw[Hh c]at hG;have c:isF [40] s=false:=by simpa using c
    rw[aR c];refine⟨hi,a6 (fun c=>?_) (fun c=>?_)⟩;rotate_left
    ·rw[Hh c]at hG;have c:isF [123] s=false:=by simpa using c
     rw[aR c];refine⟨hi,a6 (fun c=>?_) (fun c=>?_)⟩;rotate_left
     ·rw[Hh c]at hG;have c:isF [64] s=false:=by simpa using c
      rw[aR c];refine⟨hi,a6 (fun c=>?_) (fun c=>?_)⟩;rotate_left
      ·rw[Hh c]at hG;have c:isF [110,101,119] s=false:=by simpa using c
       rw[aR c];refine⟨hi,a6 (fun c=>?_) (fun c=>?_)⟩;rotate_left
       ·rw[Hh c]at hG;have c:isF [114,97,119] s=false:=by simpa using c
        rw[aR c];subst hG;exact Xr
       rw[Hj c]at hG;have m:=aC hi c;have r:=aG hi c;rw[aH c];subst hG;have a:=aO (k:=2) m.good (by decide);have al:=a.goes.le;have b:=(ae (t:=[40]) a.good).goes.le;refine⟨⟨m.good,by decide⟩,⟨a.good,by omega⟩,?_⟩;exact Xr
      rw[Hj c]at hG;have m:=aC hi c;have r:=aG hi c;rw[aH c];subst hG;have a:=aO (k:=2) m.good (by decide);have al:=a.goes.le;have b:=(ae (t:=[40]) a.good).goes.le;refine⟨⟨m.good,by decide⟩,⟨a.good,by omega⟩,?_⟩;exact Xr
     rw[Hj c]at hG;have m:=aC hi c;have r:=aG hi c;rw[aH c];subst hG;have a:=aO (k:=1) m.good (by decide);have al:=a.goes.le;have b:=(ae (t:=[40]) a.good).goes.le;refine⟨⟨m.good,by decide⟩,⟨a.good,by omega⟩,?_⟩;exact Xr
    rw[Hj c]at hG;have m:=aC hi c;have r:=aG hi c;rw[aH c];have hx:(⟨8,[],[],0,[],[],[],[],(ai s).pos⟩:Trm).vars=[]/\(⟨8,[],[],0,[],[],[],[],(ai s).pos⟩:Trm).shapes=[]:=⟨rfl,rfl⟩;have kv:=ck (fun x:Trm=>x.vars=[]) (one:=aj (a7 n)) (fun x s h=>h) [44] [125] (x:=⟨8,[],[],0,[],[],[],[],(ai s).pos⟩) (au s) rfl;have ks:=ck (fun x:Trm=>x.shapes=[]) (one:=aj (a7 n)) (fun x s h=>h) [44] [125] (x:=⟨8,[],[],0,[],[],[],[],(ai s).pos⟩) (au s) rfl;rw[<-hG]at kv ks⊢;refine⟨⟨m.good,by omega⟩,?_⟩
    repeat (first|exact trivial|refine⟨by first|rfl|trivial|exact kv|exact ks,?_⟩)
   rw[Hj c]at hG;have m:=aC hi c;have r:=aG hi c;rw[aH c];have a:=hR.moves m.good (by omega);refine⟨⟨m.good,by omega⟩,a.good,a6 (fun d=>?_) (fun d=>?_)⟩
   ·have d:isF [97,115] (a7 n (au s)).2=false:=by simpa using d
    rw[aR d];rw[Hh (by simp[d])]at hG;subst hG;refine⟨a.good,?_⟩;exact Xr
   ·have d:isF [97,115] (a7 n (au s)).2=true:=by simpa using d
    rw[aH d];rw[Hj d]at hG;subst hG;have a2:=aC a.good d;refine⟨a2.good,(dK a2.good).good,?_⟩;exact Xr
  rw[Hj c]at hG;have m:=aC hi c;have r:=aG hi c;rw[aH c];subst hG;exact Xr
 rw[Hj c]at hG;have m:=aC hi c;have r:=aG hi c;rw[aH c];subst hG;exact Xr
theorem Fv(n:Nat)(s:Par) (ho:a8 s/\rem s<n+1) :
  let A:=([102,117,110]:Str);let B:=cw A s;let C:=(ak ([40]:Str) B);let D:=(0:Int);let E:=(ab ([44]:Str) ([41]:Str) aB {kind:=(6:Int),pkg:=[],name:=[],n:=D,names:=[],vars:=[],shapes:=[],parts:=[],pos:=(ai s).pos:Trm} C);let F:=(ak ([45,62]:Str) E.2);let G:=(100000:Nat);let H:=True;let I:=(1:Nat);let J:=a7 (n+I) s;let K:=J.1.vars=[];let L:=([108,101,116]:Str);let M:=cw L B;let N:=(aE (1:Int) M);let O:=(ak ([61]:Str) N.2);let P:=a7 n O;let Q:=(ak ([105,110]:Str) P.2);let R:=[]++[P.1];let S:=[]=J.1.pkg;let T:=J.1.names=[];let U:=(ai s).pos=J.1.pos;let V:=([105,102]:Str);let W:=cw V M;let X:=a7 n W;let Y:=(ak ([116,104,101,110]:Str) X.2);let Z:=[X.1];let a:=[]++Z;let b:=a7 n Y;let c:=(ak ([101,108,115,101]:Str) b.2);let d:=[]++Z++[b.1];let e:=a7 n c;let f:=[]++Z++[b.1]++[e.1];let g:=([97,115]:Str);let h:=bg (ak g e.2);let i:=([99,97,115,101]:Str);let j:=cw i W;let k:=a7 n j;let l:=([111,102]:Str);let m:=ak l k.2;let o:=(ak ([123]:Str) m);let p:=[]++[k.1];let q:=a7 n;let r:=(ab ([124]:Str) ([125]:Str) (an q) {kind:=(13:Int),pkg:=[],name:=[],n:=D,names:=[],vars:=[],shapes:=[],parts:=[]++[k.1],pos:=(ai s).pos:Trm} o);let t:=bg (ak g r.2);let u:=(cw ([91]:Str) j);let v:=(ab ([44]:Str) ([93]:Str) (ax q) {kind:=(11:Int),pkg:=[],name:=[],n:=D,names:=[],vars:=[],shapes:=[],parts:=[],pos:=(ai s).pos:Trm} u);let w:=bg (ak l v.2);a8 s/\a8 s/\if isF A s=true then a8 B/\(a8 C/\rem C<=n)/\a8 E.2/\(a8 F/\rem F<n/\List.length E.1.names=List.length E.1.names/\List.length E.1.shapes=List.length E.1.shapes/\List.length E.1.names+List.length E.1.shapes<=G)/\H/\E.1.kind=J.1.kind/\E.1.pkg=J.1.pkg/\E.1.name=J.1.name/\E.1.n=J.1.n/\E.1.names=J.1.names/\K/\E.1.shapes=J.1.shapes/\[]++[(a7 n F).1]=J.1.parts/\E.1.pos=J.1.pos/\(a7 n F).2=J.2/\H else a8 B/\if isF L B=true then(a8 M/\¬(1:Int)=D)/\a8 N.2/\(a8 O/\rem O<n)/\a8 P.2/\(a8 Q/\rem Q<n/\List.length R=List.length R/\List.length R<=G)/\H/\(14:Int)=J.1.kind/\S/\N.1.text=J.1.name/\D=J.1.n/\T/\K/\J.1.shapes=[]/\[]++[P.1]++[(a7 n Q).1]=J.1.parts/\U/\(a7 n Q).2=J.2/\H else a8 M/\if isF V M=true then(a8 W/\rem W<n)/\a8 X.2/\(a8 Y/\rem Y<n/\List.length a=List.length a/\List.length a<=G)/\a8 b.2/\(a8 c/\rem c<n/\List.length d=List.length d/\List.length d<=G)/\(a8 e.2/\List.length f=List.length f/\List.length f<=G)/\H/\(12:Int)=J.1.kind/\S/\[]=J.1.name/\D=J.1.n/\T/\K/\[]++[h.1]=J.1.shapes/\[]++Z++[b.1]++[e.1]=J.1.parts/\U/\h.2=J.2/\H else a8 W/\if isF i W=true then(a8 j/\rem j<n)/\a8 k.2/\a8 m/\(a8 o/\rem o<=n/\List.length p=List.length p/\List.length p<=I)/\(a8 r.2/\List.length r.1.names=List.length r.1.names/\List.length r.1.vars=List.length r.1.vars/\List.length r.1.shapes=List.length r.1.shapes/\List.length r.1.parts=List.length r.1.parts/\List.length r.1.names+List.length r.1.vars+List.length r.1.shapes+List.length r.1.parts<=G)/\H/\r.1.kind=J.1.kind/\r.1.pkg=J.1.pkg/\r.1.name=J.1.name/\r.1.n=J.1.n/\r.1.names=J.1.names/\r.1.vars=J.1.vars/\r.1.shapes++[t.1]=J.1.shapes/\r.1.parts=J.1.parts/\r.1.pos=J.1.pos/\t.2=J.2/\H else a8 j/\if isF ([91]:Str) j=true then(a8 u/\rem u<n)/\(a8 v.2/\List.length v.1.parts=List.length v.1.parts/\List.length v.1.parts<=G)/\H/\v.1.kind=J.1.kind/\v.1.pkg=J.1.pkg/\v.1.name=J.1.name/\v.1.n=J.1.n/\T/\K/\[]++[w.1]=J.1.shapes/\v.1.parts=J.1.parts/\v.1.pos=J.1.pos/\w.2=J.2/\H else(a8 u/\rem u<n+I)/\H/\(dT q u).1=J.1/\(dT q u).2=J.2/\H:=by
 conv=>zeta
 obtain⟨hi,hn⟩:=ho;obtain⟨G,hG⟩:∃G,G=gw (a7 n) s:=⟨_,rfl⟩;rw[show a7 (n+1) s=G from hG.symm];unfold gw at hG;have hl:=hi.2.2.1;have hR:=cD n;refine⟨hi,?_⟩;refine⟨hi,a6 (fun c=>?_) (fun c=>?_)⟩;rotate_left
 ·rw[Hh c]at hG;have c:isF [102,117,110] s=false:=by simpa using c
  rw[aR c];refine⟨hi,a6 (fun c=>?_) (fun c=>?_)⟩;rotate_left
  ·rw[Hh c]at hG;have c:isF [108,101,116] s=false:=by simpa using c
   rw[aR c];refine⟨hi,a6 (fun c=>?_) (fun c=>?_)⟩;rotate_left
   ·rw[Hh c]at hG;have c:isF [105,102] s=false:=by simpa using c
    rw[aR c];refine⟨hi,a6 (fun c=>?_) (fun c=>?_)⟩;rotate_left
    ·rw[Hh c]at hG;have c:isF [99,97,115,101] s=false:=by simpa using c
     rw[aR c];refine⟨hi,a6 (fun c=>?_) (fun c=>?_)⟩;rotate_left
     ·rw[Hh c]at hG;have c:isF [91] s=false:=by simpa using c
      rw[aR c];refine⟨⟨hi,hn⟩,?_⟩;subst hG;exact Xr
     rw[Hj c]at hG;have m:=aC hi c;have r:=aG hi c;rw[aH c]
     have hRp:dn (ax (a7 n)) (n-1):=bC (by
      have hp:=bA (ct c).2;by_cases h:n=0
      ·subst h;have:=aG hi c;have h5:rem (au s)=0:=by omega
       omega
      ·rw[Im (by omega)];exact hR)
     have hn1:rem (au s)<n:=by omega
     have ht:=m.goes.toks;have g:=aI hRp [44] [93] (⟨11,[],[],0,[],[],[],[],(ai s).pos⟩:Trm) m.good (by omega);have kn:=ck (fun x:Trm=>x.names=[]) (one:=ax (a7 n)) (fun x s h=>h) [44] [93] (x:=(⟨11,[],[],0,[],[],[],[],(ai s).pos⟩:Trm)) (au s) rfl;have kv:=ck (fun x:Trm=>x.vars=[]) (one:=ax (a7 n)) (fun x s h=>h) [44] [93] (x:=(⟨11,[],[],0,[],[],[],[],(ai s).pos⟩:Trm)) (au s) rfl;have ks:=ck (fun x:Trm=>x.shapes=[]) (one:=ax (a7 n)) (fun x s h=>h) [44] [93] (x:=(⟨11,[],[],0,[],[],[],[],(ai s).pos⟩:Trm)) (au s) rfl;have lp:=dy (fun x:Trm=>x.parts.length) (one:=ax (a7 n)) (fun x s=>by simp[ax,aM,aB,dF,b4,aY,an,bY]) [44] [93] (⟨11,[],[],0,[],[],[],[],(ai s).pos⟩:Trm) (au s);replace hG:G=dF [111,102] (ab [44] [93] (ax (a7 n)) (⟨11,[],[],0,[],[],[],[],(ai s).pos⟩:Trm) (au s)).1 (ab [44] [93] (ax (a7 n)) (⟨11,[],[],0,[],[],[],[],(ai s).pos⟩:Trm) (au s)).2:=hG;generalize ab [44] [93] (ax (a7 n)) (⟨11,[],[],0,[],[],[],[],(ai s).pos⟩:Trm) (au s)=L at hG g kn kv ks lp⊢;subst hG;simp only[ht,I5]at lp;refine⟨⟨m.good,hn1⟩,⟨g.good,by trivial,by omega⟩,?_⟩
     repeat (first|exact trivial|refine⟨by first|rfl|trivial|exact kn|exact kv|exact ks|exact kp|(show[]++[_]=L.1.parts++[_];rw[kp])|(show[]++[_]=L.1.shapes++[_];rw[ks]),?_⟩)
    rw[Hj c]at hG;have m:=aC hi c;have r:=aG hi c;rw[aH c];have a:=hR.moves m.good (by omega);have al:=a.goes.le;have b:=ae (t:=[111,102]) a.good;have bl:=b.goes.le;have d:=ae (t:=[123]) b.good;have dl:=d.goes.le;have ht:=(((m.then a).then b).then d).goes.toks;have g:=aI (eI hR) [124] [125] (⟨13,[],[],0,[],[],[],[]++[(a7 n (au s)).1],(ai s).pos⟩:Trm) d.good (by omega);have ln:=dy (fun x:Trm=>x.names.length) (one:=an (a7 n)) (fun x s=>by simp[ax,aM,aB,dF,b4,aY,an,bY]) [124] [125] (⟨13,[],[],0,[],[],[],[]++[(a7 n (au s)).1],(ai s).pos⟩:Trm) (ak [123] (ak [111,102] (a7 n (au s)).2));have lv:=dy (fun x:Trm=>x.vars.length) (one:=an (a7 n)) (fun x s=>by simp[ax,aM,aB,dF,b4,aY,an,bY]) [124] [125] (⟨13,[],[],0,[],[],[],[]++[(a7 n (au s)).1],(ai s).pos⟩:Trm) (ak [123] (ak [111,102] (a7 n (au s)).2));have ls:=dy (fun x:Trm=>x.shapes.length) (one:=an (a7 n)) (fun x s=>by simp[ax,aM,aB,dF,b4,aY,an,bY]) [124] [125] (⟨13,[],[],0,[],[],[],[]++[(a7 n (au s)).1],(ai s).pos⟩:Trm) (ak [123] (ak [111,102] (a7 n (au s)).2));have lp:=dy (fun x:Trm=>x.parts.length) (one:=an (a7 n)) (fun x s=>by simp[ax,aM,aB,dF,b4,aY,an,bY]) [124] [125] (⟨13,[],[],0,[],[],[],[]++[(a7 n (au s)).1],(ai s).pos⟩:Trm) (ak [123] (ak [111,102] (a7 n (au s)).2))
    replace hG:G=dF [97,115] (ab [124] [125] (an (a7 n)) (⟨13,[],[],0,[],[],[],[]++[(a7 n (au s)).1],(ai s).pos⟩:Trm) (ak [123] (ak [111,102] (a7 n (au s)).2))).1 (ab [124] [125] (an (a7 n)) (⟨13,[],[],0,[],[],[],[]++[(a7 n (au s)).1],(ai s).pos⟩:Trm) (ak [123] (ak [111,102] (a7 n (au s)).2))).2:=hG;generalize ab [124] [125] (an (a7 n)) (⟨13,[],[],0,[],[],[],[]++[(a7 n (au s)).1],(ai s).pos⟩:Trm) (ak [123] (ak [111,102] (a7 n (au s)).2))=L at hG g ln lv ls lp⊢;subst hG;simp only[ht,I5,Ho,Hm]at ln lv ls lp;refine⟨⟨m.good,by omega⟩,a.good,b.good,⟨d.good,by omega,by trivial,by simp⟩,⟨g.good,by trivial,by trivial,by trivial,by trivial,by omega⟩,?_⟩;exact Xr
   rw[Hj c]at hG;have m:=aC hi c;have r:=aG hi c;rw[aH c];replace hG:G=dF [97,115] (ax (a7 n) (ax (a7 n) (ax (a7 n) ⟨12,[],[],0,[],[],[],[],(ai s).pos⟩ (au s)).1 (ak [116,104,101,110] (a7 n (au s)).2)).1 (ak [101,108,115,101] (a7 n (ak [116,104,101,110] (a7 n (au s)).2)).2)).1 (a7 n (ak [101,108,115,101] (a7 n (ak [116,104,101,110] (a7 n (au s)).2)).2)).2:=hG;subst hG;have a:=hR.moves m.good (by omega);have al:=a.goes.le;have b:=ae (t:=[116,104,101,110]) a.good;have bl:=b.goes.le;have d:=hR.moves b.good (by omega);have dl:=d.goes.le;have e:=ae (t:=[101,108,115,101]) d.good;have el:=e.goes.le;have f:=hR.moves e.good (by omega);refine⟨⟨m.good,by omega⟩,a.good,⟨b.good,by omega,by trivial,by simp⟩,d.good,⟨e.good,by omega,by trivial,by simp⟩,⟨f.good,by trivial,by simp⟩,?_⟩;exact Xr
  rw[Hj c]at hG;have m:=aC hi c;have r:=aG hi c;rw[aH c];replace hG:G=ax (a7 n) (ax (a7 n) ⟨14,[],(aE 1 (au s)).1.text,0,[],[],[],[],(ai s).pos⟩ (ak [61] (aE 1 (au s)).2)).1 (ak [105,110] (a7 n (ak [61] (aE 1 (au s)).2)).2):=hG;subst hG;have a:=aO (k:=1) m.good (by decide);have al:=a.goes.le;have b:=ae (t:=[61]) a.good;have bl:=b.goes.le;have d:=hR.moves b.good (by omega);have dl:=d.goes.le;have e:=ae (t:=[105,110]) d.good;have el:=e.goes.le;refine⟨⟨m.good,by decide⟩,a.good,⟨b.good,by omega⟩,d.good,⟨e.good,by omega,by trivial,by simp⟩,?_⟩;exact Xr
 rw[Hj c]at hG;have m:=aC hi c;have r:=aG hi c;rw[aH c];have a:=ae (t:=[40]) m.good;have al:=a.goes.le;have ht:=(m.then a).goes.toks;have g:=aI (dW n) [44] [41] (⟨6,[],[],0,[],[],[],[],(ai s).pos⟩:Trm) a.good (by omega);have ln:=dy (fun x:Trm=>x.names.length) (one:=aB) (fun x s=>by simp[ax,aM,aB,dF,b4,aY,an,bY]) [44] [41] (⟨6,[],[],0,[],[],[],[],(ai s).pos⟩:Trm) (ak [40] (au s));have ls:=dy (fun x:Trm=>x.shapes.length) (one:=aB) (fun x s=>by simp[ax,aM,aB,dF,b4,aY,an,bY]) [44] [41] (⟨6,[],[],0,[],[],[],[],(ai s).pos⟩:Trm) (ak [40] (au s));have kv:=ck (fun x:Trm=>x.vars=[]) (one:=aB) (fun x s h=>h) [44] [41] (x:=(⟨6,[],[],0,[],[],[],[],(ai s).pos⟩:Trm)) (ak [40] (au s)) rfl;have kp:=ck (fun x:Trm=>x.parts=[]) (one:=aB) (fun x s h=>h) [44] [41] (x:=(⟨6,[],[],0,[],[],[],[],(ai s).pos⟩:Trm)) (ak [40] (au s)) rfl;replace hG:G=ax (a7 n) (ab [44] [41] aB (⟨6,[],[],0,[],[],[],[],(ai s).pos⟩:Trm) (ak [40] (au s))).1 (ak [45,62] (ab [44] [41] aB (⟨6,[],[],0,[],[],[],[],(ai s).pos⟩:Trm) (ak [40] (au s))).2):=hG;generalize ab [44] [41] aB (⟨6,[],[],0,[],[],[],[],(ai s).pos⟩:Trm) (ak [40] (au s))=L at hG g ln ls kv kp⊢;subst hG;simp only[ht,I5]at ln ls;have gl:=g.le;have b:=ae (t:=[45,62]) g.good;have bl:=b.goes.le;refine⟨m.good,⟨a.good,by omega⟩,g.good,⟨b.good,by omega,by trivial,by trivial,by omega⟩,?_⟩
 repeat (first|exact trivial|refine⟨by first|rfl|trivial|exact kn|exact kv|exact ks|exact kp|(show[]++[_]=L.1.parts++[_];rw[kp])|(show[]++[_]=L.1.shapes++[_];rw[ks]),?_⟩)
theorem DS(l:List Tokn)(a:Int)(hl:Wf (.lst (.st .token)) l) :
  let A:=(0:Int);let B:=True;let C:=B/\cC (2:Int) A {toks:=l,pos:=a,err:=A,fat:=A:Par}=b9 l a/\B;let D:=(↑(List.length l):Int);let E:=b9 l a;if decide (a<A)=true then C else if decide (D<a)=true then C else if decide ((4097:Int)<D)=true then B/\cC (3:Int) A {toks:=l,pos:=a,err:=A,fat:=A:Par}=b9 l a/\B else B/\l=E.toks/\a=E.pos/\A=E.err/\A=E.fat/\B:=by
 conv=>zeta
 have hn:=hl.len;apply a6<;>intro h
 ·replace h:=Xo h;have e:b9 l a=⟨l,a,2,0⟩:=by unfold b9;rw[Hj (.inl h)]
  rw[e];exact Xr
 replace h:¬a<0:=fun e=>h (Xd e);apply a6<;>intro k
 ·replace k:=Xo k;have e:b9 l a=⟨l,a,2,0⟩:=by unfold b9;rw[Hj (.inr k)]
  rw[e];exact Xr
 replace k:¬(l.length:Int)<a:=fun e=>k (Xd e);have hb:¬(a<0∨(l.length:Int)<a):=fun e=>e.elim h k;apply a6<;>intro d
 ·replace d:=Xo d;have e:b9 l a=⟨l,a,3,0⟩:=by unfold b9;rw[Hh hb,Hj (by omega)]
  rw[e];exact Xr
 ·replace d:¬(4097:Int)<(l.length:Int):=fun e=>d (Xd e);have e:b9 l a=⟨l,a,0,0⟩:=by unfold b9;rw[Hh hb,Hh (by omega)]
  rw[e];exact Xr
theorem Bp(l:List Tokn)(a:Int)(hl:Wf (.lst (.st .token)) l)(ho:0<=a/\a<(l.length:Int)) :
  let A:=(↑(List.length l):Int);let B:=(0:Int);let C:=cR l a;inR IntKind.i64 (A-(1:Int))/\if(!decide (a=A-(1:Int)))=true then(B<=a/\a<A)/\True/\(90:Int)=C.err/\(List.getD l (Int.toNat a) (dfl (Ty.st SN.token))).pos=C.pos/\True else True/\B=C.err/\B=C.pos/\True:=by
 conv=>zeta
 have hn:=hl.len;refine⟨aP (by omega) (by omega),a6 (fun h=>?_) (fun h=>?_)⟩
 ·have h:¬a=(l.length:Int)-1:=by simpa using h
  unfold cR;rw[Hh h];refine⟨ho,?_⟩;exact Xr
 ·have h:a=(l.length:Int)-1:=by simpa using h
  unfold cR;rw[Hj h];exact Xr
theorem Fw(l:List Tokn)(a:Int)(hN:ml l) :
  let A:=b9 l a;let B:=True;let C:=(0:Int);let D:=gG l a;let E:=C=D.1.kind;let F:=[]=D.1.pkg;let G:=[]=D.1.name;let H:=D.1.names=[];let I:=D.1.parts=[];let J:=bg A;if aQ A=true then B/\E/\F/\G/\H/\I/\C=D.2.1/\A.err=D.2.2.err/\A.fat=D.2.2.pos/\B else a8 A/\if aQ J.2=true then B/\E/\F/\G/\H/\I/\C=D.2.1/\J.2.err=D.2.2.err/\J.2.fat=D.2.2.pos/\B else B/\J.1=D.1/\J.2.pos=D.2.1/\C=D.2.2.err/\C=D.2.2.pos/\B:=by
 conv=>zeta
 obtain⟨G,hG⟩:∃G,G=gG l a:=⟨_,rfl⟩;rw[<-hG];unfold gG at hG;apply a6<;>intro h
 ·rw[Hj h]at hG;subst hG;exact Xr
 ·rw[Hh h]at hG;have h:aQ (b9 l a)=false:=by simpa using h
  have g:=fU hN h;unfold iJ at hG;refine⟨g,a6 (fun k=>?_) (fun k=>?_)⟩
  ·rw[Hj k]at hG;subst hG;exact Xr
  ·rw[Hh k]at hG;subst hG;exact Xr
theorem Bq(n:Nat)(t:Trm)(m:Int)(hs:Wf (.st .term) t)(hz:szT t<=n+1)(h0:0<=m)(h1:m<=1000000) :
  let A:=(1:Int);let B:=(0:Int);let C:=(↑(List.length t.parts):Int);let D:=t=t/\m=m/\B=B/\B=B/\t.parts=t.parts/\C=C/\t=t/\True;let E:=countT t m;let F:=dfl (Ty.st SN.term);(∃(x:Nat×Int×Int),(x.1<=List.length t.parts/\A<=x.2.1/\x.2.1<=m+A/\B<=x.2.2/\x.2.2+A<=x.2.1/\countL (List.drop x.1 t.parts) m x.2.1 x.2.2=countL t.parts m A B)/\A=x.2.1/\B=x.2.2/\B=(↑x.1:Int)/\D)/\∀(x:Nat×Int×Int),let G:=(↑x.1:Int);let H:=inR IntKind.i64 (x.2.2+A)/\True/\x.2.1=E.1/\x.2.2+A=E.2/\True;let I:=m-x.2.1;let J:=List.getD t.parts (Int.toNat G) F;let K:=countT J I;x.1<=List.length t.parts/\A<=x.2.1/\x.2.1<=m+A/\B<=x.2.2/\x.2.2+A<=x.2.1/\countL (List.drop x.1 t.parts) m x.2.1 x.2.2=countL t.parts m A B->if decide (G<C)=true then(B<=G/\G<C)/\if decide (m<x.2.1)=true then H else inR IntKind.i64 I/\(szT J<=n/\B<=m-x.2.1/\m-x.2.1<=(1000000:Int))/\inR IntKind.i64 (x.2.1+K.1)/\inR IntKind.i64 (G+A)/\∃(y:Nat×Int×Int),(y.1<=List.length t.parts/\A<=y.2.1/\y.2.1<=m+A/\B<=y.2.2/\y.2.2+A<=y.2.1/\countL (List.drop y.1 t.parts) m y.2.1 y.2.2=countL t.parts m A B)/\List.length t.parts-y.1<List.length t.parts-x.1/\x.2.1+K.1=y.2.1/\max x.2.2 K.2=y.2.2/\G+A=(↑y.1:Int)/\D else H:=by
 conv=>zeta
 have ln:=hs.term_parts.len;rw[AZ];refine⟨⟨(0,1,0),⟨Hz _,by decide,by show(1:Int)<=m+1;omega,by decide,by decide,rfl⟩,rfl,rfl,rfl,?_⟩,?_⟩
 ·exact Xr
 rintro⟨k,a,d⟩ ⟨h1,h2,h3,h4,h5,h6⟩;simp only[HC]at h1 h2 h3 h4 h5 h6⊢;apply a6<;>intro h
 ·replace h:=Xo h;have hk:k<t.parts.length:=by omega
  rw[aT t.parts k (dfl (.st .term)) hk,countL]at h6;refine⟨by omega,a6 (fun c=>?_) (fun c=>?_)⟩
  ·replace c:=Xo c;rw[Hj c]at h6;rw[<-h6];refine⟨aP (by omega) (by omega),?_⟩;exact Xr
  ·replace c:¬m<a:=fun e=>c (Xd e);rw[Hh c]at h6;have hm:=jV (cY t.parts k (dfl (.st .term)) hk);have he:=mq t;have hb:=countT_bound (t.parts.getD k (dfl (.st .term))) (m-a) (by omega);refine⟨aP (by omega) (by omega),⟨by omega,by omega,by omega⟩,aP (by omega) (by omega),cA hk ln,(k+1,_,_),⟨by show k+1<=_;omega,?_,?_,?_,?_,h6⟩,by show _-(k+1)<_;omega,rfl,rfl,by show _=((k+1:Nat):Int);omega,?_⟩
   ·show(1:Int)<=a+_;omega
   ·show a+_<=m+1;omega
   ·show(0:Int)<=max d _;omega
   ·show max d _+1<=a+_;omega
   exact Xr
 ·replace h:¬((k:Int)<(t.parts.length:Int)):=fun e=>h (Xd e);have e:k=t.parts.length:=by omega
  subst e;rw[HG,countL]at h6;rw[<-h6];refine⟨aP (by omega) (by omega),?_⟩;exact Xr
theorem yz (x:Str)  :
  True/\(!aW x)=!aW x/\True:=by
 exact⟨trivial,by trivial,trivial⟩
theorem yA (l:List Str) (hl:Wf (.lst .str) l) :
  let A:=(0:Nat);let B:=(↑(List.length l):Int);let C:=l=l/\B=B/\True;(∃(x:Nat),(x<=List.length l/\cu aW (List.drop x l) x=cu aW l A)/\(0:Int)=(↑x:Int)/\C)/\∀(x:Nat),let D:=(↑x:Int);x<=List.length l/\cu aW (List.drop x l) x=cu aW l A->if decide (D<B)=true then((0:Int)<=D/\D<B)/\if(!aW (List.getD l (Int.toNat D) (dfl Ty.str)))=true then True/\D=cu aW l A/\True else inR IntKind.i64 (D+(1:Int))/\∃(y:Nat),(y<=List.length l/\cu aW (List.drop y l) y=cu aW l A)/\List.length l-y<List.length l-x/\D+(1:Int)=(↑y:Int)/\C else True/\(-1:Int)=cu aW l A/\True:=by
 conv=>zeta
 have ln:=hl.len;simp only[HC];refine⟨⟨0,⟨Hz _,by simp⟩,rfl,by trivial,by trivial,trivial⟩,?_⟩;rintro k ⟨h1,h2⟩;apply a6<;>intro h
 ·replace h:=Xo h;have hk:k<l.length:=by omega
  rw[aT l k (dfl .str) hk,cu]at h2;refine⟨by omega,a6 (fun c=>?_) (fun c=>?_)⟩
  ·have c:aW (l.getD k (dfl .str))=false:=by simpa using c
   rw[c,Hh HS]at h2;rw[<-h2];exact Xr
  ·have c:aW (l.getD k (dfl .str))=true:=by simpa using c
   rw[Hj c]at h2;refine⟨cA hk ln,k+1,⟨by omega,h2⟩,by omega,by omega,by trivial,by trivial,trivial⟩
 ·replace h:¬((k:Int)<(l.length:Int)):=fun e=>h (Xd e);have e:k=l.length:=by omega
  subst e;rw[HG,cu]at h2;rw[<-h2];exact Xr
theorem yB (l:List Str)  :
  True/\decide ((0:Int)<=cu aW l (0:Nat))=!List.all l aW/\True:=by
 exact⟨trivial,kM aW l 0,trivial⟩
theorem DT (l:List Str)  :
  True/\(!!List.all l aW)=List.all l aW/\True:=by
 exact⟨trivial,Js _,trivial⟩
theorem DU(l:List Str)(ho:l.length *16<=140737488355328) :
  let A:=(List.mergeSort l fun(x y:Str)=>decide (x<=y));let B:=List.all l aW&&decide (List.Nodup l);List.length l*(16:Nat)<=(140737488355328:Nat)/\if List.all l aW=true then List.length A=List.length A/\True/\decide ((↑(List.length (Lib.compact A)):Int)=(↑(List.length l):Int))=B/\True else True/\false=B/\True:=by
 conv=>zeta
 have hc:=kK l;unfold ix at hc;refine⟨ho,a6 (fun h=>?_) (fun h=>?_)⟩
 ·refine⟨by trivial,trivial,?_,trivial⟩;rw[h,HR,Ie,<-hc];omega
 ·have h:l.all aW=false:=by simpa using h
  exact⟨trivial,by rw[h];rfl,trivial⟩
theorem yC(n:Nat)(x:Shape) (ho:sz x<=n) :
  sz x<=n/\True/\(!allS bn x)=!allS bn x/\True:=by
 exact⟨ho,trivial,by trivial,trivial⟩
theorem yD(n:Nat)(l:List Shape) (hl:Wf (.lst (.st .shape)) l)(ho:∀x∈l,sz x<=n) :
  let A:=allS bn;let B:=(0:Nat);let C:=(↑(List.length l):Int);let D:=l=l/\C=C/\True;let E:=dfl (Ty.st SN.shape);(∃(x:Nat),(x<=List.length l/\cu A (List.drop x l) x=cu A l B)/\(0:Int)=(↑x:Int)/\D)/\∀(x:Nat),let F:=(↑x:Int);let G:=List.getD l (Int.toNat F) E;x<=List.length l/\cu A (List.drop x l) x=cu A l B->if decide (F<C)=true then((0:Int)<=F/\F<C)/\sz G<=n/\if(!allS bn G)=true then True/\F=cu A l B/\True else inR IntKind.i64 (F+(1:Int))/\∃(y:Nat),(y<=List.length l/\cu A (List.drop y l) y=cu A l B)/\List.length l-y<List.length l-x/\F+(1:Int)=(↑y:Int)/\D else True/\(-1:Int)=cu A l B/\True:=by
 conv=>zeta
 have ln:=hl.len;simp only[HC];refine⟨⟨0,⟨Hz _,by simp⟩,rfl,by trivial,by trivial,trivial⟩,?_⟩;rintro k ⟨h1,h2⟩;apply a6<;>intro h
 ·replace h:=Xo h;have hk:k<l.length:=by omega
  rw[aT l k (dfl (.st .shape)) hk,cu]at h2;refine⟨by omega,ho _ (cY l k _ hk),a6 (fun c=>?_) (fun c=>?_)⟩
  ·have c:(allS bn) (l.getD k (dfl (.st .shape)))=false:=by simpa using c
   rw[c,Hh HS]at h2;rw[<-h2];exact Xr
  ·have c:(allS bn) (l.getD k (dfl (.st .shape)))=true:=by simpa using c
   rw[Hj c]at h2;refine⟨cA hk ln,k+1,⟨by omega,h2⟩,by omega,by omega,by trivial,by trivial,trivial⟩
 ·replace h:¬((k:Int)<(l.length:Int)):=fun e=>h (Xd e);have e:k=l.length:=by omega
  subst e;rw[HG,cu]at h2;rw[<-h2];exact Xr
theorem yE(n:Nat)(l:List Shape) (ho:∀x∈l,sz x<=n) :
  (∀(x:Shape),x∈l->sz x<=n)/\True/\decide ((0:Int)<=cu (allS bn) l (0:Nat))=!List.all l (allS bn)/\True:=by
 exact⟨ho,trivial,kM (allS bn) l 0,trivial⟩
theorem DV(n:Nat)(l:List Shape) (ho:∀x∈l,sz x<=n) :
  (∀(x:Shape),x∈l->sz x<=n)/\True/\(!!List.all l (allS bn))=List.all l (allS bn)/\True:=by
 exact⟨ho,trivial,Js _,trivial⟩
theorem Fx(n:Nat)(s:Shape)(ho:sz s<=n+1) :
  if(!decide (s.kind=(10:Int)))=true then(∀(x:Shape),x∈s.parts->sz x<=n)/\True/\List.all s.parts (allS bn)=allS bn s/\True else True/\false=allS bn s/\True:=by
 have e0:allS bn s=(bn s&&s.parts.all (allS bn)):=by rw[lh,jt]
 have h0:=ou s;have hm:∀x∈s.parts,sz x<=n:=fun x hx=>by have:=jR hx;omega
 rw[e0];apply a6<;>intro h
 ·have h:bn s=true:=h;rw[h,HR];exact⟨hm,trivial,rfl,trivial⟩
 ·have h:bn s=false:=by simpa[bn]using h
  rw[h];exact Xr
theorem Br(s:Shape)  :
  let A:=(decide (di s=(0:Int))&&allS bn s);if decide (di s=(0:Int))=true then sz s<=(400:Nat)/\True/\allS bn s=A/\True else True/\false=A/\True:=by
 conv=>zeta
 apply a6<;>intro h
 ·have h:di s=0:=by simpa using h
  refine⟨?_,trivial,by simp[h],trivial⟩;unfold di at h;by_cases c:400<sz s
  ·rw[Hj c]at h;exact absurd h (by decide)
  ·omega
 ·have h:¬di s=0:=by simpa using h
  exact⟨trivial,by simp[h],trivial⟩
theorem GG(t:Trm)  :
  let A:=(↑(List.length t.names):Int);let B:=(↑(List.length t.vars):Int);let C:=(↑(List.length t.shapes):Int);let D:=(↑(List.length t.parts):Int);True/\A=A/\B=B/\C=C/\D=D/\True:=by
 conv=>zeta
 exact Xr
theorem DW(s:Str)(hs:Wf .str s) :
  let A:=bh s;let B:=(↑(List.length A):Int);let C:=s=s/\bh s=bh s/\B=B/\True;let D:=dfl (Ty.int IntKind.u8);let E:=(1:Int);(∃(x:Nat),(x<=List.length s/\List.all s gH=List.all (List.drop x s) gH)/\(0:Int)=(↑x:Int)/\C)/\∀(x:Nat),let F:=(↑x:Int);let G:=Int.toNat F;let H:=inR IntKind.i64 (F+E)/\∃(y:Nat),(y<=List.length s/\List.all s gH=List.all (List.drop y s) gH)/\List.length s-y<List.length s-x/\F+E=(↑y:Int)/\C;x<=List.length s/\List.all s gH=List.all (List.drop x s) gH->if decide (F<B)=true then((0:Int)<=F/\F<B)/\if decide (List.getD A G D<(32:Int))=true then if(!decide (List.getD A G D=(10:Int)))=true then if(!decide (List.getD A G D=(9:Int)))=true then True/\false=eB s/\True else H else H else H else True/\Option.isNone (bS s)=eB s/\True:=by
 conv=>zeta
 have ln:=hs.str;have hbl:(bh s).length=s.length:=Is _;simp only[hbl,HC];refine⟨⟨0,⟨Hz _,rfl⟩,?_⟩,?_⟩
 ·exact Xr
 rintro k ⟨h1,h2⟩;apply a6<;>intro h
 ·have hk:k<s.length:=by have:=Xo h;omega
  rw[aT s k 0 hk,HZ]at h2;have hq:=Bc (s.getD k 0);simp only[vX s k hk]
  have yes:¬(bI (s.getD k 0)<32/\bI (s.getD k 0)≠10/\bI (s.getD k 0)≠9)->s.all gH=(s.drop (k+1)).all gH:=fun e=>by
   have:gH (s.getD k 0)=true:=by
    cases hh:gH (s.getD k 0)with|true=>rfl|false=>exact absurd (hq.1 hh) e
   rw[h2,this,HR]
  refine⟨⟨by omega,by omega⟩,?_⟩
  repeat' (apply a6<;>intro _)
  all_goals (simp only[Hq,HB,HI]at *)
  all_goals first
   |(refine⟨trivial,?_,trivial⟩;unfold eB;rw[h2,hq.2 (by omega),HP,HP])
   |(refine⟨cA hk ln,k+1,⟨by omega,yes (by omega)⟩,by omega,by omega,?_⟩;exact Xr)
 ·have hk:k=s.length:=by have:¬((k:Int)<(s.length:Int)):=fun e=>h (Xd e);omega
  refine⟨trivial,?_,trivial⟩;unfold eB;rw[h2,hk,HG];rfl
theorem w6 (x:Shape)  :
  True/\(!(decide (di x=(0:Int))&&allS bn x))=!bQ x/\True:=by
 exact⟨trivial,by trivial,trivial⟩
theorem w7 (l:List Shape) (hl:Wf (.lst (.st .shape)) l) :
  let A:=(0:Nat);let B:=(↑(List.length l):Int);let C:=l=l/\B=B/\True;(∃(x:Nat),(x<=List.length l/\cu bQ (List.drop x l) x=cu bQ l A)/\(0:Int)=(↑x:Int)/\C)/\∀(x:Nat),let D:=(↑x:Int);x<=List.length l/\cu bQ (List.drop x l) x=cu bQ l A->if decide (D<B)=true then((0:Int)<=D/\D<B)/\if(!bQ (List.getD l (Int.toNat D) (dfl (Ty.st SN.shape))))=true then True/\D=cu bQ l A/\True else inR IntKind.i64 (D+(1:Int))/\∃(y:Nat),(y<=List.length l/\cu bQ (List.drop y l) y=cu bQ l A)/\List.length l-y<List.length l-x/\D+(1:Int)=(↑y:Int)/\C else True/\(-1:Int)=cu bQ l A/\True:=by
 conv=>zeta
 have ln:=hl.len;simp only[HC];refine⟨⟨0,⟨Hz _,by simp⟩,rfl,by trivial,by trivial,trivial⟩,?_⟩;rintro k ⟨h1,h2⟩;apply a6<;>intro h
 ·replace h:=Xo h;have hk:k<l.length:=by omega
  rw[aT l k (dfl (.st .shape)) hk,cu]at h2;refine⟨by omega,a6 (fun c=>?_) (fun c=>?_)⟩
  ·have c:bQ (l.getD k (dfl (.st .shape)))=false:=by simpa using c
   rw[c,Hh HS]at h2;rw[<-h2];exact Xr
  ·have c:bQ (l.getD k (dfl (.st .shape)))=true:=by simpa using c
   rw[Hj c]at h2;refine⟨cA hk ln,k+1,⟨by omega,h2⟩,by omega,by omega,by trivial,by trivial,trivial⟩
 ·replace h:¬((k:Int)<(l.length:Int)):=fun e=>h (Xd e);have e:k=l.length:=by omega
  subst e;rw[HG,cu]at h2;rw[<-h2];exact Xr
theorem w8 (l:List Shape)  :
  True/\decide ((0:Int)<=cu bQ l (0:Nat))=!List.all l bQ/\True:=by
 exact⟨trivial,kM bQ l 0,trivial⟩
theorem Bt (l:List Shape)  :
  True/\(!!List.all l bQ)=List.all l bQ/\True:=by
 exact⟨trivial,Js _,trivial⟩
theorem DX(t:Trm)(ht:Wf (.st .term) t)(ho:t.names.length<=1000000) :
  let A:=(0:Int);let B:=(↑(List.length t.names):Int);let C:=(↑(List.length t.vars):Int);let D:=(↑(List.length t.shapes):Int);let E:=(↑(List.length t.parts):Int);let F:=True;let G:=t=t/\false=false/\t=t/\B=B/\C=C/\D=D/\E=E/\F;let H:=true=!jw t/\G;let I:=(1:Int);let J:=(!List.all t.shapes bQ)=!jw t/\G;let K:=if(!decide (t.pkg=[]))=true then if(!decide (t.kind=(5:Int)))=true then H else J else J;let L:=F/\false=aV t/\F;let M:=F/\(decide (B=A)&&(decide (C=A)&&(decide (D=A)&&(decide (E=A)&&true))))=aV t/\F;let N:=if decide (t.name=[])=true then M else L;let O:=List.length t.names*(16:Nat)<=(140737488355328:Nat);let P:=decide (E=I)&&true;let Q:=decide (E=E)&&true;let R:=F/\(decide (B=A)&&(decide (C=A)&&(decide (D=A)&&P)))=aV t/\F;let S:=if aW t.name=true then R else L;let T:=inR IntKind.i64 (B+I);let U:=if dM t.name=true then R else L;(if decide (t.pos<A)=true then H else if(!decide (t.n=A))=true then if(!decide (t.kind=I))=true then H else K else K)/\if(!jw t)=true then L else if decide (t.kind=I)=true then if decide (t.name=[])=true then if decide (A<=t.n)=true then if decide (t.n<=(999999999999999:Int))=true then M else L else L else L else if decide (t.kind=(2:Int))=true then if eB t.name=true then M else L else if decide (t.kind=(3:Int))=true then N else if decide (t.kind=(4:Int))=true then N else if decide (t.kind=(5:Int))=true then if aW t.name=true then if decide (t.pkg=[])=true then M else if aW t.pkg=true then M else L else L else if decide (t.kind=(6:Int))=true then if decide (t.name=[])=true then if decide (B<=(4096:Int))=true then O/\if(List.all t.names aW&&decide (List.Nodup t.names))=true then F/\(decide (B=B)&&(decide (C=A)&&(decide (D=B)&&P)))=aV t/\F else L else L else L else if decide (t.kind=(7:Int))=true then if decide (t.name=[])=true then if decide (A<E)=true then F/\(decide (B=A)&&(decide (C=A)&&(decide (D=A)&&Q)))=aV t/\F else L else L else if decide (t.kind=(8:Int))=true then if decide (t.name=[])=true then O/\if(List.all t.names aW&&decide (List.Nodup t.names))=true then F/\(decide (B=B)&&(decide (C=A)&&(decide (D=A)&&(decide (E=B)&&true))))=aV t/\F else L else L else if decide (t.kind=(9:Int))=true then S else if decide (t.kind=(10:Int))=true then S else if decide (t.kind=(11:Int))=true then if decide (t.name=[])=true then F/\(decide (B=A)&&(decide (C=A)&&(decide (D=I)&&Q)))=aV t/\F else L else if decide (t.kind=(12:Int))=true then if decide (t.name=[])=true then F/\(decide (B=A)&&(decide (C=A)&&(decide (D=I)&&(decide (E=(3:Int))&&true))))=aV t/\F else L else if decide (t.kind=(13:Int))=true then if decide (t.name=[])=true then O/\if(List.all t.names aW&&decide (List.Nodup t.names))=true then if List.all t.vars aW=true then T/\T/\F/\(decide (B=B)&&(decide (C=B)&&(decide (D=B+I)&&(decide (E=B+I)&&true))))=aV t/\F else L else L else L else if decide (t.kind=(14:Int))=true then if aW t.name=true then F/\(decide (B=A)&&(decide (C=A)&&(decide (D=A)&&(decide (E=(2:Int))&&true))))=aV t/\F else L else if decide (t.kind=(15:Int))=true then if decide (t.name=[])=true then F/\(decide (B=A)&&(decide (C=A)&&(decide (D=I)&&P)))=aV t/\F else L else if decide (t.kind=(16:Int))=true then U else if decide (t.kind=(17:Int))=true then U else L:=by
 conv=>zeta
 refine⟨?_,a6 (fun h=>?_) (fun h=>?_)⟩
 ·unfold jw
  repeat' (apply a6<;>intro _)
  all_goals simp_all
 ·have h:jw t=false:=by simpa using h
  unfold aV;rw[h];exact Xr
 have h:jw t=true:=by simpa using h
 have e0:aV t=qE t:=by unfold aV;rw[h,HR]
 rw[e0];clear h e0;unfold qE bJ eM;simp only[dnZ,dn1,dn2,dn3,dnN,dnS,dnL,dnP];generalize t.names.all aW=na;generalize t.vars.all aW=va
 repeat' (first|apply a6<;>intro _|refine⟨by omega,?_⟩|refine⟨aP (by omega) (by omega),?_⟩|fail)
 all_goals (refine⟨trivial,?_,trivial⟩;try simp_all)
 all_goals first|(simp only[Bool.and_assoc];done)|(intros;omega)
theorem w9(n:Nat)(x:Trm) (ho:szT x<=n/\cx x=true) :
  (szT x<=n/\cx x=true)/\True/\(!allT aV x)=!allT aV x/\True:=by
 exact⟨ho,trivial,by trivial,trivial⟩
theorem wa(n:Nat)(l:List Trm) (hl:Wf (.lst (.st .term)) l)(ho:∀x∈l,szT x<=n/\cx x=true) :
  let A:=allT aV;let B:=(0:Nat);let C:=(↑(List.length l):Int);let D:=l=l/\C=C/\True;let E:=dfl (Ty.st SN.term);(∃(x:Nat),(x<=List.length l/\cu A (List.drop x l) x=cu A l B)/\(0:Int)=(↑x:Int)/\D)/\∀(x:Nat),let F:=(↑x:Int);let G:=List.getD l (Int.toNat F) E;x<=List.length l/\cu A (List.drop x l) x=cu A l B->if decide (F<C)=true then((0:Int)<=F/\F<C)/\(szT G<=n/\cx G=true)/\if(!allT aV G)=true then True/\F=cu A l B/\True else inR IntKind.i64 (F+(1:Int))/\∃(y:Nat),(y<=List.length l/\cu A (List.drop y l) y=cu A l B)/\List.length l-y<List.length l-x/\F+(1:Int)=(↑y:Int)/\D else True/\(-1:Int)=cu A l B/\True:=by
 conv=>zeta
 have ln:=hl.len;simp only[HC];refine⟨⟨0,⟨Hz _,by simp⟩,rfl,by trivial,by trivial,trivial⟩,?_⟩;rintro k ⟨h1,h2⟩;apply a6<;>intro h
 ·replace h:=Xo h;have hk:k<l.length:=by omega
  rw[aT l k (dfl (.st .term)) hk,cu]at h2;refine⟨by omega,ho _ (cY l k _ hk),a6 (fun c=>?_) (fun c=>?_)⟩
  ·have c:(allT aV) (l.getD k (dfl (.st .term)))=false:=by simpa using c
   rw[c,Hh HS]at h2;rw[<-h2];exact Xr
  ·have c:(allT aV) (l.getD k (dfl (.st .term)))=true:=by simpa using c
   rw[Hj c]at h2;refine⟨cA hk ln,k+1,⟨by omega,h2⟩,by omega,by omega,by trivial,by trivial,trivial⟩
 ·replace h:¬((k:Int)<(l.length:Int)):=fun e=>h (Xd e);have e:k=l.length:=by omega
  subst e;rw[HG,cu]at h2;rw[<-h2];exact Xr
theorem wb(n:Nat)(l:List Trm) (ho:∀x∈l,szT x<=n/\cx x=true) :
  (∀(x:Trm),x∈l->szT x<=n/\cx x=true)/\True/\decide ((0:Int)<=cu (allT aV) l (0:Nat))=!List.all l (allT aV)/\True:=by
 exact⟨ho,trivial,kM (allT aV) l 0,trivial⟩
theorem Bu(n:Nat)(l:List Trm) (ho:∀x∈l,szT x<=n/\cx x=true) :
  (∀(x:Trm),x∈l->szT x<=n/\cx x=true)/\True/\(!!List.all l (allT aV))=List.all l (allT aV)/\True:=by
 exact⟨ho,trivial,Js _,trivial⟩
theorem Bv(n:Nat)(t:Trm)(ho:szT t<=n+1/\cx t=true) :
  List.length t.names<=(1000000:Nat)/\if aV t=true then(∀(x:Trm),x∈t.parts->szT x<=n/\cx x=true)/\True/\List.all t.parts (allT aV)=allT aV t/\True else True/\false=allT aV t/\True:=by
 obtain⟨h1,h2⟩:=ho;have e0:allT aV t=(aV t&&t.parts.all (allT aV)):=by rw[iV,fV]
 have h0:=mq t;rw[e0];refine⟨yp h2,a6 (fun h=>?_) (fun h=>?_)⟩
 ·rw[h,HR];exact⟨fun x hx=>⟨by have:=jV hx;omega,Bb h2 hx⟩,trivial,rfl,trivial⟩
 ·have h:aV t=false:=by simpa using h
  rw[h];exact Xr
theorem Bw(x:Trm)(ho:cx x=true) :
  let A:=szT x<=szT x;let B:=(4096:Int);let C:=True;(A/\(0:Int)<=B/\B<=(1000000:Int))/\if decide (B<(countT x B).1)=true then C/\(3:Int)=bz x/\C else if decide ((40:Int)<(countT x B).2)=true then C/\(91:Int)=bz x/\C else(A/\cx x=true)/\if(!allT aV x)=true then C/\(80:Int)=bz x/\C else C/\(0:Int)=bz x/\C:=by
 conv=>zeta
 refine⟨⟨Hu _,by omega,by omega⟩,a6 (fun h=>?_) (fun h=>?_)⟩
 ·replace h:=Xo h;unfold bz;rw[Hj h];exact Xr
 have h:¬_:=fun e=>h (Xd e);have e1:bz x=if 40<(countT x 4096).2 then 91 else if allT aV x=true then 0 else 80:=by unfold bz;rw[Hh h]
 apply a6<;>intro k
 ·rw[Hj (Xo k)]at e1;rw[e1];exact Xr
 rw[Hh (fun e=>k (Xd e))]at e1;refine⟨⟨Hu _,ho⟩,a6 (fun j=>?_) (fun j=>?_)⟩
 ·have j:allT aV x=false:=by simpa using j
  rw[j,Hh HS]at e1;rw[e1];exact Xr
 ·have j:allT aV x=true:=by simpa using j
  rw[Hj j]at e1;rw[e1];exact Xr
theorem DY(s:Str)(p:Int)(n:Nat)(k:Int)(ho:s.length<=4096/\0<=p/\p<=(s.length:Int)/\0<=k/\k<=2) :
  let A:=p+k;let B:=inR IntKind.i64 A;let C:=(↑(List.length s):Int);let D:=s=s/\p=p/\n=n/\True;B/\if decide (C<=p+k)=true then True/\(0:Int)=bAt s A/\D else B/\((0:Int)<=p+k/\p+k<C)/\True/\(↑(UInt8.toNat (List.getD s (Int.toNat A) (0:UInt8))):Int)=bAt s A/\D:=by
 conv=>zeta
 obtain⟨h1,h2,h3,h4,h5⟩:=ho;refine⟨aP (by omega) (by omega),a6 (fun h=>?_) (fun h=>?_)⟩
 ·replace h:=Xo h;refine⟨trivial,(lx h).symm,?_⟩;exact Xr
 ·replace h:¬(s.length:Int)<=p+k:=fun e=>h (Xd e);refine⟨aP (by omega) (by omega),⟨by omega,by omega⟩,trivial,(eA (by omega)).symm,?_⟩;exact Xr
theorem Fy(c:Int)  :
  let A:=True/\true=bO c/\True;if cq c=true then A else if cy c=true then A else if de c=true then A else if decide (c=(46:Int))=true then A else True/\decide (c=(45:Int))=bO c/\True:=by
 conv=>zeta
 unfold bO;cases cq c<;>cases cy c<;>cases de c<;>simp;by_cases a:c=46<;>simp[a]
theorem DZ(c:Int)  :
  True/\(!decide (c=(10:Int)))=ca c/\True:=by
 unfold ca;simp
theorem Bx(c:Int)  :
  let A:=True/\false=aZ c/\True;if decide ((32:Int)<=c)=true then if(!decide (c=(34:Int)))=true then True/\(!decide (c=(92:Int)))=aZ c/\True else A else A:=by
 conv=>zeta
 unfold aZ;by_cases a:(32:Int)<=c<;>by_cases b:c=34<;>by_cases d:c=92<;>simp[a,b,d]
theorem By(s:Str)(p:Int)(n:Nat)(ho:s.length<=4096/\0<=p/\p<=(s.length:Int)) :
  let A:=(↑(List.length s):Int);let B:=mX UInt8=mX UInt8;let C:=n=n/\True;let D:=(0:Int)<=p;let E:=(↑(ao bK s p):Int);(∃(x:Nat),let F:=(↑x:Int);(p+F<=A/\ao bK s p=x+ao bK s (p+F))/\B/\p=p/\s=s/\p=p+F/\C)/\∀(x:Nat),let F:=(↑x:Int);let G:=Int.toNat (p+F);let H:=(D/\p<=p+F/\p+F<=A)/\True/\List.drop (Int.toNat p) (List.take G s)=cut s p (p+E)/\s=s/\p+F=p+E/\C;p+F<=A/\ao bK s p=x+ao bK s (p+F)->if decide (p+F<A)=true then((0:Int)<=p+F/\p+F<A)/\if bK (↑(UInt8.toNat (List.getD s G (0:UInt8))):Int)=true then inR IntKind.i64 (p+F+(1:Int))/\∃(y:Nat),let I:=(↑y:Int);(p+I<=A/\ao bK s p=y+ao bK s (p+I))/\List.length s-y<List.length s-x/\B/\p=p/\s=s/\p+F+(1:Int)=p+I/\C else H else H:=by
 conv=>zeta
 obtain⟨a1,a2,a3⟩:=ho
 have fin:∀k:Nat,p+(k:Int)<=(s.length:Int)->ao bK s p=k->((0:Int)<=p/\p<=p+(k:Int)/\p+(k:Int)<=(s.length:Int))/\True/\
   List.drop (Int.toNat p) (List.take (Int.toNat (p+(k:Int))) s)=cut s p (p+(ao bK s p:Int))/\s=s/\p+(k:Int)=p+(ao bK s p:Int)/\n=n/\True:=by
  intro k h1 h2;refine⟨⟨by omega,by omega,by omega⟩,trivial,?_,rfl,by omega,rfl,trivial⟩;rw[h2];rfl
 refine⟨⟨0,⟨by omega,by simp⟩,rfl,rfl,rfl,by simp,rfl,trivial⟩,?_⟩;rintro k ⟨h1,h2⟩;apply a6<;>intro h
 ·replace h:=Xo h;refine⟨⟨by omega,h⟩,a6 (fun c=>?_) (fun c=>?_)⟩
  ·have e0:=cE (pr:=bK) (s:=s) (a:=p+(k:Int)) (by omega) h c;rw[e0]at h2;refine⟨aP (by omega) (by omega),k+1,⟨by omega,?_⟩,by omega,rfl,rfl,rfl,by omega,rfl,trivial⟩;have e:p+((k+1:Nat):Int)=p+(k:Int)+1:=by omega
   rw[e];omega
  ·have e0:=iT (pr:=bK) (s:=s) (a:=p+(k:Int)) (by omega) h (Ik.2 c);rw[e0]at h2;exact fin k h1 h2
 ·replace h:¬(p+(k:Int)<(s.length:Int)):=fun e=>h (Xd e);have e0:=jW (pr:=bK) (s:=s) (a:=p+(k:Int)) (by omega);rw[e0]at h2;exact fin k h1 h2
theorem Bz(s:Str)(p:Int)(n:Nat)(ho:s.length<=4096/\0<=p/\p<=(s.length:Int)) :
  let A:=(↑(List.length s):Int);let B:=mX UInt8=mX UInt8;let C:=n=n/\True;let D:=(0:Int)<=p;let E:=(↑(ao bO s p):Int);(∃(x:Nat),let F:=(↑x:Int);(p+F<=A/\ao bO s p=x+ao bO s (p+F))/\B/\p=p/\s=s/\p=p+F/\C)/\∀(x:Nat),let F:=(↑x:Int);let G:=Int.toNat (p+F);let H:=(D/\p<=p+F/\p+F<=A)/\True/\List.drop (Int.toNat p) (List.take G s)=cut s p (p+E)/\s=s/\p+F=p+E/\C;p+F<=A/\ao bO s p=x+ao bO s (p+F)->if decide (p+F<A)=true then((0:Int)<=p+F/\p+F<A)/\if bO (↑(UInt8.toNat (List.getD s G (0:UInt8))):Int)=true then inR IntKind.i64 (p+F+(1:Int))/\∃(y:Nat),let I:=(↑y:Int);(p+I<=A/\ao bO s p=y+ao bO s (p+I))/\List.length s-y<List.length s-x/\B/\p=p/\s=s/\p+F+(1:Int)=p+I/\C else H else H:=by
 conv=>zeta
 obtain⟨a1,a2,a3⟩:=ho
 have fin:∀k:Nat,p+(k:Int)<=(s.length:Int)->ao bO s p=k->((0:Int)<=p/\p<=p+(k:Int)/\p+(k:Int)<=(s.length:Int))/\True/\
   List.drop (Int.toNat p) (List.take (Int.toNat (p+(k:Int))) s)=cut s p (p+(ao bO s p:Int))/\s=s/\p+(k:Int)=p+(ao bO s p:Int)/\n=n/\True:=by
  intro k h1 h2;refine⟨⟨by omega,by omega,by omega⟩,trivial,?_,rfl,by omega,rfl,trivial⟩;rw[h2];rfl
 refine⟨⟨0,⟨by omega,by simp⟩,rfl,rfl,rfl,by simp,rfl,trivial⟩,?_⟩;rintro k ⟨h1,h2⟩;apply a6<;>intro h
 ·replace h:=Xo h;refine⟨⟨by omega,h⟩,a6 (fun c=>?_) (fun c=>?_)⟩
  ·have e0:=cE (pr:=bO) (s:=s) (a:=p+(k:Int)) (by omega) h c;rw[e0]at h2;refine⟨aP (by omega) (by omega),k+1,⟨by omega,?_⟩,by omega,rfl,rfl,rfl,by omega,rfl,trivial⟩;have e:p+((k+1:Nat):Int)=p+(k:Int)+1:=by omega
   rw[e];omega
  ·have e0:=iT (pr:=bO) (s:=s) (a:=p+(k:Int)) (by omega) h (Ik.2 c);rw[e0]at h2;exact fin k h1 h2
 ·replace h:¬(p+(k:Int)<(s.length:Int)):=fun e=>h (Xd e);have e0:=jW (pr:=bO) (s:=s) (a:=p+(k:Int)) (by omega);rw[e0]at h2;exact fin k h1 h2
theorem BA(s:Str)(p:Int)(n:Nat)(ho:s.length<=4096/\0<=p/\p<=(s.length:Int)) :
  let A:=(↑(List.length s):Int);let B:=mX UInt8=mX UInt8;let C:=n=n/\True;let D:=(0:Int)<=p;let E:=(↑(ao ca s p):Int);(∃(x:Nat),let F:=(↑x:Int);(p+F<=A/\ao ca s p=x+ao ca s (p+F))/\B/\p=p/\s=s/\p=p+F/\C)/\∀(x:Nat),let F:=(↑x:Int);let G:=Int.toNat (p+F);let H:=(D/\p<=p+F/\p+F<=A)/\True/\List.drop (Int.toNat p) (List.take G s)=cut s p (p+E)/\s=s/\p+F=p+E/\C;p+F<=A/\ao ca s p=x+ao ca s (p+F)->if decide (p+F<A)=true then((0:Int)<=p+F/\p+F<A)/\if ca (↑(UInt8.toNat (List.getD s G (0:UInt8))):Int)=true then inR IntKind.i64 (p+F+(1:Int))/\∃(y:Nat),let I:=(↑y:Int);(p+I<=A/\ao ca s p=y+ao ca s (p+I))/\List.length s-y<List.length s-x/\B/\p=p/\s=s/\p+F+(1:Int)=p+I/\C else H else H:=by
 conv=>zeta
 obtain⟨a1,a2,a3⟩:=ho
 have fin:∀k:Nat,p+(k:Int)<=(s.length:Int)->ao ca s p=k->((0:Int)<=p/\p<=p+(k:Int)/\p+(k:Int)<=(s.length:Int))/\True/\
   List.drop (Int.toNat p) (List.take (Int.toNat (p+(k:Int))) s)=cut s p (p+(ao ca s p:Int))/\s=s/\p+(k:Int)=p+(ao ca s p:Int)/\n=n/\True:=by
  intro k h1 h2;refine⟨⟨by omega,by omega,by omega⟩,trivial,?_,rfl,by omega,rfl,trivial⟩;rw[h2];rfl
 refine⟨⟨0,⟨by omega,by simp⟩,rfl,rfl,rfl,by simp,rfl,trivial⟩,?_⟩;rintro k ⟨h1,h2⟩;apply a6<;>intro h
 ·replace h:=Xo h;refine⟨⟨by omega,h⟩,a6 (fun c=>?_) (fun c=>?_)⟩
  ·have e0:=cE (pr:=ca) (s:=s) (a:=p+(k:Int)) (by omega) h c;rw[e0]at h2;refine⟨aP (by omega) (by omega),k+1,⟨by omega,?_⟩,by omega,rfl,rfl,rfl,by omega,rfl,trivial⟩;have e:p+((k+1:Nat):Int)=p+(k:Int)+1:=by omega
   rw[e];omega
  ·have e0:=iT (pr:=ca) (s:=s) (a:=p+(k:Int)) (by omega) h (Ik.2 c);rw[e0]at h2;exact fin k h1 h2
 ·replace h:¬(p+(k:Int)<(s.length:Int)):=fun e=>h (Xd e);have e0:=jW (pr:=ca) (s:=s) (a:=p+(k:Int)) (by omega);rw[e0]at h2;exact fin k h1 h2
theorem BB(s:Str)(p:Int)(n:Nat)(ho:s.length<=4096/\0<=p/\p<=(s.length:Int)) :
  let A:=(↑(List.length s):Int);let B:=mX UInt8=mX UInt8;let C:=n=n/\True;let D:=(0:Int)<=p;let E:=(↑(ao aZ s p):Int);(∃(x:Nat),let F:=(↑x:Int);(p+F<=A/\ao aZ s p=x+ao aZ s (p+F))/\B/\p=p/\s=s/\p=p+F/\C)/\∀(x:Nat),let F:=(↑x:Int);let G:=Int.toNat (p+F);let H:=(D/\p<=p+F/\p+F<=A)/\True/\List.drop (Int.toNat p) (List.take G s)=cut s p (p+E)/\s=s/\p+F=p+E/\C;p+F<=A/\ao aZ s p=x+ao aZ s (p+F)->if decide (p+F<A)=true then((0:Int)<=p+F/\p+F<A)/\if aZ (↑(UInt8.toNat (List.getD s G (0:UInt8))):Int)=true then inR IntKind.i64 (p+F+(1:Int))/\∃(y:Nat),let I:=(↑y:Int);(p+I<=A/\ao aZ s p=y+ao aZ s (p+I))/\List.length s-y<List.length s-x/\B/\p=p/\s=s/\p+F+(1:Int)=p+I/\C else H else H:=by
 conv=>zeta
 obtain⟨a1,a2,a3⟩:=ho
 have fin:∀k:Nat,p+(k:Int)<=(s.length:Int)->ao aZ s p=k->((0:Int)<=p/\p<=p+(k:Int)/\p+(k:Int)<=(s.length:Int))/\True/\
   List.drop (Int.toNat p) (List.take (Int.toNat (p+(k:Int))) s)=cut s p (p+(ao aZ s p:Int))/\s=s/\p+(k:Int)=p+(ao aZ s p:Int)/\n=n/\True:=by
  intro k h1 h2;refine⟨⟨by omega,by omega,by omega⟩,trivial,?_,rfl,by omega,rfl,trivial⟩;rw[h2];rfl
 refine⟨⟨0,⟨by omega,by simp⟩,rfl,rfl,rfl,by simp,rfl,trivial⟩,?_⟩;rintro k ⟨h1,h2⟩;apply a6<;>intro h
 ·replace h:=Xo h;refine⟨⟨by omega,h⟩,a6 (fun c=>?_) (fun c=>?_)⟩
  ·have e0:=cE (pr:=aZ) (s:=s) (a:=p+(k:Int)) (by omega) h c;rw[e0]at h2;refine⟨aP (by omega) (by omega),k+1,⟨by omega,?_⟩,by omega,rfl,rfl,rfl,by omega,rfl,trivial⟩;have e:p+((k+1:Nat):Int)=p+(k:Int)+1:=by omega
   rw[e];omega
  ·have e0:=iT (pr:=aZ) (s:=s) (a:=p+(k:Int)) (by omega) h (Ik.2 c);rw[e0]at h2;exact fin k h1 h2
 ·replace h:¬(p+(k:Int)<(s.length:Int)):=fun e=>h (Xd e);have e0:=jW (pr:=aZ) (s:=s) (a:=p+(k:Int)) (by omega);rw[e0]at h2;exact fin k h1 h2
theorem BC(s:Str)(ho:s.length<=4096) :
  let A:=(0:Int);let B:=(↑(List.length s):Int);let C:=(8:Nat);let D:=True;let E:=A=A/\A=A/\D;let F:=List.take (Int.toNat B) s;let G:=u4 s;let H:=(30:Int)=G.err;let I:=D/\A=G.err/\A=G.pos/\D;let J:=(140737488355328:Nat);(A<=B/\B*(↑C:Int)<=(140737488355328:Int))/\(∃(x:Nat×List Int),(x.1<=List.length s/\List.length x.2<=x.1/\bS s=iC s x.1)/\[]=x.2/\A=(↑x.1:Int)/\s=s/\(0:Nat)=List.length x.2/\E)/\∀(x:Nat×List Int),let K:=(↑x.1:Int);let L:=gM (List.drop (Int.toNat K) F);let M:=(↑L.1:Int);let N:=(↑L.2:Int);let O:=if decide (K<B)=true then D/\H/\K=G.pos/\D else I;let P:=inR IntKind.i64 M/\(List.length x.2=List.length x.2/\(List.length x.2+List.length [M])*C<=J)/\inR IntKind.i64 (K+N)/\∃(y:Nat×List Int),(y.1<=List.length s/\List.length y.2<=y.1/\bS s=iC s y.1)/\List.length s-y.1<List.length s-x.1/\x.2++[M]=y.2/\K+N=(↑y.1:Int)/\s=s/\List.length (x.2++[M])=List.length y.2/\E;x.1<=List.length s/\List.length x.2<=x.1/\bS s=iC s x.1->if decide (K<B)=true then(A<=K/\K<=B/\B<=B)/\if decide (M=(65533:Int))=true then if decide (N=(1:Int))=true then O else P else P else O:=by
 conv=>zeta
 refine⟨⟨by omega,by omega⟩,⟨(0,[]),⟨Hz _,Hu _,rfl⟩,rfl,rfl,rfl,rfl,rfl,rfl,trivial⟩,?_⟩;rintro⟨k,xs⟩ ⟨h1,h2,h3⟩;simp only[HC,Ja]at h1 h2 h3⊢;apply a6<;>intro h
 ·have hk:k<s.length:=by have:=Xo h;omega
  have hx:s.drop k≠[]:=by intro e;have:=Jj List.length e;simp at this;omega
  obtain⟨g1,g2,g3,g4,g5⟩:=ju hx;rw[Ih]at g5;refine⟨⟨by omega,by omega,by omega⟩,a6 (fun c=>?_) (fun c=>?_)⟩
  ·replace c:=Xo c;apply a6<;>intro d
   ·replace d:=Xo d;have hu:=g1.1 ⟨by omega,by omega⟩;rw[B3 hk hu]at h3;rw[Hj h];unfold u4;rw[h3];exact Xr
   ·have hd:¬((gM (s.drop k)).2:Int)=1:=fun e=>d (Xd e);have hu:dU (s.drop k)≠0:=by intro e;have:=g1.2 e;exact hd (by omega)
    have g6:=g2 hu;have hs:=qp hk hu;refine⟨aP (by omega) (by omega),⟨(by first|rfl|trivial),by simp only[Hm];omega⟩,aP (by omega) (by omega),(k+(gM (s.drop k)).2,xs++[((gM (s.drop k)).1:Int)]),⟨by show k+_<=_;omega,by show(xs++[_]).length<=k+_;rw[Ho,Hm];omega,?_⟩,by show s.length-(k+_)<_;omega,(by first|rfl|trivial),by show(k:Int)+_=((k+_:Nat):Int);omega,(by first|rfl|trivial),(by first|rfl|trivial),(by first|rfl|trivial),(by first|rfl|trivial),trivial⟩;show bS s=iC s (k+_);rw[h3,hs,g6]
  ·have hc:¬((gM (s.drop k)).1:Int)=65533:=fun e=>c (Xd e);have hu:dU (s.drop k)≠0:=by intro e;have:=g1.2 e;exact hc (by omega)
   have g6:=g2 hu;have hs:=qp hk hu;refine⟨aP (by omega) (by omega),⟨(by first|rfl|trivial),by simp only[Hm];omega⟩,aP (by omega) (by omega),(k+(gM (s.drop k)).2,xs++[((gM (s.drop k)).1:Int)]),⟨by show k+_<=_;omega,by show(xs++[_]).length<=k+_;rw[Ho,Hm];omega,?_⟩,by show s.length-(k+_)<_;omega,(by first|rfl|trivial),by show(k:Int)+_=((k+_:Nat):Int);omega,(by first|rfl|trivial),(by first|rfl|trivial),(by first|rfl|trivial),(by first|rfl|trivial),trivial⟩;show bS s=iC s (k+_);rw[h3,hs,g6]
 ·have hk:s.length<=k:=by have:¬((k:Int)<(s.length:Int)):=fun e=>h (Xd e);omega
  rw[B2 hk]at h3;rw[Hh h];unfold u4;rw[h3];exact Xr
theorem yF(s:Str)  :
  if(!decide (s=[]))=true then([48,49,50,51,52,53,54,55,56,57]:Str)=oL/\True/\decide (lS s=[])=da s/\True else True/\false=da s/\True:=by
 have e:∀l:Str,(l.all iU)=l.all fun c=>de (bI c):=fun _=>rfl;apply a6<;>intro h
 ·refine⟨rfl,trivial,?_,trivial⟩;unfold da;rw[h,HR,<-e];exact Bool.eq_iff_iff.2 (decide_eq_true_iff.trans (sr s))
 ·refine⟨trivial,?_,trivial⟩;unfold da;rw[HV]at h;rw[h,HP]
theorem E0(s:Str)(hs:Wf .str s) :
  let A:=True/\false=fK s/\True;let B:=(0:Int);let C:=(↑(List.length s):Int);let D:=(0:UInt8);let E:=(List.all s fun(c:UInt8)=>iK (bI c));let F:=s=s/\false=false/\C=C/\True;let G:=(1:Int);let H:=(65:Int);let I:=(90:Int);let J:=(45:Int);let K:=(∃(x:Nat),(x<=List.length s/\E=List.all (List.drop x s) fun(c:UInt8)=>iK (bI c))/\B=(↑x:Int)/\F)/\∀(x:Nat),let L:=(↑x:Int);let M:=(↑(UInt8.toNat (List.getD s (Int.toNat L) D)):Int);let N:=inR IntKind.i64 (L+G)/\∃(y:Nat),(y<=List.length s/\E=List.all (List.drop y s) fun(c:UInt8)=>iK (bI c))/\List.length s-y<List.length s-x/\L+G=(↑y:Int)/\F;let O:=if(!decide (M=J))=true then A else N;let P:=if decide (H<=M)=true then if decide (M<=I)=true then N else O else O;let Q:=if decide ((97:Int)<=M)=true then if decide (M<=(122:Int))=true then N else P else P;(x<=List.length s/\E=List.all (List.drop x s) fun(c:UInt8)=>iK (bI c))->if decide (L<C)=true then(B<=L/\L<C)/\if decide ((48:Int)<=M)=true then if decide (M<=(57:Int))=true then N else Q else Q else True/\true=fK s/\True;if decide (s=[])=true then A else if da s=true then(B<=B/\B<C)/\if decide ((↑(UInt8.toNat (List.getD s (Int.toNat B) D)):Int)=(48:Int))=true then if(!decide (s=([48]:Str)))=true then A else K else K else K:=by
 conv=>zeta
 apply a6<;>intro h
 ·replace h:=Xo h;subst h;exact Xr
 have hne:s≠[]:=fun e=>h (Xd e);have hpos:=Ip.2 hne;apply a6<;>intro h1
 ·refine⟨⟨by omega,by omega⟩,a6 (fun h2=>?_) (fun h2=>?_)⟩
  ·apply a6<;>intro h3
   ·refine⟨trivial,?_,trivial⟩;have e:decide (bI (s.getD 0 0)=48)=true:=h2;unfold fK;rw[h1,e,h3];simp
   ·have hz:(da s&&decide (bI (s.getD 0 0)=48)&&!decide (s=[48]))=false:=by rw[HV]at h3;rw[h3,Iq]
    refine⟨⟨0,⟨Hz _,rfl⟩,rfl,rfl,rfl,rfl,trivial⟩,?_⟩;rintro k ⟨h1,h2⟩;simp only[HC];apply a6<;>intro h
    ·have hk:k<s.length:=by have:=Xo h;omega
     rw[aT s k 0 hk,HZ]at h2;have eb:((s.getD k 0).toNat:Int)=bI (s.getD k 0):=rfl;refine⟨⟨by omega,by omega⟩,?_⟩;simp only[eb];have hp:=qt (bI (s.getD k 0));have yes:iK (bI (s.getD k 0))=true->(s.all fun c=>iK (bI c))=(s.drop (k+1)).all fun c=>iK (bI c):=fun e=>by rw[h2,e,HR]
     have no:¬iK (bI (s.getD k 0))=true->false=fK s:=fun e=>by rw[jv hne hz,h2,Ik.2 e,HP]
     generalize bI (s.getD k 0)=c at hp yes no⊢
     repeat' (apply a6<;>intro _)
     all_goals (simp only[Hq,HB,HI]at *)
     all_goals first
      |exact⟨trivial,no (fun e=>by have:=hp.1 e;omega),trivial⟩
      |exact⟨cA hk hs.str,k+1,⟨by omega,yes (hp.2 (by omega))⟩,by omega,by omega,(by first|rfl|trivial),(by first|rfl|trivial),(by first|rfl|trivial),trivial⟩
    ·have hk:k=s.length:=by have:¬((k:Int)<(s.length:Int)):=fun e=>h (Xd e);omega
     refine⟨trivial,?_,trivial⟩;rw[jv hne hz,h2,hk,HG];rfl
  ·have hz:(da s&&decide (bI (s.getD 0 0)=48)&&!decide (s=[48]))=false:=by
    have e:decide (bI (s.getD 0 0)=48)=false:=by rw[HV]at h2;exact h2
    rw[e,Iq,HP]
   refine⟨⟨0,⟨Hz _,rfl⟩,rfl,rfl,rfl,rfl,trivial⟩,?_⟩;rintro k ⟨h1,h2⟩;simp only[HC];apply a6<;>intro h
   ·have hk:k<s.length:=by have:=Xo h;omega
    rw[aT s k 0 hk,HZ]at h2;have eb:((s.getD k 0).toNat:Int)=bI (s.getD k 0):=rfl;refine⟨⟨by omega,by omega⟩,?_⟩;simp only[eb];have hp:=qt (bI (s.getD k 0));have yes:iK (bI (s.getD k 0))=true->(s.all fun c=>iK (bI c))=(s.drop (k+1)).all fun c=>iK (bI c):=fun e=>by rw[h2,e,HR]
    have no:¬iK (bI (s.getD k 0))=true->false=fK s:=fun e=>by rw[jv hne hz,h2,Ik.2 e,HP]
    generalize bI (s.getD k 0)=c at hp yes no⊢
    repeat' (apply a6<;>intro _)
    all_goals (simp only[Hq,HB,HI]at *)
    all_goals first
     |exact⟨trivial,no (fun e=>by have:=hp.1 e;omega),trivial⟩
     |exact⟨cA hk hs.str,k+1,⟨by omega,yes (hp.2 (by omega))⟩,by omega,by omega,(by first|rfl|trivial),(by first|rfl|trivial),(by first|rfl|trivial),trivial⟩
   ·have hk:k=s.length:=by have:¬((k:Int)<(s.length:Int)):=fun e=>h (Xd e);omega
    refine⟨trivial,?_,trivial⟩;rw[jv hne hz,h2,hk,HG];rfl
 ·have hz:(da s&&decide (bI (s.getD 0 0)=48)&&!decide (s=[48]))=false:=by rw[HV]at h1;rw[h1,HP,HP]
  refine⟨⟨0,⟨Hz _,rfl⟩,rfl,rfl,rfl,rfl,trivial⟩,?_⟩;rintro k ⟨h1,h2⟩;simp only[HC];apply a6<;>intro h
  ·have hk:k<s.length:=by have:=Xo h;omega
   rw[aT s k 0 hk,HZ]at h2;have eb:((s.getD k 0).toNat:Int)=bI (s.getD k 0):=rfl;refine⟨⟨by omega,by omega⟩,?_⟩;simp only[eb];have hp:=qt (bI (s.getD k 0));have yes:iK (bI (s.getD k 0))=true->(s.all fun c=>iK (bI c))=(s.drop (k+1)).all fun c=>iK (bI c):=fun e=>by rw[h2,e,HR]
   have no:¬iK (bI (s.getD k 0))=true->false=fK s:=fun e=>by rw[jv hne hz,h2,Ik.2 e,HP]
   generalize bI (s.getD k 0)=c at hp yes no⊢
   repeat' (apply a6<;>intro _)
   all_goals (simp only[Hq,HB,HI]at *)
   all_goals first
    |exact⟨trivial,no (fun e=>by have:=hp.1 e;omega),trivial⟩
    |exact⟨cA hk hs.str,k+1,⟨by omega,yes (hp.2 (by omega))⟩,by omega,by omega,(by first|rfl|trivial),(by first|rfl|trivial),(by first|rfl|trivial),trivial⟩
  ·have hk:k=s.length:=by have:¬((k:Int)<(s.length:Int)):=fun e=>h (Xd e);omega
   refine⟨trivial,?_,trivial⟩;rw[jv hne hz,h2,hk,HG];rfl
theorem BD(v:Vers)(hv:Wf (.st .version) v) :
  let A:=(3:Nat);let B:=[v.major,v.minor,v.patch];let C:=(0:Int);let D:=(↑(List.length B):Int);let E:=v=v/\List.length B=List.length B/\True;let F:=v=v/\B=B/\D=D/\E;let G:=dfl (Ty.int IntKind.i64);let H:=True/\(40:Int)=dN v/\True;let I:=(1:Int);let J:=(46:UInt8);let K:=splitB J v.pre;let L:=(↑(List.length K):Int);let M:=v=v/\B=B/\D=D/\false=false/\false=false/\true=true/\splitB J v.pre=splitB J v.pre/\L=L/\E;let N:=True/\C=dN v/\True;(∃(x:Nat),(x<=A/\List.all (List.take x B) oM=true)/\C=(↑x:Int)/\F)/\∀(x:Nat),let O:=(↑x:Int);x<=A/\List.all (List.take x B) oM=true->if decide (O<D)=true then(C<=O/\O<D)/\if decide (List.getD B (Int.toNat O) G<C)=true then H else if decide ((999999:Int)<List.getD B (Int.toNat O) G)=true then H else inR IntKind.i64 (O+I)/\∃(y:Nat),(y<=A/\List.all (List.take y B) oM=true)/\A-y<A-x/\O+I=(↑y:Int)/\F else if decide ((24:Int)<(↑(List.length v.pre):Int))=true then H else if(!decide (v.pre=[]))=true then(([46]:Str)=([46]:Str)/\List.length v.pre<(4294967281:Nat))/\(∃(x_1:Nat),(x_1<=List.length K/\List.all (List.take x_1 K) fK=true)/\C=(↑x_1:Int)/\O=O/\M)/\∀(x_1:Nat),let P:=(↑x_1:Int);x_1<=List.length K/\List.all (List.take x_1 K) fK=true->if decide (P<L)=true then(C<=P/\P<L)/\if(!fK (List.getD K (Int.toNat P) (dfl Ty.str)))=true then H else inR IntKind.i64 (P+I)/\∃(y:Nat),(y<=List.length K/\List.all (List.take y K) fK=true)/\List.length K-y<List.length K-x_1/\P+I=(↑y:Int)/\O=O/\M else N else N:=by
 conv=>zeta
 have bad:∀k:Nat,k<3->oM ([v.major,v.minor,v.patch].getD k (dfl (.int .i64)))=false->True/\(40:Int)=dN v/\True:=fun k hk e=>
  ⟨trivial,(yl (nd (l:=[v.major,v.minor,v.patch]) (dfl (.int .i64)) hk e)).symm,trivial⟩
 refine⟨⟨0,⟨by omega,rfl⟩,?_⟩,?_⟩
 ·exact Xr
 rintro k ⟨h1,h2⟩;have l3:[v.major,v.minor,v.patch].length=3:=rfl;simp only[HC,l3];apply a6<;>intro h
 ·have hk:k<3:=by have:=Xo h;omega
  have bk:=bad k hk;have gk:=fZ (l:=[v.major,v.minor,v.patch]) (dfl (.int .i64)) hk h2;refine⟨⟨by omega,by omega⟩,?_⟩;refine a6 (fun a=>bk ?_) (fun a=>a6 (fun b=>bk ?_) (fun b=>?_))
  ·have:=Xo a;have e:¬0<=[v.major,v.minor,v.patch].getD k (dfl (.int .i64)):=by omega
   unfold oM;rw[Xf e,HP]
  ·have:=Xo b;have e:¬[v.major,v.minor,v.patch].getD k (dfl (.int .i64))<=999999:=by omega
   unfold oM;rw[Xf e,Iq]
  ·have a:¬[v.major,v.minor,v.patch].getD k (dfl (.int .i64))<0:=fun e=>a (Xd e);have b:¬999999<[v.major,v.minor,v.patch].getD k (dfl (.int .i64)):=fun e=>b (Xd e);have a':0<=[v.major,v.minor,v.patch].getD k (dfl (.int .i64)):=by omega
   have b':[v.major,v.minor,v.patch].getD k (dfl (.int .i64))<=999999:=by omega
   refine⟨aP (by omega) (by omega),k+1,⟨by omega,gk ?_⟩,by omega,by omega,?_⟩
   ·unfold oM;rw[Xd a',Xd b'];rfl
   ·exact Xr
 ·have hk:k=3:=by have:¬((k:Int)<((3:Nat):Int)):=fun e=>h (Xd e);omega
  subst hk;have hg:=vK h2;apply a6<;>intro a
  ·have:=Xo a;rw[Hj (by omega)]at hg;rw[hg];exact Xr
  have a:¬(24:Int)<(v.pre.length:Int):=fun e=>a (Xd e);have hl:=j9 46 v.pre;rw[Hh (by omega)]at hg;apply a6<;>intro b
  ·have b:¬v.pre=[]:=by simpa using b
   rw[Hh b]at hg;refine⟨⟨(by first|rfl|trivial),by omega⟩,⟨0,⟨by omega,rfl⟩,?_⟩,?_⟩
   ·exact Xr
   rintro j ⟨j1,j2⟩;apply a6<;>intro c
   ·have hj:j<(splitB 46 v.pre).length:=by have:=Xo c;omega
    refine⟨⟨by omega,by omega⟩,a6 (fun d=>?_) (fun d=>?_)⟩
    ·have d:fK ((splitB 46 v.pre).getD j (dfl .str))=false:=by simpa using d
     rw[nd (dfl .str) hj d,Hh HS]at hg;rw[hg];exact Xr
    ·have d:fK ((splitB 46 v.pre).getD j (dfl .str))=true:=by simpa using d
     refine⟨aP (by omega) (by omega),j+1,⟨by omega,fZ (dfl .str) hj j2 d⟩,by omega,by omega,?_⟩;exact Xr
   ·have hj:(splitB 46 v.pre).length<=j:=by have:¬((j:Int)<((splitB 46 v.pre).length:Int)):=fun e=>c (Xd e);omega
    rw[qu hj]at j2;rw[Hj j2]at hg;rw[hg];exact Xr
  ·have b:v.pre=[]:=by simpa using b
   rw[Hj b]at hg;rw[hg];exact Xr
theorem BE(s:Str)(ho:s.length<=4096) :
  let A:=(4294967281:Nat);let B:=aS s;let C:=(46:UInt8);let D:=splitB C B;let E:=(↑(List.length D):Int);let F:=True;let G:=(0:Int);let H:=dO s;let I:=G=H.1.major;let J:=G=H.1.minor;let K:=G=H.1.patch;let L:=[]=H.1.pre;let M:=F/\I/\J/\K/\L/\(40:Int)=H.2/\F;let N:=(3:Nat);let O:=aS s=aS s;let P:=dY s=dY s;let Q:=iA s=iA s;let R:=splitB C B=splitB C B;let S:=false=false;let T:=G=G/\G=G/\G=G/\mX UInt8=mX UInt8/\F;let U:=dfl Ty.str;let V:=(1:Int);let W:=Int.toNat G;let X:=(↑N:Int);let Y:=(2:Int);let Z:=dfl (Ty.int IntKind.i64);let a:=Int.toNat V;let b:=Int.toNat Y;let c:=(∃(x:Nat),(x<=N/\List.all (List.take x D) fq=true)/\G=(↑x:Int)/\s=s/\O/\P/\Q/\R/\S/\R/\E=E/\List.replicate N G=nc s x/\T)/\∀(x:Nat),let d:=(↑x:Int);let e:=List.getD D (Int.toNat d) U;let f:=(↑(List.length e):Int);let g:=nc s x;let h:=js e/\(G<=d/\d<X)/\Int.toNat d<List.length g/\inR IntKind.i64 (d+V)/\∃(y:Nat),(y<=N/\List.all (List.take y D) fq=true)/\N-y<N-x/\d+V=(↑y:Int)/\s=s/\O/\P/\Q/\R/\S/\R/\E=E/\List.set g (Int.toNat d) (iR e)=nc s y/\T;x<=N/\List.all (List.take x D) fq=true->if decide (d<E)=true then(G<=d/\d<E)/\if(!da e)=true then M else if decide ((6:Int)<f)=true then M else if decide (V<f)=true then(G<=G/\G<f)/\if decide ((↑(UInt8.toNat (List.getD e W (0:UInt8))):Int)=(48:Int))=true then M else h else h else(G<=G/\G<X)/\Int.toNat G<List.length g/\(G<=V/\V<X)/\Int.toNat V<List.length g/\(G<=Y/\Y<X)/\Int.toNat Y<List.length g/\if(!decide (dN {major:=List.getD g W Z,minor:=List.getD g a Z,patch:=List.getD g b Z,pre:=dY s:Vers}=G))=true then F/\I/\J/\K/\L/\dN {major:=List.getD g W Z,minor:=List.getD g a Z,patch:=List.getD g b Z,pre:=dY s:Vers}=H.2/\F else F/\List.getD g W Z=H.1.major/\List.getD g a Z=H.1.minor/\List.getD g b Z=H.1.patch/\dY s=H.1.pre/\G=H.2/\F;(([45]:Str)=([45]:Str)/\List.length s<A)/\(([46]:Str)=([46]:Str)/\List.length B<A)/\if(!decide (E=(3:Int)))=true then M else if iA s=true then if decide (dY s=[])=true then M else c else c:=by
 conv=>zeta
 have bad:dO s=(noV,40)->True/\(0:Int)=(dO s).1.major/\(0:Int)=(dO s).1.minor/\(0:Int)=(dO s).1.patch/\[]=(dO s).1.pre/\(40:Int)=(dO s).2/\True:=fun e=>by rw[e];exact Xr
 have hc:=su s;refine⟨⟨(by first|rfl|trivial),by omega⟩,⟨(by first|rfl|trivial),by omega⟩,a6 (fun a=>?_) (fun a=>?_)⟩
 ·exact bad (vL (fun e=>by rw[e]at a;simp at a))
 have a:(splitB 46 (aS s)).length=3:=by simp only[HB,HI,Decidable.not_not]at a;omega
 refine a6 (fun b=>a6 (fun c=>?_) (fun c=>?_)) (fun b=>?_)
 ·exact bad (vM b (Xo c))
 ·have he:=oy a (fun _ e=>c (Xd e));refine⟨⟨0,⟨by omega,rfl⟩,?_⟩,?_⟩
  ·exact Xr
  rintro k ⟨h1,h2⟩;have lr:(nc s k).length=3:=rfl;simp only[HC,lr];apply a6<;>intro h
  ·have hk:k<(splitB 46 (aS s)).length:=by have:=Xo h;omega
   refine⟨⟨by omega,by omega⟩,?_⟩;have no:fq ((splitB 46 (aS s)).getD k (dfl .str))=false->dO s=(noV,40):=fun e=>by rw[he,nd (dfl .str) hk e,Hh HS]
   have yes:fq ((splitB 46 (aS s)).getD k (dfl .str))=true->((splitB 46 (aS s)).take (k+1)).all fq=true:=fZ (dfl .str) hk h2;have hset:=vN (s:=s) (k:=k) (by omega);refine a6 (fun a=>bad (no ?_)) (fun a=>a6 (fun b=>bad (no ?_)) (fun b=>a6 (fun c=>⟨⟨by omega,by have:=Xo c;omega⟩,a6 (fun d=>bad (no ?_)) (fun d=>?_)⟩) (fun c=>?_)))
   ·unfold fq;rw[HB]at a;rw[a,HP,HP]
   ·have:=Xo b;unfold fq;rw[Xf (p:=List.length ((splitB 46 (aS s)).getD k (dfl .str))<=6) (by omega),Iq,HP]
   ·have e:decide (bI (((splitB 46 (aS s)).getD k (dfl .str)).getD 0 0)=48)=true:=d;have c:=Xo c;unfold fq;rw[e,Xd (p:=1<List.length ((splitB 46 (aS s)).getD k (dfl .str))) (by omega)];simp
   ·have e:decide (bI (((splitB 46 (aS s)).getD k (dfl .str)).getD 0 0)=48)=false:=by rw[HV]at d;exact d
    have b:¬(6:Int)<_:=fun x=>b (Xd x);have en:fq ((splitB 46 (aS s)).getD k (dfl .str))=true:=by unfold fq;rw[e];simp only[HB,Ju]at a;rw[a,Xd (p:=List.length ((splitB 46 (aS s)).getD k (dfl .str))<=6) (by omega)];simp
    have ed:da ((splitB 46 (aS s)).getD k (dfl .str))=true/\((splitB 46 (aS s)).getD k (dfl .str)).length<=6:=by have e:=en;unfold fq at e;simp only[Hk,Hq]at e;exact⟨e.1.1,e.1.2⟩
    refine⟨gx ed.1 (by omega),⟨by omega,by omega⟩,by omega,aP (by omega) (by omega),k+1,⟨by omega,yes en⟩,by omega,by omega,?_⟩
    repeat (first|exact trivial|refine⟨by first|rfl|(exact hset)|trivial,?_⟩)
   ·have b:¬(6:Int)<_:=fun x=>b (Xd x);have c:¬(1:Int)<_:=fun x=>c (Xd x);have en:fq ((splitB 46 (aS s)).getD k (dfl .str))=true:=by unfold fq;simp only[HB,Ju]at a;rw[a,Xd (p:=List.length ((splitB 46 (aS s)).getD k (dfl .str))<=6) (by omega),Xf (p:=1<List.length ((splitB 46 (aS s)).getD k (dfl .str))) (by omega)];simp
    have ed:da ((splitB 46 (aS s)).getD k (dfl .str))=true/\((splitB 46 (aS s)).getD k (dfl .str)).length<=6:=by have e:=en;unfold fq at e;simp only[Hk,Hq]at e;exact⟨e.1.1,e.1.2⟩
    refine⟨gx ed.1 (by omega),⟨by omega,by omega⟩,by omega,aP (by omega) (by omega),k+1,⟨by omega,yes en⟩,by omega,by omega,?_⟩
    repeat (first|exact trivial|refine⟨by first|rfl|(exact hset)|trivial,?_⟩)
  ·have hk:k=3:=by have:¬((k:Int)<((splitB 46 (aS s)).length:Int)):=fun e=>h (Xd e);omega
   subst hk;rw[qu (by omega)]at h2;rw[Hj h2]at he;have ev:(⟨List.getD (nc s 3) (Int.toNat 0) (dfl (Ty.int IntKind.i64)),List.getD (nc s 3) (Int.toNat 1) (dfl (Ty.int IntKind.i64)),List.getD (nc s 3) (Int.toNat 2) (dfl (Ty.int IntKind.i64)),dY s⟩:Vers)=fb s:=rfl;refine⟨⟨by omega,by omega⟩,by decide,⟨by omega,by omega⟩,by decide,⟨by omega,by omega⟩,by decide,?_⟩;apply a6<;>intro a
   ·have a:¬dN (fb s)=0:=by rw[<-ev];simpa using a
    rw[Hh a]at he;have a4:=(qv (fb s)).resolve_left a;rw[he,ev,a4]
    repeat (first|exact trivial|refine⟨by first|rfl|(exact hset)|trivial,?_⟩)
   ·have a:dN (fb s)=0:=by rw[<-ev];simpa using a
    rw[Hj a]at he;rw[he]
    repeat (first|exact trivial|refine⟨by first|rfl|(exact hset)|trivial,?_⟩)
 ·have he:=oy a (fun e=>absurd e b);refine⟨⟨0,⟨by omega,rfl⟩,?_⟩,?_⟩
  ·exact Xr
  rintro k ⟨h1,h2⟩;have lr:(nc s k).length=3:=rfl;simp only[HC,lr];apply a6<;>intro h
  ·have hk:k<(splitB 46 (aS s)).length:=by have:=Xo h;omega
   refine⟨⟨by omega,by omega⟩,?_⟩;have no:fq ((splitB 46 (aS s)).getD k (dfl .str))=false->dO s=(noV,40):=fun e=>by rw[he,nd (dfl .str) hk e,Hh HS]
   have yes:fq ((splitB 46 (aS s)).getD k (dfl .str))=true->((splitB 46 (aS s)).take (k+1)).all fq=true:=fZ (dfl .str) hk h2;have hset:=vN (s:=s) (k:=k) (by omega);refine a6 (fun a=>bad (no ?_)) (fun a=>a6 (fun b=>bad (no ?_)) (fun b=>a6 (fun c=>⟨⟨by omega,by have:=Xo c;omega⟩,a6 (fun d=>bad (no ?_)) (fun d=>?_)⟩) (fun c=>?_)))
   ·unfold fq;rw[HB]at a;rw[a,HP,HP]
   ·have:=Xo b;unfold fq;rw[Xf (p:=List.length ((splitB 46 (aS s)).getD k (dfl .str))<=6) (by omega),Iq,HP]
   ·have e:decide (bI (((splitB 46 (aS s)).getD k (dfl .str)).getD 0 0)=48)=true:=d;have c:=Xo c;unfold fq;rw[e,Xd (p:=1<List.length ((splitB 46 (aS s)).getD k (dfl .str))) (by omega)];simp
   ·have e:decide (bI (((splitB 46 (aS s)).getD k (dfl .str)).getD 0 0)=48)=false:=by rw[HV]at d;exact d
    have b:¬(6:Int)<_:=fun x=>b (Xd x);have en:fq ((splitB 46 (aS s)).getD k (dfl .str))=true:=by unfold fq;rw[e];simp only[HB,Ju]at a;rw[a,Xd (p:=List.length ((splitB 46 (aS s)).getD k (dfl .str))<=6) (by omega)];simp
    have ed:da ((splitB 46 (aS s)).getD k (dfl .str))=true/\((splitB 46 (aS s)).getD k (dfl .str)).length<=6:=by have e:=en;unfold fq at e;simp only[Hk,Hq]at e;exact⟨e.1.1,e.1.2⟩
    refine⟨gx ed.1 (by omega),⟨by omega,by omega⟩,by omega,aP (by omega) (by omega),k+1,⟨by omega,yes en⟩,by omega,by omega,?_⟩
    repeat (first|exact trivial|refine⟨by first|rfl|(exact hset)|trivial,?_⟩)
   ·have b:¬(6:Int)<_:=fun x=>b (Xd x);have c:¬(1:Int)<_:=fun x=>c (Xd x);have en:fq ((splitB 46 (aS s)).getD k (dfl .str))=true:=by unfold fq;simp only[HB,Ju]at a;rw[a,Xd (p:=List.length ((splitB 46 (aS s)).getD k (dfl .str))<=6) (by omega),Xf (p:=1<List.length ((splitB 46 (aS s)).getD k (dfl .str))) (by omega)];simp
    have ed:da ((splitB 46 (aS s)).getD k (dfl .str))=true/\((splitB 46 (aS s)).getD k (dfl .str)).length<=6:=by have e:=en;unfold fq at e;simp only[Hk,Hq]at e;exact⟨e.1.1,e.1.2⟩
    refine⟨gx ed.1 (by omega),⟨by omega,by omega⟩,by omega,aP (by omega) (by omega),k+1,⟨by omega,yes en⟩,by omega,by omega,?_⟩
    repeat (first|exact trivial|refine⟨by first|rfl|(exact hset)|trivial,?_⟩)
  ·have hk:k=3:=by have:¬((k:Int)<((splitB 46 (aS s)).length:Int)):=fun e=>h (Xd e);omega
   subst hk;rw[qu (by omega)]at h2;rw[Hj h2]at he;have ev:(⟨List.getD (nc s 3) (Int.toNat 0) (dfl (Ty.int IntKind.i64)),List.getD (nc s 3) (Int.toNat 1) (dfl (Ty.int IntKind.i64)),List.getD (nc s 3) (Int.toNat 2) (dfl (Ty.int IntKind.i64)),dY s⟩:Vers)=fb s:=rfl;refine⟨⟨by omega,by omega⟩,by decide,⟨by omega,by omega⟩,by decide,⟨by omega,by omega⟩,by decide,?_⟩;apply a6<;>intro a
   ·have a:¬dN (fb s)=0:=by rw[<-ev];simpa using a
    rw[Hh a]at he;have a4:=(qv (fb s)).resolve_left a;rw[he,ev,a4]
    repeat (first|exact trivial|refine⟨by first|rfl|(exact hset)|trivial,?_⟩)
   ·have a:dN (fb s)=0:=by rw[<-ev];simpa using a
    rw[Hj a]at he;rw[he]
    repeat (first|exact trivial|refine⟨by first|rfl|(exact hset)|trivial,?_⟩)
theorem E1(s:Str)(c:SC)(n:Nat)(e a:Int)(ho:n=c.out.length) :
  let A:=fE e a c;True/\false=false/\s=s/\c.pos=A.2.pos/\c.out=A.2.out/\e=A.2.err/\a=A.2.fat/\n=List.length A.2.out/\True:=by
 conv=>zeta
 exact⟨trivial,rfl,rfl,rfl,rfl,rfl,rfl,ho,trivial⟩
theorem BF(s:Str)(c:SC)(n:Nat)(a b:Int)(ho:n=c.out.length/\s.length<=4096/\0<=a/\a<=b/\b<=(s.length:Int)) :
  let A:=List.drop (Int.toNat a) (List.take (Int.toNat b) s);let B:=u4 A;let C:=gB s a b c;let D:=fE B.err (a+B.pos) c;((0:Int)<=a/\a<=b/\b<=(↑(List.length s):Int))/\List.length A<=(4096:Nat)/\if(!decide (B.err=(0:Int)))=true then inR IntKind.i64 (a+B.pos)/\n=List.length c.out/\True/\false=C.1/\s=s/\D.2.pos=C.2.pos/\D.2.out=C.2.out/\D.2.err=C.2.err/\D.2.fat=C.2.fat/\List.length D.2.out=List.length C.2.out/\True else True/\true=C.1/\s=s/\c.pos=C.2.pos/\c.out=C.2.out/\c.err=C.2.err/\c.fat=C.2.fat/\n=List.length C.2.out/\True:=by
 conv=>zeta
 obtain⟨h1,h2,h3,h4,h5⟩:=ho;have hl:=pc h3 h4 h5;have hc:List.drop (Int.toNat a) (List.take (Int.toNat b) s)=cut s a b:=rfl;simp only[hc];refine⟨⟨h3,h4,h5⟩,by omega,?_⟩;unfold gB
 cases hb:bS (cut s a b)with
 |none=>
  rw[B4 hb];refine⟨trivial,rfl,?_⟩
  repeat (first|exact trivial|exact⟨h1,trivial⟩|refine⟨by first|rfl|trivial,?_⟩)
 |some k=>rw[B5 hb];have:=B6 hb;refine⟨aP (by show _<=a+(k:Int);omega) (by show a+(k:Int)<=_;omega),h1,trivial,?_⟩;exact Xr
theorem Fz(s:Str)(c:SC)(n:Nat)(k:Int)(t:Str)(fr:Int)(ho:n=c.out.length/\(n+1) *32<=140737488355328) :
  let A:=[{kind:=k,text:=t,pos:=fr:Tokn}];let B:=ez k t fr c;(List.length c.out=n/\(List.length c.out+List.length A)*(32:Nat)<=(140737488355328:Nat))/\True/\true=true/\fr=fr/\s=s/\c.pos=B.2.pos/\c.out++A=B.2.out/\c.err=B.2.err/\c.fat=B.2.fat/\List.length (c.out++A)=n+(1:Nat)/\True:=by
 conv=>zeta
 obtain⟨h1,h2⟩:=ho;refine⟨⟨h1.symm,by simp only[Hm];omega⟩,trivial,by trivial,by trivial,by trivial,rfl,rfl,rfl,rfl,?_,trivial⟩;rw[Ho,Hm,h1]
theorem yG(s:Str)(c:SC)(n:Nat)(ho:n=c.out.length/\n<=4096/\s.length<=4096/\0<=c.pos/\c.pos<=(s.length:Int)/\c.pos<(s.length:Int)) :
  let A:=(1:Int);let B:=(0:Int);let C:=(↑(List.length s):Int);let D:=c.pos=c.pos;let E:=s=s;let F:=True;let G:=List.length s<=(4096:Nat);let H:=(2:Int);let I:=bL s c;let J:=[]=I.1;let K:=false=I.2.1;let L:=(60:Int);let M:=([110,116,34,92]:Str);let N:=([10,9,34,92]:Str);let O:=(0:UInt8);let P:=(140737488355328:Nat);inR IntKind.i64 (c.pos+A)/\(∃(x:Nat×Str×SC),(x.2.2.out=c.out/\x.2.2.err=c.err/\x.2.2.fat=c.fat/\B<=x.2.2.pos/\x.2.2.pos<=C/\(↑(List.length x.2.1):Int)<=x.2.2.pos/\C<x.2.2.pos+(↑x.1:Int)/\bL s c=bZ s c.pos x.1 x.2.1 x.2.2)/\bh x.2.1=[]/\D/\E/\c.pos+A=x.2.2.pos/\c.out=x.2.2.out/\c.err=x.2.2.err/\c.fat=x.2.2.fat/\List.length (bh x.2.1)=(0:Nat)/\n=n/\F)/\∀(x:Nat×Str×SC),let Q:=B<=x.2.2.pos;let R:=x.2.2.pos<=C;let S:=x.2.2.pos+B;let T:=n=List.length x.2.2.out;let U:=fE L c.pos x.2.2;let V:=T/\F/\J/\K/\E/\U.2.pos=I.2.2.pos/\U.2.out=I.2.2.out/\U.2.err=I.2.2.err/\U.2.fat=I.2.2.fat/\List.length U.2.out=List.length I.2.2.out/\F;let W:=x.2.2.pos+A;let X:=bh x.2.1;let Y:=bAt s W;let Z:=List.length X=List.length X;let a:=[(↑(UInt8.toNat (List.getD N (Int.toNat (nO M Y)) O)):Int)];let b:=(↑(ao aZ s x.2.2.pos):Int);let d:=x.2.2.pos+b;let e:=cut s x.2.2.pos d;let f:=(↑(List.length e):Int);let g:=x.2.2.pos+b-f;let h:=(gB s g d {pos:=x.2.2.pos+b,out:=x.2.2.out,err:=x.2.2.err,fat:=x.2.2.fat:SC});x.2.2.out=c.out/\x.2.2.err=c.err/\x.2.2.fat=c.fat/\Q/\R/\(↑(List.length x.2.1):Int)<=x.2.2.pos/\C<x.2.2.pos+(↑x.1:Int)/\bL s c=bZ s c.pos x.1 x.2.1 x.2.2->(G/\Q/\R/\B<=B/\B<=H)/\if decide (bAt s S<(32:Int))=true then V else if decide (bAt s S=(34:Int))=true then inR IntKind.i64 W/\F/\List.map (fun(n:Int)=>UInt8.ofNat (Int.toNat n)) X=I.1/\true=I.2.1/\E/\x.2.2.pos+A=I.2.2.pos/\x.2.2.out=I.2.2.out/\x.2.2.err=I.2.2.err/\x.2.2.fat=I.2.2.fat/\n=List.length I.2.2.out/\F else if decide (bAt s S=(92:Int))=true then(G/\Q/\R/\B<=A/\A<=H)/\if decide (nO M Y<B)=true then V else(B<=nO M Y/\nO M Y<(↑(List.length N):Int))/\(Z/\(List.length X+List.length a)*(1:Nat)<=P)/\inR IntKind.i64 (x.2.2.pos+H)/\∃(y:Nat×Str×SC),(y.2.2.out=c.out/\y.2.2.err=c.err/\y.2.2.fat=c.fat/\B<=y.2.2.pos/\y.2.2.pos<=C/\(↑(List.length y.2.1):Int)<=y.2.2.pos/\C<y.2.2.pos+(↑y.1:Int)/\bL s c=bZ s c.pos y.1 y.2.1 y.2.2)/\y.1<x.1/\bh x.2.1++a=bh y.2.1/\D/\E/\x.2.2.pos+H=y.2.2.pos/\x.2.2.out=y.2.2.out/\x.2.2.err=y.2.2.err/\x.2.2.fat=y.2.2.fat/\List.length (bh x.2.1++a)=List.length (bh y.2.1)/\n=n/\F else(G/\Q/\R)/\inR IntKind.i64 g/\(T/\G/\B<=x.2.2.pos+b-f/\x.2.2.pos+b-f<=x.2.2.pos+b/\x.2.2.pos+b<=C)/\if(!h.1)=true then F/\J/\K/\E/\h.2.pos=I.2.2.pos/\h.2.out=I.2.2.out/\h.2.err=I.2.2.err/\h.2.fat=I.2.2.fat/\List.length h.2.out=List.length I.2.2.out/\F else(Z/\(List.length X+List.length e)*(1:Nat)<=P)/\∃(y:Nat×Str×SC),(y.2.2.out=c.out/\y.2.2.err=c.err/\y.2.2.fat=c.fat/\B<=y.2.2.pos/\y.2.2.pos<=C/\(↑(List.length y.2.1):Int)<=y.2.2.pos/\C<y.2.2.pos+(↑y.1:Int)/\bL s c=bZ s c.pos y.1 y.2.1 y.2.2)/\y.1<x.1/\bh x.2.1++bh e=bh y.2.1/\D/\E/\h.2.pos=y.2.2.pos/\h.2.out=y.2.2.out/\h.2.err=y.2.2.err/\h.2.fat=y.2.2.fat/\List.length (bh x.2.1++bh e)=List.length (bh y.2.1)/\List.length h.2.out=n/\F:=by
 conv=>zeta
 obtain⟨ho1,ho2,ho3,ho4,ho5,ho6⟩:=ho;refine⟨aP (by omega) (by omega),⟨(s.length+2,[],bH c (c.pos+1)),⟨rfl,rfl,rfl,by show 0<=c.pos+1;omega,by show c.pos+1<=_;omega,by show((0:Nat):Int)<=c.pos+1;omega,by show _<c.pos+1+((s.length+2:Nat):Int);omega,rfl⟩,?_⟩,?_⟩
 ·exact Xr
 rintro⟨f,acc,d⟩ ⟨d1,d2,d3,d4,d5,d6,d7,d8⟩;simp only at d1 d2 d3 d4 d5 d6 d7 d8;obtain⟨f,rfl⟩:∃g,f=g+1:=⟨f-1,by omega⟩;rw[bZ]at d8;have e0:d.pos+0=d.pos:=Int.add_zero _;have hn:n=d.out.length:=by rw[d1];exact ho1
 simp only[e0];refine⟨⟨by omega,by omega,by omega,by omega,by omega⟩,a6 (fun h=>?_) (fun h=>?_)⟩
 ·replace h:=Xo h;rw[Hj h]at d8;rw[d8];refine⟨hn,trivial,?_⟩;exact Xr
 replace h:¬bAt s d.pos<32:=fun e=>h (Xd e);rw[Hh h]at d8;apply a6<;>intro k
 ·replace k:=Xo k;rw[Hj k]at d8;rw[d8];refine⟨aP (by omega) (by omega),trivial,qw acc,by trivial,by trivial,rfl,rfl,rfl,rfl,hn,trivial⟩
 replace k:¬bAt s d.pos=34:=fun e=>k (Xd e);rw[Hh k]at d8;apply a6<;>intro j
 ·replace j:=Xo j;rw[Hj j]at d8;refine⟨⟨by omega,by omega,by omega,by omega,by omega⟩,?_⟩
  cases he:iS (bAt s (d.pos+1))with
  |none=>have hi:=Di he;rw[he]at d8;simp only at d8;refine a6 (fun _=>?_) (fun e=>absurd (Xd hi) e);rw[d8];refine⟨hn,trivial,?_⟩;exact Xr
  |some x=>obtain⟨i1,i2,i3⟩:=Dj he;have hp:=ly he;rw[he]at d8;simp only at d8;refine a6 (fun e=>absurd (Xo e) (by omega)) (fun _=>?_);simp only[i3];refine⟨⟨i1,i2⟩,⟨by trivial,by have:(bh acc).length=acc.length:=Is _;rw[this];simp only[Hm];omega⟩,aP (by omega) (by omega),(f,acc++[UInt8.ofNat x.toNat],bH d (d.pos+2)),⟨d1,d2,d3,by show 0<=d.pos+2;omega,by show d.pos+2<=_;omega,by show((acc++[_]).length:Int)<=d.pos+2;rw[Ho,Hm];omega,by show _<d.pos+2+(f:Int);omega,d8⟩,by show f<f+1;omega,by show _=bh (acc++[UInt8.ofNat x.toNat]);rw[jX];rfl,by trivial,by trivial,rfl,rfl,rfl,rfl,by rw[jX];rfl,by trivial,trivial⟩
 replace j:¬bAt s d.pos=92:=fun e=>j (Xd e);rw[Hh j]at d8;obtain⟨p1,p2⟩:=sw h k j;have p2:=p2 d4;have p3:=cG (pr:=aZ) d4 (JX p1);have hcl:=pc (s:=s) d4 (b:=d.pos+(ao aZ s d.pos:Int)) (by omega) p3;have e1:d.pos+(ao aZ s d.pos:Int)-((cut s d.pos (d.pos+(ao aZ s d.pos:Int))).length:Int)=d.pos:=by omega
 simp only[e1];refine⟨⟨by omega,by omega,by omega⟩,aP (by omega) (by omega),⟨hn,by omega,by omega,by omega,by omega⟩,?_⟩;unfold gB
 cases hb:bS (cut s d.pos (d.pos+(ao aZ s d.pos:Int)))with
 |some q=>rw[hb]at d8;simp only at d8;rw[d8];refine a6 (fun _=>?_) (fun e=>absurd rfl e);refine⟨trivial,?_⟩;exact Xr
 |none=>
  rw[hb]at d8;simp only at d8;refine a6 (fun e=>Bool.noConfusion e) (fun _=>?_);have hbl:∀x:Str,(bh x).length=x.length:=fun _=>Is _;refine⟨⟨by trivial,by rw[hbl];omega⟩,(f,acc++cut s d.pos (d.pos+(ao aZ s d.pos:Int)),bH d (d.pos+(ao aZ s d.pos:Int))),⟨d1,d2,d3,by show 0<=d.pos+_;omega,p3,by show((acc++cut s _ _).length:Int)<=d.pos+_;rw[Ho];omega,by show _<d.pos+_+(f:Int);omega,d8⟩,by show f<f+1;omega,(jX _ _).symm,by trivial,by trivial,rfl,rfl,rfl,rfl,by rw[jX],?_⟩
  first|exact⟨hn,trivial⟩|exact⟨hn.symm,trivial⟩
theorem FA(s:Str)  :
  let A:=True;let B:=A/\true=kO s/\A;if decide (s=([60,61]:Str))=true then B else if decide (s=([62,61]:Str))=true then B else if decide (s=([45,62]:Str))=true then B else if decide ((↑(List.length s):Int)=(1:Int))=true then List.length s=(1:Nat)/\A/\decide (List.getD s (0:Nat) (0:UInt8)∈([40,41,123,125,91,93,60,62,61,94,42,44,58,46,47,64,124]:Str))=kO s/\A else A/\false=kO s/\A:=by
 conv=>zeta
 unfold kO;apply a6<;>intro h
 ·rw[h];exact Xr
 rw[HV]at h;apply a6<;>intro k
 ·rw[k,h];exact Xr
 rw[HV]at k;apply a6<;>intro j
 ·rw[k,h,j];exact Xr
 rw[HV]at j;rw[h,k,j];simp only[Bool.false_or];apply a6<;>intro i
 ·have i:=Xo i;have e:s.length=1:=by omega
  rw[Xd e,HR];exact⟨e,trivial,rfl,trivial⟩
 ·have i:¬(s.length:Int)=1:=fun e=>i (Xd e);rw[Xf (p:=s.length=1) (by omega),HP];exact Xr
theorem BG(s:Str)(c:SC)(n:Nat)(ho:n=c.out.length/\n<=4096/\s.length<=4096/\0<=c.pos/\c.pos<=(s.length:Int)/\c.pos<(s.length:Int)) :
  let A:=(4096:Nat);let B:=List.length s<=A;let C:=(0:Int);let D:=C<=c.pos;let E:=(↑(List.length s):Int);let F:=c.pos<=E;let G:=(2:Int);let H:=Ty.st SN.token;let I:=(AV.agg [AV.str s,AV.int IntKind.i64 c.pos,AV.lst H c.out (some (901:Nat)),AV.int IntKind.i64 c.err,AV.int IntKind.i64 c.fat]);let J:=True;let K:=c.pos+C;let L:=bAt s K;let M:=B/\D/\F;let N:=(↑(ao bK s c.pos):Int);let O:=cut s c.pos (c.pos+N);let P:=n=List.length c.out;let Q:=(1:Nat);let R:=(140737488355328:Nat);let S:=(P/\(n+Q)*(32:Nat)<=R);let T:=aK s c;let U:=true=T.1;let V:=s=s;let W:=(ez (5:Int) O c.pos {pos:=c.pos+N,out:=c.out,err:=c.err,fat:=c.fat:SC});let X:=n+Q=List.length T.2.out/\J;let Y:=(1:Int);let Z:=(ez Y O c.pos {pos:=c.pos+N,out:=c.out,err:=c.err,fat:=c.fat:SC});let a:=(ez G O c.pos {pos:=c.pos+N,out:=c.out,err:=c.err,fat:=c.fat:SC});let b:=false=T.1;let d:=(60:Int);let e:=(fE d c.pos {pos:=c.pos+N,out:=c.out,err:=c.err,fat:=c.fat:SC});let f:=M/\if qg O=true then S/\J/\U/\V/\W.2.pos=T.2.pos/\W.2.out=T.2.out/\W.2.err=T.2.err/\W.2.fat=T.2.fat/\X else if aW O=true then S/\J/\U/\V/\Z.2.pos=T.2.pos/\Z.2.out=T.2.out/\Z.2.err=T.2.err/\Z.2.fat=T.2.fat/\X else if dM O=true then S/\J/\U/\V/\a.2.pos=T.2.pos/\a.2.out=T.2.out/\a.2.err=T.2.err/\a.2.fat=T.2.fat/\X else P/\J/\b/\V/\e.2.pos=T.2.pos/\e.2.out=T.2.out/\e.2.err=T.2.err/\e.2.fat=T.2.fat/\List.length e.2.out=List.length T.2.out/\J;let g:=(↑(ao bO s c.pos):Int);let h:=cut s c.pos (c.pos+g);let i:=(↑(List.length h):Int);let j:=(ez (3:Int) h c.pos {pos:=c.pos+g,out:=c.out,err:=c.err,fat:=c.fat:SC});let k:=S/\J/\U/\V/\j.2.pos=T.2.pos/\j.2.out=T.2.out/\j.2.err=T.2.err/\j.2.fat=T.2.fat/\X;let l:=(ez (7:Int) h c.pos {pos:=c.pos+g,out:=c.out,err:=c.err,fat:=c.fat:SC});let m:=(fE d c.pos {pos:=c.pos+g,out:=c.out,err:=c.err,fat:=c.fat:SC});let o:=List.length h<=A/\if decide ((dO h).2=C)=true then S/\J/\U/\V/\l.2.pos=T.2.pos/\l.2.out=T.2.out/\l.2.err=T.2.err/\l.2.fat=T.2.fat/\X else P/\J/\b/\V/\m.2.pos=T.2.pos/\m.2.out=T.2.out/\m.2.err=T.2.err/\m.2.fat=T.2.fat/\List.length m.2.out=List.length T.2.out/\J;let p:=bL s c;let q:=(ez (4:Int) p.1 c.pos p.2.2);let r:=(2:Nat);let t:=cv s c.pos G=false;let u:=(0:Nat);let v:=cv s c.pos Y=false;let w:=false=false;let z:=bAt s K=bAt s K/\w/\w/\w/\V/\c.pos=c.pos/\c.out=c.out/\c.err=c.err/\c.fat=c.fat/\n=n/\c.pos=c.pos/\J;let A0:=Int.toNat c.pos;let A1:=(6:Int);let A2:=fE d c.pos c;((B/\D/\F/\C<=C/\C<=G)/\SObj.box I=SObj.box I/\SObj.tail H n=SObj.tail H n/\J)/\if cq L=true then f else if cy L=true then f else if de L=true then M/\([48,49,50,51,52,53,54,55,56,57]:Str)=oL/\if decide ((↑(List.length (lS h)):Int)=C)=true then if decide (i<=(15:Int))=true then if decide (cut s c.pos (c.pos+g)=([48]:Str))=true then k else(C<=C/\C<i)/\if(!decide ((↑(UInt8.toNat (List.getD h (Int.toNat C) (0:UInt8))):Int)=(48:Int)))=true then k else o else o else o else if decide (bAt s K=(34:Int))=true then(P/\n<=A/\B/\D/\F/\c.pos<E)/\if p.2.1=true then(List.length p.2.2.out=List.length p.2.2.out/\(List.length p.2.2.out+Q)*(32:Nat)<=R)/\J/\U/\V/\q.2.pos=T.2.pos/\q.2.out=T.2.out/\q.2.err=T.2.err/\q.2.fat=T.2.fat/\List.length p.2.2.out+Q=List.length T.2.out/\J else J/\b/\V/\p.2.2.pos=T.2.pos/\p.2.2.out=T.2.out/\p.2.2.err=T.2.err/\p.2.2.fat=T.2.fat/\List.length p.2.2.out=List.length T.2.out/\J else(∃(x:Nat),(x<=r/\(x<=Q->t)/\(x=u->v))/\G=(↑x:Int)/\z)/\∀(x:Nat),let A3:=(↑x:Int);let A4:=inR IntKind.i64 (c.pos+A3);let A5:=c.pos+A3<=E;let A6:=D/\c.pos<=c.pos+A3/\A5;let A7:=List.drop A0 (List.take (Int.toNat (c.pos+A3)) s);let A8:=(ez A1 A7 c.pos {pos:=c.pos+A3,out:=c.out,err:=c.err,fat:=c.fat:SC});let A9:=inR IntKind.i64 (A3-Y)/\∃(y:Nat),(y<=r/\(y<=Q->t)/\(y=u->v))/\y<x/\A3-Y=(↑y:Int)/\z;x<=r/\(x<=Q->t)/\(x=u->v)->if decide (C<A3)=true then A4/\if decide (A5)=true then A4/\A6/\if kO A7=true then A4/\A6/\S/\J/\U/\V/\A8.2.pos=T.2.pos/\A8.2.out=T.2.out/\A8.2.err=T.2.err/\A8.2.fat=T.2.fat/\X else A9 else A9 else P/\J/\b/\V/\A2.2.pos=T.2.pos/\A2.2.out=T.2.out/\A2.2.err=T.2.err/\A2.2.fat=T.2.fat/\List.length A2.2.out=List.length T.2.out/\J:=by
 conv=>zeta
 obtain⟨ho1,ho2,ho3,ho4,ho5,ho6⟩:=ho;have e0:c.pos+0=c.pos:=Int.add_zero _;have hout:∀(k:Int)(t:Str)(e:Int),n+1=(ez k t c.pos (bH c e)).2.out.length:=fun k t e=>by show n+1=(c.out++[_]).length;rw[Ho,Hm,ho1]
 have hwr:=cG (pr:=bK) ho4 ho5;have hwl:=cG (pr:=bO) ho4 ho5;simp only[e0];refine⟨⟨⟨by omega,by omega,by omega,by omega,by omega⟩,(by first|rfl|trivial),(by first|rfl|trivial),trivial⟩,a6 (fun a=>?_) (fun a=>?_)⟩
 ·have hw:aK s c=rL (cut s c.pos (c.pos+(ao bK s c.pos:Int))) (c.pos+(ao bK s c.pos:Int)) c:=by unfold aK;rw[Hj (.inl a)]
  unfold rL at hw;refine⟨⟨by omega,by omega,by omega⟩,a6 (fun h=>?_) (fun h=>?_)⟩
  ·rw[Hj h]at hw;rw[hw];refine⟨⟨ho1,by omega⟩,trivial,?_⟩
   repeat (first|exact trivial|exact⟨hout _ _ _,trivial⟩|refine⟨by first|rfl|trivial,?_⟩)
  rw[Hh h]at hw;apply a6<;>intro i
  ·rw[Hj i]at hw;rw[hw];refine⟨⟨ho1,by omega⟩,trivial,?_⟩
   repeat (first|exact trivial|exact⟨hout _ _ _,trivial⟩|refine⟨by first|rfl|trivial,?_⟩)
  rw[Hh i]at hw;apply a6<;>intro j
  ·rw[Hj j]at hw;rw[hw];refine⟨⟨ho1,by omega⟩,trivial,?_⟩
   repeat (first|exact trivial|exact⟨hout _ _ _,trivial⟩|refine⟨by first|rfl|trivial,?_⟩)
  rw[Hh j]at hw;rw[hw];refine⟨ho1,trivial,?_⟩;exact Xr
 apply a6<;>intro b
 ·have hw:aK s c=rL (cut s c.pos (c.pos+(ao bK s c.pos:Int))) (c.pos+(ao bK s c.pos:Int)) c:=by unfold aK;rw[Hj (.inr b)]
  unfold rL at hw;refine⟨⟨by omega,by omega,by omega⟩,a6 (fun h=>?_) (fun h=>?_)⟩
  ·rw[Hj h]at hw;rw[hw];refine⟨⟨ho1,by omega⟩,trivial,?_⟩
   repeat (first|exact trivial|exact⟨hout _ _ _,trivial⟩|refine⟨by first|rfl|trivial,?_⟩)
  rw[Hh h]at hw;apply a6<;>intro i
  ·rw[Hj i]at hw;rw[hw];refine⟨⟨ho1,by omega⟩,trivial,?_⟩
   repeat (first|exact trivial|exact⟨hout _ _ _,trivial⟩|refine⟨by first|rfl|trivial,?_⟩)
  rw[Hh i]at hw;apply a6<;>intro j
  ·rw[Hj j]at hw;rw[hw];refine⟨⟨ho1,by omega⟩,trivial,?_⟩
   repeat (first|exact trivial|exact⟨hout _ _ _,trivial⟩|refine⟨by first|rfl|trivial,?_⟩)
  rw[Hh j]at hw;rw[hw];refine⟨ho1,trivial,?_⟩;exact Xr
 have hn1:¬(cq (bAt s c.pos)=true∨cy (bAt s c.pos)=true):=fun e=>e.elim a b;apply a6<;>intro d
 ·have hw:aK s c=vG (cut s c.pos (c.pos+(ao bO s c.pos:Int))) (c.pos+(ao bO s c.pos:Int)) c:=by unfold aK;rw[Hh hn1,Hj d]
  unfold vG at hw;have hcl:=pc (s:=s) ho4 (b:=c.pos+(ao bO s c.pos:Int)) (by omega) hwl;have hne:=cE (pr:=bO) ho4 ho6 (by rw[eA ho6]at d;unfold bO;rw[d,Jt];rfl);have htr:=sr (cut s c.pos (c.pos+(ao bO s c.pos:Int)));have hall:∀x:Str,(x.all fun c=>de (bI c))=x.all iU:=fun _=>rfl;have hnt:gL (cut s c.pos (c.pos+(ao bO s c.pos:Int)))=((cut s c.pos (c.pos+(ao bO s c.pos:Int))).all iU&&decide ((cut s c.pos (c.pos+(ao bO s c.pos:Int))).length<=15)&&(decide (cut s c.pos (c.pos+(ao bO s c.pos:Int))=[48])||!decide (bI ((cut s c.pos (c.pos+(ao bO s c.pos:Int))).getD 0 0)=48))):=rfl;refine⟨⟨by omega,by omega,by omega⟩,(by first | rfl | trivial),?_⟩;have eb:∀b:UInt8,(b.toNat:Int)=bI b:=fun _=>rfl;simp only[eb,Int.toNat_zero];generalize cut s c.pos (c.pos+(ao bO s c.pos:Int))=t at hw hcl htr hnt⊢;apply a6<;>intro f
  ·have f1:t.all iU=true:=htr.1 (Hv (by have:=Xo f;omega));apply a6<;>intro g
   ·have g1:=Xo g;apply a6<;>intro i
    ·have hnum:gL t=true:=by rw[hnt,f1,Xd (p:=t.length<=15) (by omega),i];rfl
     rw[hnum,Hj rfl]at hw;rw[hw];refine⟨⟨ho1,by omega⟩,trivial,?_⟩
     repeat (first|exact trivial|exact⟨hout _ _ _,trivial⟩|refine⟨by first|rfl|trivial,?_⟩)
    ·rw[HV]at i;refine⟨⟨by omega,by omega⟩,a6 (fun j=>?_) (fun j=>?_)⟩
     ·have hnum:gL t=true:=by rw[hnt,f1,Xd (p:=t.length<=15) (by omega),j,Jt];rfl
      rw[hnum,Hj rfl]at hw;rw[hw];refine⟨⟨ho1,by omega⟩,trivial,?_⟩
      repeat (first|exact trivial|exact⟨hout _ _ _,trivial⟩|refine⟨by first|rfl|trivial,?_⟩)
     ·rw[HV]at j;have hnum:gL t=false:=by rw[hnt,i,j,Bool.or_false,Iq]
      rw[hnum,Hh HS]at hw;refine⟨by omega,a6 (fun z=>?_) (fun z=>?_)⟩
      ·rw[Hj (Xo z)]at hw;rw[hw];refine⟨⟨ho1,by omega⟩,trivial,?_⟩
       repeat (first|exact trivial|exact⟨hout _ _ _,trivial⟩|refine⟨by first|rfl|trivial,?_⟩)
      ·rw[Hh (fun e=>z (Xd e))]at hw;rw[hw];refine⟨ho1,trivial,?_⟩;exact Xr
   ·have g1:¬(t.length:Int)<=15:=fun e=>g (Xd e);have hnum:gL t=false:=by rw[hnt,Xf (p:=t.length<=15) (by omega),Iq,HP]
    rw[hnum,Hh HS]at hw;refine⟨by omega,a6 (fun z=>?_) (fun z=>?_)⟩
    ·rw[Hj (Xo z)]at hw;rw[hw];refine⟨⟨ho1,by omega⟩,trivial,?_⟩
     repeat (first|exact trivial|exact⟨hout _ _ _,trivial⟩|refine⟨by first|rfl|trivial,?_⟩)
    ·rw[Hh (fun e=>z (Xd e))]at hw;rw[hw];refine⟨ho1,trivial,?_⟩;exact Xr
  ·have f1:t.all iU=false:=by rw[Ik];intro e;refine f (Xd ?_);rw[htr.2 e];rfl
   have hnum:gL t=false:=by rw[hnt,f1,HP,HP]
   rw[hnum,Hh HS]at hw;refine⟨by omega,a6 (fun z=>?_) (fun z=>?_)⟩
   ·rw[Hj (Xo z)]at hw;rw[hw];refine⟨⟨ho1,by omega⟩,trivial,?_⟩
    repeat (first|exact trivial|exact⟨hout _ _ _,trivial⟩|refine⟨by first|rfl|trivial,?_⟩)
   ·rw[Hh (fun e=>z (Xd e))]at hw;rw[hw];refine⟨ho1,trivial,?_⟩;exact Xr
 apply a6<;>intro q
 ·have q:=Xo q;have hw:aK s c=vH c.pos (bL s c):=by unfold aK;rw[Hh hn1,Hh d,Hj q]
  obtain⟨q1,q2,q3⟩:=dX s c.pos (s.length+2) [] (bH c (c.pos+1)) (by show 0<=c.pos+1;omega) (by show c.pos+1<=_;omega);have q1':(bL s c).2.2.out=c.out:=q1;unfold vH at hw;refine⟨⟨ho1,ho2,ho3,ho4,ho5,ho6⟩,a6 (fun r=>?_) (fun r=>?_)⟩
  ·rw[Hj r]at hw;rw[hw];refine⟨⟨by trivial,by rw[q1'];omega⟩,trivial,?_⟩
   repeat (first|exact trivial|refine⟨by first|rfl|trivial|(show _=(_++[_]).length;rw[Ho,Hm]),?_⟩)
  ·rw[Hh r]at hw;rw[hw];refine⟨trivial,?_⟩;exact Xr
 have q:¬bAt s c.pos=34:=fun e=>q (Xd e);have hw:aK s c=oK s c:=by unfold aK;rw[Hh hn1,Hh d,Hh q]
 refine⟨⟨2,⟨by omega,fun e=>by omega,fun e=>by omega⟩,?_⟩,?_⟩
 ·exact Xr
 rintro k ⟨h1,h2,h3⟩;have hcut:∀k:Int,List.drop (Int.toNat c.pos) (List.take (Int.toNat (c.pos+k)) s)=cut s c.pos (c.pos+k):=fun _=>rfl;simp only[hcut];apply a6<;>intro f
 ·have f:=Xo f;have hk:k=2∨k=1:=by omega
  have hsa:cv s c.pos (k:Int)=(decide (c.pos+(k:Int)<=(s.length:Int))&&kO (cut s c.pos (c.pos+(k:Int)))):=rfl;refine⟨aP (by omega) (by omega),a6 (fun g=>?_) (fun g=>?_)⟩
  ·have g1:=Xo g;refine⟨aP (by omega) (by omega),⟨by omega,by omega,by omega⟩,a6 (fun i=>?_) (fun i=>?_)⟩
   ·rw[g,i]at hsa
    have hw:aK s c=ez 6 (cut s c.pos (c.pos+(k:Int))) c.pos (bH c (c.pos+(k:Int))):=by
     rw[hw];unfold oK;rcases hk with rfl|rfl
     ·rw[Hj (show cv s c.pos 2=true from hsa)];rfl
     ·rw[Hh (by rw[h2 (by omega)];exact HS),Hj (show cv s c.pos 1=true from hsa)];rfl
    rw[hw];refine⟨aP (by omega) (by omega),⟨by omega,by omega,by omega⟩,⟨ho1,by omega⟩,trivial,?_⟩
    repeat (first|exact trivial|exact⟨hout _ _ _,trivial⟩|refine⟨by first|rfl|trivial,?_⟩)
   ·rw[HV]at i;have hmiss:cv s c.pos (k:Int)=false:=by rw[hsa,i,Iq]
    have hmiss:=hmiss
    ·refine⟨aP (by omega) (by omega),k-1,⟨by omega,fun _=>?_,fun _=>?_⟩,by omega,by omega,?_⟩
     ·rcases hk with rfl|rfl
      ·exact hmiss
      ·exact h2 (by omega)
     ·have:k=1:=by omega
      subst this;exact hmiss
     ·exact Xr
  ·have hmiss:cv s c.pos (k:Int)=false:=by rw[hsa,Xf (fun e=>g (Xd e)),HP]
   have hmiss:=hmiss
   ·refine⟨aP (by omega) (by omega),k-1,⟨by omega,fun _=>?_,fun _=>?_⟩,by omega,by omega,?_⟩
    ·rcases hk with rfl|rfl
     ·exact hmiss
     ·exact h2 (by omega)
    ·have:k=1:=by omega
     subst this;exact hmiss
    ·exact Xr
 ·have hk:k=0:=by have:¬(0:Int)<(k:Int):=fun e=>f (Xd e);omega
  have hw:aK s c=fE 60 c.pos c:=by rw[hw];unfold oK;rw[Hh (by rw[h2 (by omega)];exact HS),Hh (by rw[h3 hk];exact HS)]
  rw[hw];refine⟨ho1,trivial,?_⟩;exact Xr
theorem FB(s:Str)(hs:Wf .str s) :
  let A:=(↑(List.length s):Int);let B:=True;let C:=aU s;let D:=C.1=[];let E:=(0:Int);let F:=s=s;let G:=false=false;let H:=E=E/\E=E/\B;let I:=(4096:Nat);let J:=List.length s<=I;let K:=[{kind:=E,text:=[],pos:=A:Tokn}];let L:=(1:Int);if decide ((4096:Int)<A)=true then B/\D/\(3:Int)=C.2.err/\(4096:Int)=C.2.pos/\B else(∃(x:Nat×SC),((↑(List.length x.2.out):Int)<=x.2.pos/\A<x.2.pos+(↑x.1:Int)/\E<=x.2.pos/\x.2.pos<=A/\aU s=cM s x.1 x.2)/\F/\G/\F/\E=x.2.pos/\x.2.out=[]/\E=x.2.err/\E=x.2.fat/\List.length x.2.out=(0:Nat)/\H)/\∀(x:Nat×SC),let M:=E<=x.2.pos;let N:=x.2.pos<=A;let O:=List.length x.2.out=List.length x.2.out;let P:=x.2.pos+E;let Q:=x.2.pos+L;let R:=inR IntKind.i64 Q/\∃(y:Nat×SC),((↑(List.length y.2.out):Int)<=y.2.pos/\A<y.2.pos+(↑y.1:Int)/\E<=y.2.pos/\y.2.pos<=A/\aU s=cM s y.1 y.2)/\y.1<x.1/\F/\G/\F/\x.2.pos+L=y.2.pos/\x.2.out=y.2.out/\x.2.err=y.2.err/\x.2.fat=y.2.fat/\List.length x.2.out=List.length y.2.out/\H;let S:=(↑(ao ca s x.2.pos):Int);let T:=(gB s x.2.pos (x.2.pos+S) {pos:=x.2.pos+S,out:=x.2.out,err:=x.2.err,fat:=x.2.fat:SC});let U:=aK s x.2;let V:=(O/\List.length x.2.out<=I/\J/\M/\N/\x.2.pos<A)/\if(!U.1)=true then B/\D/\U.2.err=C.2.err/\U.2.fat=C.2.pos/\B else ∃(y:Nat×SC),((↑(List.length y.2.out):Int)<=y.2.pos/\A<y.2.pos+(↑y.1:Int)/\E<=y.2.pos/\y.2.pos<=A/\aU s=cM s y.1 y.2)/\y.1<x.1/\F/\G/\F/\U.2.pos=y.2.pos/\U.2.out=y.2.out/\U.2.err=y.2.err/\U.2.fat=y.2.fat/\List.length U.2.out=List.length y.2.out/\H;(↑(List.length x.2.out):Int)<=x.2.pos/\A<x.2.pos+(↑x.1:Int)/\M/\N/\aU s=cM s x.1 x.2->(J/\M/\N/\E<=E/\E<=(2:Int))/\if decide (x.2.pos=A)=true then(O/\(List.length x.2.out+List.length K)*(32:Nat)<=(140737488355328:Nat))/\B/\x.2.out++K=C.1/\E=C.2.err/\E=C.2.pos/\B else if decide (bAt s P=(32:Int))=true then R else if decide (bAt s P=(10:Int))=true then R else if decide (bAt s P=(9:Int))=true then R else if decide (bAt s P=(13:Int))=true then R else if decide (bAt s P=(45:Int))=true then(J/\M/\N/\E<=L/\L<=(2:Int))/\if decide (bAt s Q=(45:Int))=true then(J/\M/\N)/\(O/\J/\M/\x.2.pos<=x.2.pos+S/\x.2.pos+S<=A)/\if(!T.1)=true then B/\D/\T.2.err=C.2.err/\T.2.fat=C.2.pos/\B else ∃(y:Nat×SC),((↑(List.length y.2.out):Int)<=y.2.pos/\A<y.2.pos+(↑y.1:Int)/\E<=y.2.pos/\y.2.pos<=A/\aU s=cM s y.1 y.2)/\y.1<x.1/\F/\G/\F/\T.2.pos=y.2.pos/\T.2.out=y.2.out/\T.2.err=y.2.err/\T.2.fat=y.2.fat/\List.length T.2.out=List.length y.2.out/\H else V else V:=by
 conv=>zeta
 apply a6<;>intro h
 ·have h:=Xo h;have e:aU s=([],⟨3,4096⟩):=by unfold aU;rw[Hj (by omega)]
  rw[e];exact Xr
 have h:¬(4096:Int)<(s.length:Int):=fun e=>h (Xd e);have hs0:aU s=cM s (s.length+2) ⟨0,[],0,0⟩:=by unfold aU;rw[Hh (by omega)]
 refine⟨⟨(s.length+2,⟨0,[],0,0⟩),⟨by show((0:Nat):Int)<=0;omega,by show _<0+((s.length+2:Nat):Int);omega,by show(0:Int)<=0;omega,by show(0:Int)<=_;omega,hs0⟩,?_⟩,?_⟩
 ·exact Xr
 rintro⟨f,d⟩ ⟨d1,d2,d3,d4,d5⟩;simp only at d1 d2 d3 d4 d5;obtain⟨f,rfl⟩:∃g,f=g+1:=⟨f-1,by omega⟩;rw[cM]at d5;have e0:d.pos+0=d.pos:=Int.add_zero _;simp only[e0];refine⟨⟨by omega,by omega,by omega,by omega,by omega⟩,a6 (fun k=>?_) (fun k=>?_)⟩
 ·replace k:=Xo k;rw[Hj k]at d5;rw[d5];refine⟨⟨by trivial,by simp only[Hm];omega⟩,trivial,?_⟩;exact Xr
 replace k:¬d.pos=(s.length:Int):=fun e=>k (Xd e);have hlt:d.pos<(s.length:Int):=by omega
 rw[Hh k]at d5;clear k;apply a6<;>intro k
 ·replace k:=Xo k;rw[Hj ((iD _).2 (by omega))]at d5;refine⟨aP (by omega) (by omega),(f,bH d (d.pos+1)),⟨by show(d.out.length:Int)<=d.pos+1;omega,by show _<d.pos+1+(f:Int);omega,by show 0<=d.pos+1;omega,by show d.pos+1<=_;omega,d5⟩,by show f<f+1;omega,?_⟩;exact Xr
 replace k:¬bAt s d.pos=32:=fun e=>k (Xd e);have k32:=k;clear k;apply a6<;>intro k
 ·replace k:=Xo k;rw[Hj ((iD _).2 (by omega))]at d5;refine⟨aP (by omega) (by omega),(f,bH d (d.pos+1)),⟨by show(d.out.length:Int)<=d.pos+1;omega,by show _<d.pos+1+(f:Int);omega,by show 0<=d.pos+1;omega,by show d.pos+1<=_;omega,d5⟩,by show f<f+1;omega,?_⟩;exact Xr
 replace k:¬bAt s d.pos=10:=fun e=>k (Xd e);have k10:=k;clear k;apply a6<;>intro k
 ·replace k:=Xo k;rw[Hj ((iD _).2 (by omega))]at d5;refine⟨aP (by omega) (by omega),(f,bH d (d.pos+1)),⟨by show(d.out.length:Int)<=d.pos+1;omega,by show _<d.pos+1+(f:Int);omega,by show 0<=d.pos+1;omega,by show d.pos+1<=_;omega,d5⟩,by show f<f+1;omega,?_⟩;exact Xr
 replace k:¬bAt s d.pos=9:=fun e=>k (Xd e);have k9:=k;clear k;apply a6<;>intro k
 ·replace k:=Xo k;rw[Hj ((iD _).2 (by omega))]at d5;refine⟨aP (by omega) (by omega),(f,bH d (d.pos+1)),⟨by show(d.out.length:Int)<=d.pos+1;omega,by show _<d.pos+1+(f:Int);omega,by show 0<=d.pos+1;omega,by show d.pos+1<=_;omega,d5⟩,by show f<f+1;omega,?_⟩;exact Xr
 replace k:¬bAt s d.pos=13:=fun e=>k (Xd e);have k13:=k;clear k;have hbl:¬iB (bAt s d.pos)=true:=fun e=>by have:=(iD _).1 e;omega
 rw[Hh hbl]at d5;apply a6<;>intro k
 ·replace k:=Xo k;refine⟨⟨by omega,by omega,by omega,by omega,by omega⟩,a6 (fun j=>?_) (fun j=>?_)⟩
  ·replace j:=Xo j;rw[Hj ⟨k,j⟩]at d5;have hw:=cG (pr:=ca) d3 d4;have hp:=Ac (s:=s) (a:=d.pos+1) (by omega);have hh:=cE (pr:=ca) d3 hlt (by rw[<-eA hlt,k];rfl);refine⟨⟨by omega,by omega,by omega⟩,⟨by trivial,by omega,by omega,by omega,by omega⟩,?_⟩;unfold gB
   cases hb:bS (cut s d.pos (d.pos+(ao ca s d.pos:Int)))with|some q=>rw[hb]at d5;simp only at d5;rw[d5];refine a6 (fun _=>?_) (fun e=>absurd rfl e);refine⟨trivial,?_⟩;exact Xr|none=>rw[hb]at d5;simp only at d5;refine a6 (fun e=>Bool.noConfusion e) (fun _=>?_);refine⟨(f,bH d (d.pos+(ao ca s d.pos:Int))),⟨by show(d.out.length:Int)<=d.pos+_;omega,by show _<d.pos+_+(f:Int);omega,by show 0<=d.pos+_;omega,hw,d5⟩,by show f<f+1;omega,?_⟩;exact Xr
  replace j:¬bAt s (d.pos+1)=45:=fun e=>j (Xd e)
  ·refine⟨⟨by trivial,by omega,by omega,by omega,by omega,by omega⟩,?_⟩;have hne:¬(bAt s d.pos=45/\bAt s (d.pos+1)=45):=by omega
   rw[Hh hne]at d5
   cases ht:(aK s d).1 with
   |false=>rw[ht,Hh HS]at d5;refine a6 (fun _=>?_) (fun e=>absurd rfl e);rw[d5];refine⟨trivial,?_⟩;exact Xr
   |true=>rw[ht,Hj rfl]at d5;obtain⟨t1,t2,t3⟩:=eJ d3 hlt ht;refine a6 (fun e=>Bool.noConfusion e) (fun _=>?_);refine⟨(f,(aK s d).2),⟨by show((aK s d).2.out.length:Int)<=(aK s d).2.pos;omega,by show _<(aK s d).2.pos+(f:Int);omega,by show 0<=(aK s d).2.pos;omega,t2,d5⟩,by show f<f+1;omega,?_⟩;exact Xr
 replace k:¬bAt s d.pos=45:=fun e=>k (Xd e)
 ·refine⟨⟨by trivial,by omega,by omega,by omega,by omega,by omega⟩,?_⟩;have hne:¬(bAt s d.pos=45/\bAt s (d.pos+1)=45):=by omega
  rw[Hh hne]at d5
  cases ht:(aK s d).1 with
  |false=>rw[ht,Hh HS]at d5;refine a6 (fun _=>?_) (fun e=>absurd rfl e);rw[d5];refine⟨trivial,?_⟩;exact Xr
  |true=>rw[ht,Hj rfl]at d5;obtain⟨t1,t2,t3⟩:=eJ d3 hlt ht;refine a6 (fun e=>Bool.noConfusion e) (fun _=>?_);refine⟨(f,(aK s d).2),⟨by show((aK s d).2.out.length:Int)<=(aK s d).2.pos;omega,by show _<(aK s d).2.pos+(f:Int);omega,by show 0<=(aK s d).2.pos;omega,t2,d5⟩,by show f<f+1;omega,?_⟩;exact Xr
theorem E2(l:List Tokn)(a:Int)(hl:Wf (.lst (.st .token)) l)(hN:ml l) :
  let A:=b9 l a;let B:=True;let C:=(0:Int);let D:=b5 l a;let E:=C=D.1.kind;let F:=[]=D.1.pkg;let G:=[]=D.1.name;let H:=C=D.1.n;let I:=D.1.names=[];let J:=D.1.vars=[];let K:=D.1.shapes=[];let L:=D.1.parts=[];let M:=C=D.1.pos;let N:=C=D.2.1;let O:=(a7 (5000:Nat) A);let P:=cC (bz O.1) (ai A).pos O.2;let Q:=C=D.2.2.err/\C=D.2.2.pos/\B;let R:=if aQ P=true then B/\E/\F/\G/\H/\I/\J/\K/\L/\M/\N/\P.err=D.2.2.err/\P.fat=D.2.2.pos/\B else B/\O.1=D.1/\P.pos=D.2.1/\Q;let S:=if aQ O.2=true then B/\E/\F/\G/\H/\I/\J/\K/\L/\M/\N/\O.2.err=D.2.2.err/\O.2.fat=D.2.2.pos/\B else B/\O.1=D.1/\O.2.pos=D.2.1/\Q;if aQ A=true then B/\E/\F/\G/\H/\I/\J/\K/\L/\M/\N/\A.err=D.2.2.err/\A.fat=D.2.2.pos/\B else a8 A/\(a8 A/\rem A<(5000:Nat))/\if(!aQ O.2)=true then cx O.1=true/\if decide (bz O.1=(3:Int))=true then R else if decide (bz O.1=(91:Int))=true then R else S else S:=by
 conv=>zeta
 apply a6<;>intro h
 ·have hG:b5 l a=(lR,0,⟨(b9 l a).err,(b9 l a).fat⟩):=by unfold b5;rw[Hj h]
  rw[hG];exact Xr
 have b':aQ (b9 l a)=false:=by simpa using h
 have g:=fU hN b';have hG:b5 l a=sD l a (a7 5000 (b9 l a)):=by unfold b5;rw[Hh h]
 have hf:=(vZ g.2.2.1 5000 (b9 l a) rfl).1;refine⟨g,⟨g,by have:=j8 g;omega⟩,?_⟩;unfold sD at hG;generalize a7 5000 (b9 l a)=p at hG hf⊢;apply a6<;>intro k
 ·have k:aQ p.2=false:=by simpa using k
  rw[Hh (by rw[k];exact HS)]at hG
  have fin:∀q:Par,b5 l a=iJ lR (p.1,q)->if aQ q=true then True/\(0:Int)=(b5 l a).1.kind/\[]=(b5 l a).1.pkg/\[]=(b5 l a).1.name/\(0:Int)=(b5 l a).1.n/\(b5 l a).1.names=[]/\(b5 l a).1.vars=[]/\(b5 l a).1.shapes=[]/\(b5 l a).1.parts=[]/\(0:Int)=(b5 l a).1.pos/\(0:Int)=(b5 l a).2.1/\q.err=(b5 l a).2.2.err/\q.fat=(b5 l a).2.2.pos/\True
    else True/\p.1=(b5 l a).1/\q.pos=(b5 l a).2.1/\(0:Int)=(b5 l a).2.2.err/\(0:Int)=(b5 l a).2.2.pos/\True:=by
   intro q hq;unfold iJ at hq;apply a6<;>intro j
   ·rw[Hj j]at hq;rw[hq];exact Xr
   ·rw[Hh j]at hq;rw[hq];exact Xr
  refine⟨hf,a6 (fun j=>?_) (fun j=>a6 (fun i=>?_) (fun i=>?_))⟩
  ·rw[Hj (.inl (Xo j))]at hG;exact fin _ hG
  ·rw[Hj (.inr (Xo i))]at hG;exact fin _ hG
  ·rw[Hh (fun e=>e.elim (fun e=>j (Xd e)) (fun e=>i (Xd e)))]at hG;exact fin _ hG
 ·have k:aQ p.2=true:=by simpa using k
  rw[Hj k]at hG;unfold iJ at hG;rw[Hj k]at hG;refine a6 (fun _=>?_) (fun j=>absurd k j);rw[hG];exact Xr
theorem wc(s:Str)  :
  let A:=aU s;let B:=(0:Int);let C:=True;let D:=nQ s;let E:=B=D.1.kind;let F:=[]=D.1.pkg;let G:=[]=D.1.name;let H:=D.1.names=[];let I:=D.1.parts=[];let J:=gG A.1 B;let K:=cR A.1 J.2.1=D.2/\C;let L:=J.2.2=D.2/\C;if(!decide (A.2.err=B))=true then C/\E/\F/\G/\H/\I/\A.2=D.2/\C else ml A.1/\if decide (J.2.2.err=B)=true then(B<=J.2.1/\J.2.1<(↑(List.length A.1):Int))/\if(!decide ((cR A.1 J.2.1).err=B))=true then C/\E/\F/\G/\H/\I/\K else C/\J.1=D.1/\K else if(!decide (J.2.2.err=B))=true then C/\E/\F/\G/\H/\I/\L else C/\J.1=D.1/\L:=by
 conv=>zeta
 have e0:nQ s=nh Ab (fun l=>gG l 0) s:=rfl;unfold nh at e0;simp only at e0;apply a6<;>intro h
 ·have h:¬(aU s).2.err=0:=by simpa using h
  rw[Hh h]at e0;rw[e0];exact Xr
 have h:(aU s).2.err=0:=by simpa using h
 rw[Hj h]at e0;have hN:=iE h;obtain⟨l1,l2⟩:=qK h;refine⟨hN,a6 (fun k=>?_) (fun k=>?_)⟩
 ·replace k:=Xo k;rw[Hj k]at e0;refine⟨Bd hN l1 l2 k,a6 (fun j=>?_) (fun j=>?_)⟩
  ·have j:¬(cR (aU s).1 (gG (aU s).1 0).2.1).err=0:=by simpa using j
   rw[Hh j]at e0;rw[e0];exact Xr
  ·have j:(cR (aU s).1 (gG (aU s).1 0).2.1).err=0:=by simpa using j
   rw[Hj j]at e0;rw[e0];exact Xr
 ·have k:¬(gG (aU s).1 0).2.2.err=0:=fun e=>k (Xd e);rw[Hh k]at e0;refine a6 (fun _=>?_) (fun j=>absurd (by simp[k]) j);rw[e0];exact Xr
theorem we(s:Str)  :
  let A:=aU s;let B:=(0:Int);let C:=True;let D:=dp s;let E:=B=D.1.kind;let F:=[]=D.1.pkg;let G:=[]=D.1.name;let H:=B=D.1.n;let I:=D.1.names=[];let J:=D.1.vars=[];let K:=D.1.shapes=[];let L:=D.1.parts=[];let M:=B=D.1.pos;let N:=b5 A.1 B;let O:=cR A.1 N.2.1=D.2/\C;let P:=N.2.2=D.2/\C;if(!decide (A.2.err=B))=true then C/\E/\F/\G/\H/\I/\J/\K/\L/\M/\A.2=D.2/\C else ml A.1/\if decide (N.2.2.err=B)=true then(B<=N.2.1/\N.2.1<(↑(List.length A.1):Int))/\if(!decide ((cR A.1 N.2.1).err=B))=true then C/\E/\F/\G/\H/\I/\J/\K/\L/\M/\O else C/\N.1=D.1/\O else if(!decide (N.2.2.err=B))=true then C/\E/\F/\G/\H/\I/\J/\K/\L/\M/\P else C/\N.1=D.1/\P:=by
 conv=>zeta
 have e0:dp s=nh lR (fun l=>b5 l 0) s:=rfl;unfold nh at e0;simp only at e0;apply a6<;>intro h
 ·have h:¬(aU s).2.err=0:=by simpa using h
  rw[Hh h]at e0;rw[e0];exact Xr
 have h:(aU s).2.err=0:=by simpa using h
 rw[Hj h]at e0;have hN:=iE h;obtain⟨l1,l2⟩:=qK h;refine⟨hN,a6 (fun k=>?_) (fun k=>?_)⟩
 ·replace k:=Xo k;rw[Hj k]at e0;refine⟨yw hN l1 l2 k,a6 (fun j=>?_) (fun j=>?_)⟩
  ·have j:¬(cR (aU s).1 (b5 (aU s).1 0).2.1).err=0:=by simpa using j
   rw[Hh j]at e0;rw[e0];exact Xr
  ·have j:(cR (aU s).1 (b5 (aU s).1 0).2.1).err=0:=by simpa using j
   rw[Hj j]at e0;rw[e0];exact Xr
 ·have k:¬(b5 (aU s).1 0).2.2.err=0:=fun e=>k (Xd e);rw[Hh k]at e0;refine a6 (fun _=>?_) (fun j=>absurd (by simp[k]) j);rw[e0];exact Xr
end Go.AL.Seat
end
section
open Go Go.AL Go.Proofs Go.Shelf Go.Pd
namespace Go.AL.Seat
open Go.Proofs.Tryz
variable [Tabs]
def nn:Nat->Bool:=fun _=>false
def cf(k:Nat->Bool)(l:Nat->List (Option Nat))(p r m:Nat->Bool)(s:Nat->List AV->List (Nat×SObj)->Option Ans):Cfg:=⟨tbl,s,k,l,p,r,m⟩
def a0:An:=⟨[],[],[]⟩
theorem g1(k:Nat->Bool)(l:Nat->List (Option Nat))(p r m:Nat->Bool){s:Nat->List AV->List (Nat×SObj)->Option Ans}(hS:dA prog s)(a:An){f:Nat}{fn:Func}(hf:Tryz.prog.funcs[f]?=some fn)
 {args:List AV}{S:List (Nat×SObj)}{A:Ans}{Q:Prop}(q:Q)(h:fwp (cf k l p r m s) a fn args S A=Q:=by kernel_rfl):ay prog f args S A:=CT (C:=cf k l p r m s) mixed Dr hS hf q h
theorem g0{s:Nat->List AV->List (Nat×SObj)->Option Ans}(hS:dA prog s)(a:An){f:Nat}{fn:Func}(hf:Tryz.prog.funcs[f]?=some fn)
 {args:List AV}{S:List (Nat×SObj)}{A:Ans}{Q:Prop}(q:Q)(h:fwp (cf nn (fun _=>[]) nn nn nn s) a fn args S A=Q:=by kernel_rfl):ay prog f args S A:=CT (C:=cf nn (fun _=>[]) nn nn nn s) mixed Dr hS hf q h
theorem sc{f:Nat}{g:Pat}{l:List (Nat×Pat)}(h:ah prog f g)(hl:dA prog (lO l)):dA prog (lO ((f,g)::l)):=qe h hl
theorem sn:dA prog (lO []):=sj
theorem ee{f:Nat}{fn:Func}(h:Tryz.prog.funcs[f]?=some fn)(e:(fn.body.isNone || (fn.name == "runtime.NumGoroutine"))=false:=by kernel_rfl):az prog f:=az.mk' h e
variable [SeatLaid]
theorem jx:ah prog 126 (p1 (.int .u8) fun c=>.ret (.bool (cq c))):=
 cd (ee func126) fun c _ _=>g0 sn a0 func126 (Dx c)
theorem jy:ah prog 127 (p1 (.int .u8) fun c=>.ret (.bool (cy c))):=
 cd (ee func127) fun c _ _=>g0 sn a0 func127 (Dy c)
theorem nR:ah prog 132 (p1 (.int .u8) fun c=>.ret (.bool (de c))):=
 cd (ee func132) fun c _ _=>g0 sn a0 func132 (Dz c)
theorem qL:ah prog 128 (p1 (.int .u8) fun c=>.ret (.bool (bK c))):=
 cd (ee func128) fun c _ _=>g0 (sc jx (sc jy (sc nR sn))) a0 func128 (Ff c)
theorem yH:ah prog 181 (pf .str 126 fun s=>.ret (.bool (dD cq s))):=
 ot (ee func181) fun s hs _=>g0 (sc jx (sc jy (sc qL sn))) ⟨[(4,fun S0=>⟨Nat,fun k=>k<=s.length/\dD cq s=(s.drop k).all fun c=>bK (bI c),fun k=>[(22,.int .i64 k)],fun _=>[],fun k=>s.length-k⟩)],[],[]⟩ func181 (Be s hs)
theorem yI:ah prog 181 (pf .str 127 fun s=>.ret (.bool (dD cy s))):=
 ot (ee func181) fun s hs _=>g0 (sc jx (sc jy (sc qL sn))) ⟨[(4,fun S0=>⟨Nat,fun k=>k<=s.length/\dD cy s=(s.drop k).all fun c=>bK (bI c),fun k=>[(22,.int .i64 k)],fun _=>[],fun k=>s.length-k⟩)],[],[]⟩ func181 (Bf s hs)
theorem wg:ah prog 129 (p1 .str fun s=>.ret (.bool (qg s))):=
 cd (ee func129) fun s _ _=>g0 sn a0 func129 (Fg s)
theorem kS:ah prog 130 (p1 .str fun s=>.ret (.bool (aW s))):=
 cd (ee func130) fun s _ _=>g0 (sc yH (sc wg sn)) a0 func130 (Fh s)
theorem nS:ah prog 131 (p1 .str fun s=>.ret (.bool (dM s))):=
 cd (ee func131) fun s _ _=>g0 (sc yI sn) a0 func131 (DA s)
theorem yJ:ah prog 163 (p2 (.lst .str) .str fun a v=>.ret (.int .i64 (fB a v 0))):=
 gu (ee func163) fun a v ha _ _=>g0 sn ⟨[(2,fun S0=>⟨Nat,fun k=>k<=a.length/\fB a v 0=fB (a.drop k) v k,fun k=>[(8,.int .i64 k)],fun _=>[],fun k=>a.length-k⟩)],[],[]⟩ func163 (Bg a v ha)
theorem rP:ah prog 116 (p2 (.lst .str) .str fun a v=>.ret (.bool (decide (v∈a)))):=
 gu (ee func116) fun a v _ _ _=>g0 (sc yJ sn) a0 func116 (u7 a v)
theorem BH:ah prog 154 (p1 .str fun s=>.ret (.bool (mi s))):=
 cd (ee func154) fun s _ _=>g0 sn a0 func154 (DB s)
theorem qM:ah prog 201 (p1 (.lst .str) fun a=>⟨none,none,.fn 230 [.ptr 1 0],[(1,.box (.lst .str a none))]⟩):=
 cd (ee func201) fun a _ _=>g0 sn a0 func201 (Bh a)
theorem BI:ah prog 153 (p1 (.st .shape) fun s=>⟨some (s.parts.length *16<=140737488355328),none,.bool (eH s),[]⟩):=
 cd (ee func153) fun s hs ho=>g0 (sc kS (sc qM (sc (qC) (sc (oA) sn)))) ⟨[(4,fun S0=>⟨Nat,fun k=>k<=s.names.length/\s.names.length=s.parts.length/\eH s=(((s.names.drop k).all aW)&&decide s.names.Nodup),fun k=>[(16,.int .i64 k)],fun _=>[],fun k=>s.names.length-k⟩)],[],[]⟩ func153 (DC s hs (ho _ rfl))
theorem E3:ah prog 92 (p1 (.st .shape) fun s=>⟨some (s.parts.length *16<=140737488355328),none,.bool (dm s),[]⟩):=
 cd (ee func92) fun s hs ho=>g0 (sc BI (sc nS (sc kS (sc BH sn)))) a0 func92 (Fi s hs (ho _ rfl))
theorem qN:az prog 91:=ee func91
theorem rQ(n:Nat)(s:AL.Shape)(hs:Wf (.st .shape) s)(hn:sz s<=n+1)(hb:n<=1000000)(hA:ah prog 91 (pf (.st .shape) 92 fun s=>⟨some (sz s<=n),none,.bool (allS dm s),[]⟩)):ay prog 91 [.st .shape s,.fn 92 []] [] (.ret (.bool (allS dm s))):=
 g0 (sc E3 (sc (hA) sn)) ⟨[(4,fun S0=>⟨Nat,fun k=>k<=s.parts.length/\allS dm s=allL dm (s.parts.drop k),fun k=>[(14,.int .i64 k)],fun _=>[],fun k=>s.parts.length-k⟩)],[],[]⟩ func91 (yx n s hs hn hb)
theorem wh:∀n:Nat,n<=1000000->ah prog 91 (pf (.st .shape) 92 fun s=>⟨some (sz s<=n),none,.bool (allS dm s),[]⟩):=by
 intro n
 induction n with
 |zero=>exact fun _=>ot qN fun a hs ho=>absurd (ho _ rfl) (by have:=mj a;omega)
 |succ n ih=>exact fun hb=>ot qN fun a hs ho=>rQ n a hs (ho _ rfl) (by omega) (ih (by omega))
theorem E4:ah prog 152 (tR 146):=
 yf (ee func152) fun c hc=>g0 sn a0 func152 (Fj c hc)
theorem Af:az prog 151:=ee func151
theorem yK(n:Nat)(s:AL.Shape)(l c:Int)(hs:Wf (.st .shape) s)(hn:sz s<=n+1)(hc:0<=c/\c<=400/\1<=l/\l<=c+1)(hA:ah prog 151 (pa 146 152 n)):ay prog 151 [.st .shape s,.int .i64 l,.fn 152 [.ptr 900 0]] [(900,.box (.int .i64 c))] (CY 146 s l c (sz s<=n+1)):=
 g0 (sc E4 (sc (hA) sn)) ⟨[(4,fun S0=>⟨Nat×Int,fun x=>x.1<=s.parts.length/\c+1+(szL (s.parts.take x.1):Int)<=400/\deepL (s.parts.drop x.1) (l+1) x.2=deepS s l,fun x=>[(7,.int .i64 x.2),(16,.int .i64 x.1)],fun x=>[(900,.box (.int .i64 (c+1+(szL (s.parts.take x.1):Int))))],fun x=>s.parts.length-x.1⟩)],[],[]⟩ func151 (Fk n s l c hs hn hc)
theorem E5:∀n:Nat,ah prog 151 (pa 146 152 n):=by
 intro n
 induction n with
 |zero=>exact qh Af fun s l c hs hn hc=>absurd hn (by have:=mj s;omega)
 |succ n ih=>exact qh Af fun s l c hs hn hc=>yK n s l c hs hn hc ih
theorem wi(s:AL.Shape)(hs:Wf (.st .shape) s) :ay prog 90 [.st .shape s] [] (.ret (.tup [.int .i64 (if sz s<=400 then(sz s:Int)else 401),.int .i64 (if sz s<=400 then deepS s 1 else 0),.bool (decide (sz s<=400))])):=
 fwpR_sound (C:=⟨tbl,_,fun _=>false,fun _=>[],fun _=>false,fun _=>false,fun _=>false⟩) (ann:=⟨[],[],[]⟩) (annC:=⟨[],[],[]⟩) mixed Dr (qe (E5 (sz s)) (sj)) func90 func150 (enters_of func150 (by kernel_rfl) rfl) (@Eq.mpr _ _ (by kernel_rfl) (DD s hs))
theorem BJ:ah prog 90 (p1 (.st .shape) fun s=>.ret (.tup [.int .i64 (if sz s<=400 then(sz s:Int)else 401),.int .i64 (if sz s<=400 then deepS s 1 else 0),.bool (decide (sz s<=400))])):=
 cd (ee func90) fun s hs _=>wi s hs
theorem sE:ah prog 46 (p1 (.st .shape) fun s=>.ret (.int .i64 (di s))):=
 cd (ee func46) fun s _ _=>g0 (sc (BJ) (sc (wh 400 (by decide)) sn)) a0 func46 (DE s)
theorem dz:ah prog 29 (pP0 fun s=>⟨none,none,.bool (aQ s),[(900,.box (.st .par (s)))]⟩):=
 iz (ee func29) (fun _=>rfl) (fun _=>by simp[aq]) fun s ho=>g0 sn a0 func29 (GB s)
theorem fG:ah prog 33 (pP0 fun s=>⟨some (a8 s),none,.st .token (ai s),[(900,.box (.st .par (s)))]⟩):=
 iz (ee func33) (fun _=>rfl) (fun _=>by simp[aq]) fun s ho=>g0 sn a0 func33 (Fl s (ho _ rfl))
theorem gy:ah prog 36 (pP2 (.int .i64) (.int .i64) fun s e a=>⟨none,none,.tup [],[(900,.box (.st .par (cC e a s)))]⟩):=
 Gm (ee func36) (fun _ _ _=>rfl) (fun _ _ _=>by simp[aq]) fun s e a hwe hwa ho=>g0 (sc dz sn) a0 func36 (Fm s e a)
theorem GH:ah prog 115 (pP1 .str fun s t=>⟨some (a8 s),none,.bool (isF t s),[(900,.box (.st .par (s)))]⟩):=
 qk (ee func115) (fun _ _=>rfl) (fun _ _=>by simp[aq]) fun s t hwt ho=>g0 (sc fG (sc dz sn)) a0 func115 (GV s t (ho _ rfl))
theorem eU:ah prog 59 (pP1 .str fun s t=>⟨some (a8 s),none,.bool (isF t s),[(900,.box (.st .par (cw t s)))]⟩):=
 qk (ee func59) (fun _ _=>rfl) (fun _ _=>by simp[aq]) fun s t hwt ho=>g0 (sc GH sn) a0 func59 (GC s t (ho _ rfl))
theorem cZ:ah prog 58 (pP1 .str fun s t=>⟨some (a8 s),none,.tup [],[(900,.box (.st .par (ak t s)))]⟩):=
 qk (ee func58) (fun _ _=>rfl) (fun _ _=>by simp[aq]) fun s t hwt ho=>g0 (sc eU (sc fG (sc gy sn))) a0 func58 (Fo s t (ho _ rfl))
theorem jz:ah prog 63 (pP1 (.int .i64) fun s k=>⟨some (a8 s/\¬k=0),none,.st .token (aE k s).1,[(900,.box (.st .par ((aE k s).2)))]⟩):=
 qk (ee func63) (fun _ _=>rfl) (fun _ _=>by simp[aq]) fun s k hwk ho=>g0 (sc fG (sc dz (sc gy sn))) a0 func63 (Fp s k (ho _ rfl))
theorem lC:ah prog 62 (pP1 (.lst .str) fun s ns=>⟨some (a8 s),none,.str (aJ ns s).1,[(900,.box (.st .par ((aJ ns s).2)))]⟩):=
 qk (ee func62) (fun _ _=>rfl) (fun _ _=>by simp[aq]) fun s ns hwns ho=>g0 (sc jz (sc dz (sc gy (sc rP sn)))) a0 func62 (DF s ns (ho _ rfl) hwns)
theorem BK:ah prog 107 (p2 .str .str fun p n=>.ret (.st .shape (jS p n))):=
 gu (ee func107) fun p n _ _ _=>g0 sn a0 func107 (DG p n)
theorem E6:az prog 106:=ee func106
def Ha(n:Nat):=pP0 fun s=>⟨some (a8 s/\rem s<n),none,.st .shape (ag n s).1,[(900,.box (.st .par (ag n s).2))]⟩
theorem wj(n:Nat)(s:Par) (ho:a8 s/\rem (ak [58] s)<n)(hS:ah prog 53 (Ha n)):ay prog 106 [.ptr 900 0] [(900,.box (.st .par s))] (⟨some (a8 s/\rem (ak [58] s)<n),none,.st .shape (ag n (ak [58] s)).1,[(900,.box (.st .par ((ag n (ak [58] s)).2)))]⟩):=
 g0 (sc cZ (sc (hS) sn)) a0 func106 (DH n s ho)
theorem BL(n:Nat)(hS:ah prog 53 (Ha n)):ah prog 106 (pP0 fun s=>⟨some (a8 s/\rem (ak [58] s)<n),none,.st .shape (ag n (ak [58] s)).1,[(900,.box (.st .par ((ag n (ak [58] s)).2)))]⟩):=
 iz E6 (fun _=>rfl) (fun _=>by simp[aq]) fun s ho=>wj n s (ho _ rfl) hS
theorem BM:az prog 105:=ee func105
def He(n:Nat):=pP0 fun s=>⟨some (a8 s/\rem (ak [58] s)<n),none,.st .shape (ag n (ak [58] s)).1,[(900,.box (.st .par (ag n (ak [58] s)).2))]⟩
theorem ua(n:Nat)(x:Shape)(s:Par)(hi:a8 s)(h0:s.err=0)(hn:rem s<=n)(hl:x.names.length+x.parts.length<=100000)(hT:ah prog 106 (He n)):ay prog 105 [.ptr 900 0,.ptr 901 0] (D1 x (.st .par s) x.names.length x.parts.length) (⟨some (a8 s/\s.err=0/\rem s<=n/\x.names.length=x.names.length/\x.parts.length=x.parts.length/\x.names.length+x.parts.length<=100000),none,.tup [],[(900,.box (.ptr 902 0)),(901,.box (.agg [.int .i64 ((aw (ag n) x s).1).kind,.str ((aw (ag n) x s).1).pkg,.str ((aw (ag n) x s).1).name,.lst .str ((aw (ag n) x s).1).names (some 903),.lst (.st .shape) ((aw (ag n) x s).1).parts (some 904)])),(902,.box (.st .par (aw (ag n) x s).2)),(903,.tail .str (aw (ag n) x s).1.names.length),(904,.tail (.st .shape) (aw (ag n) x s).1.parts.length)]⟩):=
 g1 nn (fun _=>[]) (fun d=>Nat.beq d 21) nn nn (sc lC (sc (hT) sn)) a0 func105 (Bi n x s hi h0 hn hl)
def H5(n:Nat):=qm fun x s m m'=>⟨some (a8 s/\s.err=0/\rem s<=n/\m=x.names.length/\m'=x.parts.length/\m+m'<=100000),none,.tup [],[(900,.box (.ptr 902 0)),(901,.box (.agg [.int .i64 ((aw (ag n) x s).1).kind,.str ((aw (ag n) x s).1).pkg,.str ((aw (ag n) x s).1).name,.lst .str ((aw (ag n) x s).1).names (some 903),.lst (.st .shape) ((aw (ag n) x s).1).parts (some 904)])),(902,.box (.st .par (aw (ag n) x s).2)),(903,.tail .str (aw (ag n) x s).1.names.length),(904,.tail (.st .shape) (aw (ag n) x s).1.parts.length)]⟩
theorem yL(n:Nat)(hT:ah prog 106 (He n)):ah prog 105 (H5 n):=
 AU BM (fun _ _ _ _=>rfl) (fun _ _ _ _=>by simp[aq]) fun x s m m' ho=>by obtain⟨q1,q2,q3,q4,q5,q6⟩:=ho _ rfl;subst q4 q5;exact ua n x s q1 q2 q3 q6 hT
theorem E7:az prog 108:=ee func108
theorem wk(n:Nat)(x:Shape)(s:Par)(hi:a8 s)(hn:rem s<n)(hl:x.parts.length<=100000)(hS:ah prog 53 (Ha n)):ay prog 108 [.ptr 900 0,.ptr 901 0] (G6 x (.st .par s) x.parts.length) (⟨some (a8 s/\rem s<n/\x.parts.length=x.parts.length/\x.parts.length<=100000),none,.tup [],[(900,.box (.agg [.int .i64 ((aA (ag n) x s).1).kind,.str ((aA (ag n) x s).1).pkg,.str ((aA (ag n) x s).1).name,.nils,.lst (.st .shape) ((aA (ag n) x s).1).parts (some 902)])),(901,.box (.ptr 903 0)),(902,.tail (.st .shape) (aA (ag n) x s).1.parts.length),(903,.box (.st .par (aA (ag n) x s).2))]⟩):=
 g1 nn (fun _=>[]) (fun d=>Nat.beq d 8) nn nn (sc (hS) sn) a0 func108 (DI n x s hi hn hl)
def H6(n:Nat):=vA fun x s m=>⟨some (a8 s/\rem s<n/\m=x.parts.length/\m<=100000),none,.tup [],[(900,.box (.agg [.int .i64 ((aA (ag n) x s).1).kind,.str ((aA (ag n) x s).1).pkg,.str ((aA (ag n) x s).1).name,.nils,.lst (.st .shape) ((aA (ag n) x s).1).parts (some 902)])),(901,.box (.ptr 903 0)),(902,.tail (.st .shape) (aA (ag n) x s).1.parts.length),(903,.box (.st .par (aA (ag n) x s).2))]⟩
theorem BN(n:Nat)(hS:ah prog 53 (Ha n)):ah prog 108 (H6 n):=
 D2 E7 (fun _ _ _=>rfl) (fun _ _ _=>by simp[aq]) fun x s m hx ho=>by obtain⟨q1,q2,q3,q4⟩:=ho _ rfl;subst q3;exact wk n x s q1 q2 q4 hS
theorem E8:az prog 60:=ee func60
theorem wm(n:Nat)(b e:Str)(k:Int)(s:Par)(hi:a8 s)(hn:rem s<=n)(hC:ah prog 105 (H5 n)):ay prog 60 [.ptr 900 0,.str b,.str e,.fn 105 [.ptr 901 0,.ptr 902 0]] (D3 k (.st .par s)) (⟨some (a8 s/\rem s<=n),none,.tup [],[(900,.box (.st .par (ab b e (aw (ag n)) (⟨k,[],[],[],[]⟩) s).2)),(901,.box (.ptr 900 0)),(902,.box (.agg [.int .i64 ((ab b e (aw (ag n)) (⟨k,[],[],[],[]⟩) s).1).kind,.str ((ab b e (aw (ag n)) (⟨k,[],[],[],[]⟩) s).1).pkg,.str ((ab b e (aw (ag n)) (⟨k,[],[],[],[]⟩) s).1).name,.lst .str ((ab b e (aw (ag n)) (⟨k,[],[],[],[]⟩) s).1).names (some 701),.lst (.st .shape) ((ab b e (aw (ag n)) (⟨k,[],[],[],[]⟩) s).1).parts (some 702)])),(701,.tail .str (ab b e (aw (ag n)) (⟨k,[],[],[],[]⟩) s).1.names.length),(702,.tail (.st .shape) (ab b e (aw (ag n)) (⟨k,[],[],[],[]⟩) s).1.parts.length)]⟩):=
 g0 (sc eU (sc dz (sc cZ (sc (hC) sn)))) ⟨[(1,fun S0=>⟨Nat×Shape×Par,fun y=>a8 y.2.2/\rem y.2.2<y.1/\rem y.2.2<=n/\y.2.1.names.length+y.1<=5000/\y.2.1.parts.length+y.1<=5000/\aX b e (aw (ag n)) y.1 y.2.1 y.2.2=(ab b e (aw (ag n)) (⟨k,[],[],[],[]⟩) s),fun _=>[],fun y=>[(900,.box (.st .par y.2.2)),(902,.box (.agg [.int .i64 (y.2.1).kind,.str (y.2.1).pkg,.str (y.2.1).name,.lst .str (y.2.1).names (some 701),.lst (.st .shape) (y.2.1).parts (some 702)])),(701,.tail .str y.2.1.names.length),(702,.tail (.st .shape) y.2.1.parts.length)],fun y=>y.1⟩)],[],[]⟩ func60 (DJ n b e k s hi hn)
def H7(n:Nat):=tU 105 fun b e k s=>⟨some (a8 s/\rem s<=n),none,.tup [],[(900,.box (.st .par (ab b e (aw (ag n)) (⟨k,[],[],[],[]⟩) s).2)),(901,.box (.ptr 900 0)),(902,.box (.agg [.int .i64 ((ab b e (aw (ag n)) (⟨k,[],[],[],[]⟩) s).1).kind,.str ((ab b e (aw (ag n)) (⟨k,[],[],[],[]⟩) s).1).pkg,.str ((ab b e (aw (ag n)) (⟨k,[],[],[],[]⟩) s).1).name,.lst .str ((ab b e (aw (ag n)) (⟨k,[],[],[],[]⟩) s).1).names (some 701),.lst (.st .shape) ((ab b e (aw (ag n)) (⟨k,[],[],[],[]⟩) s).1).parts (some 702)])),(701,.tail .str (ab b e (aw (ag n)) (⟨k,[],[],[],[]⟩) s).1.names.length),(702,.tail (.st .shape) (ab b e (aw (ag n)) (⟨k,[],[],[],[]⟩) s).1.parts.length)]⟩
theorem BO(n:Nat)(hC:ah prog 105 (H5 n)):ah prog 60 (H7 n):=
 AW E8 (fun _ _ _ _=>rfl) (fun _ _ _ _=>by simp[aq]) fun b e k s ho=>wm n b e k s (ho _ rfl).1 (ho _ rfl).2 hC
theorem E9:az prog 60:=ee func60
theorem wo(n:Nat)(b e:Str)(k:Int)(s:Par)(hi:a8 s)(hn:rem s<n)(hC:ah prog 108 (H6 n)):ay prog 60 [.ptr 900 0,.str b,.str e,.fn 108 [.ptr 901 0,.ptr 902 0]] (D4 k (.st .par s)) (⟨some (a8 s/\rem s<n),none,.tup [],[(900,.box (.st .par (ab b e (aA (ag n)) (⟨k,[],[],[],[]⟩) s).2)),(901,.box (.agg [.int .i64 ((ab b e (aA (ag n)) (⟨k,[],[],[],[]⟩) s).1).kind,.str ((ab b e (aA (ag n)) (⟨k,[],[],[],[]⟩) s).1).pkg,.str ((ab b e (aA (ag n)) (⟨k,[],[],[],[]⟩) s).1).name,.nils,.lst (.st .shape) ((ab b e (aA (ag n)) (⟨k,[],[],[],[]⟩) s).1).parts (some 702)])),(902,.box (.ptr 900 0)),(702,.tail (.st .shape) (ab b e (aA (ag n)) (⟨k,[],[],[],[]⟩) s).1.parts.length)]⟩):=
 g0 (sc eU (sc dz (sc cZ (sc (hC) sn)))) ⟨[(1,fun S0=>⟨Nat×Shape×Par,fun y=>a8 y.2.2/\rem y.2.2<y.1/\rem y.2.2<n/\y.2.1.parts.length+y.1<=5000/\y.2.1.names=[]/\aX b e (aA (ag n)) y.1 y.2.1 y.2.2=(ab b e (aA (ag n)) (⟨k,[],[],[],[]⟩) s),fun _=>[],fun y=>[(900,.box (.st .par y.2.2)),(901,.box (.agg [.int .i64 (y.2.1).kind,.str (y.2.1).pkg,.str (y.2.1).name,.nils,.lst (.st .shape) (y.2.1).parts (some 702)])),(702,.tail (.st .shape) y.2.1.parts.length)],fun y=>y.1⟩)],[],[]⟩ func60 (DK n b e k s hi hn)
def H8(n:Nat):=tV 108 fun b e k s=>⟨some (a8 s/\rem s<n),none,.tup [],[(900,.box (.st .par (ab b e (aA (ag n)) (⟨k,[],[],[],[]⟩) s).2)),(901,.box (.agg [.int .i64 ((ab b e (aA (ag n)) (⟨k,[],[],[],[]⟩) s).1).kind,.str ((ab b e (aA (ag n)) (⟨k,[],[],[],[]⟩) s).1).pkg,.str ((ab b e (aA (ag n)) (⟨k,[],[],[],[]⟩) s).1).name,.nils,.lst (.st .shape) ((ab b e (aA (ag n)) (⟨k,[],[],[],[]⟩) s).1).parts (some 702)])),(902,.box (.ptr 900 0)),(702,.tail (.st .shape) (ab b e (aA (ag n)) (⟨k,[],[],[],[]⟩) s).1.parts.length)]⟩
theorem BP(n:Nat)(hC:ah prog 108 (H6 n)):ah prog 60 (H8 n):=
 AX E9 (fun _ _ _ _=>rfl) (fun _ _ _ _=>by simp[aq]) fun b e k s ho=>wo n b e k s (ho _ rfl).1 (ho _ rfl).2 hC
theorem wq:az prog 53:=ee func53
theorem wu(n:Nat)(s:Par)(hi:a8 s)(hn:rem s<n+1)(hS:ah prog 53 (Ha n))(hL:ah prog 60 (H7 n))(hM:ah prog 60 (H8 n)):ay prog 53 [.ptr 900 0] [(900,.box (.st .par s))] (⟨some (a8 s/\rem s<n+1),none,.st .shape (ag (n+1) s).1,[(900,.box (.st .par (ag (n+1) s).2))]⟩):=
 g1 nn (fun _=>[]) (fun d=>Nat.beq d 129) nn nn (sc fG (sc dz (sc cZ (sc jz (sc eU (sc gy (sc BK (sc (hS) (sc (hL) (sc (hM) sn)))))))))) a0 func53 (DL n s hi hn)
theorem lD:∀n:Nat,ah prog 53 (Ha n)
 |0=>iz wq (fun _=>rfl) (fun _=>by simp[aq]) fun s ho=>absurd (ho _ rfl).2 (It _)
 |n+1=>iz wq (fun _=>rfl) (fun _=>by simp[aq]) fun s ho=>
  wu n s (ho _ rfl).1 (ho _ rfl).2 (lD n) (BO n (yL n (BL n (lD n)))) (BP n (BN n (lD n)))
theorem jA:ah prog 30 (pP0 fun s=>⟨some (a8 s),none,.st .shape (bg s).1,[(900,.box (.st .par ((bg s).2)))]⟩):=
 iz (ee func30) (fun _=>rfl) (fun _=>by simp[aq]) fun s ho=>g0 (sc fG (sc (lD big) (sc dz (sc sE (sc gy sn))))) a0 func30 (DM s (ho _ rfl))
theorem BQ:az prog 56:=ee func56
def GZ(n:Nat):=pP0 fun s=>⟨some (a8 s/\rem s<n),none,.st .term (a7 n s).1,[(900,.box (.st .par (a7 n s).2))]⟩
theorem ub(n:Nat)(x:Trm)(s:Par)(hi:a8 s)(hn:rem s<n)(zn:x.names=[])(zv:x.vars=[])(zs:x.shapes=[])(zp:x.parts=[])(hT:ah prog 34 (GZ n)):ay prog 56 [.ptr 900 0,.ptr 901 0] (sT_ x (.st .par s)) (⟨some (a8 s/\rem s<n),none,.tup [],[(900,.box (.agg [.int .i64 x.kind,.str x.pkg,.str x.name,.int .i64 x.n,.nils,.nils,.nils,.lst (.st .term) ((x.parts++[(a7 n s).1])) (some 8),.int .i64 x.pos])),(901,.box (.ptr 902 0)),(902,.box (.st .par (a7 n s).2)),(8,.tail (.st .term) (x.parts++[(a7 n s).1]).length)]⟩):=
 g1 nn (fun _=>[]) (fun d=>Nat.beq d 8) nn nn (sc (hT) sn) a0 func56 (Bj n x s hi hn zn zv zs zp)
def Hc(n:Nat):=pT_ fun x s=>⟨some (a8 s/\rem s<n),none,.tup [],[(900,.box (.agg [.int .i64 x.kind,.str x.pkg,.str x.name,.int .i64 x.n,.nils,.nils,.nils,.lst (.st .term) ((x.parts++[(a7 n s).1])) (some 8),.int .i64 x.pos])),(901,.box (.ptr 902 0)),(902,.box (.st .par (a7 n s).2)),(8,.tail (.st .term) (x.parts++[(a7 n s).1]).length)]⟩
theorem yM(n:Nat)(hT:ah prog 34 (GZ n)):ah prog 56 (Hc n):=
 Gn BQ (fun _ _=>rfl) (fun _ _=>by simp[aq]) fun x s zn zv zs zp ho=>by obtain⟨q1,q2⟩:=ho _ rfl;exact ub n x s q1 q2 zn zv zs zp hT
theorem BR:az prog 56:=ee func56
theorem uc(n:Nat)(x:Trm)(s:Par)(hi:a8 s)(hn:rem s<n)(zn:x.names=[])(zv:x.vars=[])(zs:x.shapes=[])(hl:x.parts.length<=100000)(hT:ah prog 34 (GZ n)):ay prog 56 [.ptr 900 0,.ptr 901 0] (Gp x (.st .par s) x.parts.length) (⟨some (a8 s/\rem s<n/\x.parts.length=x.parts.length/\x.parts.length<=100000),none,.tup [],[(900,.box (.agg [.int .i64 x.kind,.str x.pkg,.str x.name,.int .i64 x.n,.nils,.nils,.nils,.lst (.st .term) ((x.parts++[(a7 n s).1])) (some 902),.int .i64 x.pos])),(901,.box (.ptr 903 0)),(902,.tail (.st .term) (x.parts++[(a7 n s).1]).length),(903,.box (.st .par (a7 n s).2))]⟩):=
 g1 nn (fun _=>[]) (fun d=>Nat.beq d 8) nn nn (sc (hT) sn) a0 func56 (Bk n x s hi hn zn zv zs hl)
def GY(n:Nat):=tW fun x s mp=>⟨some (a8 s/\rem s<n/\mp=x.parts.length/\mp<=100000),none,.tup [],[(900,.box (.agg [.int .i64 x.kind,.str x.pkg,.str x.name,.int .i64 x.n,.nils,.nils,.nils,.lst (.st .term) ((x.parts++[(a7 n s).1])) (some 902),.int .i64 x.pos])),(901,.box (.ptr 903 0)),(902,.tail (.st .term) (x.parts++[(a7 n s).1]).length),(903,.box (.st .par (a7 n s).2))]⟩
theorem qO(n:Nat)(hT:ah prog 34 (GZ n)):ah prog 56 (GY n):=
 zW BR (fun _ _ _=>rfl) (fun _ _ _=>by simp[aq]) fun x s mp zn zv zs ho=>by obtain⟨q1,q2,ep,ql⟩:=ho _ rfl;subst ep;exact uc n x s q1 q2 zn zv zs ql hT
theorem yN:az prog 56:=ee func56
theorem rR(n:Nat)(x:Trm)(s:Par)(hi:a8 s)(hn:rem s<n)(zv:x.vars=[])(zp:x.parts=[])(hl:x.names.length+x.shapes.length<=100000)(hT:ah prog 34 (GZ n)):ay prog 56 [.ptr 900 0,.ptr 901 0] (G7 x (.st .par s) x.names.length x.shapes.length) (⟨some (a8 s/\rem s<n/\x.names.length=x.names.length/\x.shapes.length=x.shapes.length/\x.names.length+x.shapes.length<=100000),none,.tup [],[(900,.box (.agg [.int .i64 x.kind,.str x.pkg,.str x.name,.int .i64 x.n,.lst .str (x.names) (some 902),.nils,.lst (.st .shape) (x.shapes) (some 903),.lst (.st .term) ((x.parts++[(a7 n s).1])) (some 8),.int .i64 x.pos])),(901,.box (.ptr 904 0)),(902,.tail .str x.names.length),(903,.tail (.st .shape) x.shapes.length),(904,.box (.st .par (a7 n s).2)),(8,.tail (.st .term) (x.parts++[(a7 n s).1]).length)]⟩):=
 g1 nn (fun _=>[]) (fun d=>Nat.beq d 8) nn nn (sc (hT) sn) a0 func56 (yy n x s hi hn zv zp hl)
def H9(n:Nat):=zX fun x s mn ms=>⟨some (a8 s/\rem s<n/\mn=x.names.length/\ms=x.shapes.length/\mn+ms<=100000),none,.tup [],[(900,.box (.agg [.int .i64 x.kind,.str x.pkg,.str x.name,.int .i64 x.n,.lst .str (x.names) (some 902),.nils,.lst (.st .shape) (x.shapes) (some 903),.lst (.st .term) ((x.parts++[(a7 n s).1])) (some 8),.int .i64 x.pos])),(901,.box (.ptr 904 0)),(902,.tail .str x.names.length),(903,.tail (.st .shape) x.shapes.length),(904,.box (.st .par (a7 n s).2)),(8,.tail (.st .term) (x.parts++[(a7 n s).1]).length)]⟩
theorem wv(n:Nat)(hT:ah prog 34 (GZ n)):ah prog 56 (H9 n):=
 D5 yN (fun _ _ _ _=>rfl) (fun _ _ _ _=>by simp[aq]) fun x s mn ms zv zp ho=>by obtain⟨q1,q2,en,es,ql⟩:=ho _ rfl;subst en;subst es;exact rR n x s q1 q2 zv zp ql hT
theorem ud:az prog 56:=ee func56
theorem oO(n:Nat)(x:Trm)(s:Par)(hi:a8 s)(hn:rem s<n)(hl:x.names.length+x.vars.length+x.shapes.length+x.parts.length<=100000)(hT:ah prog 34 (GZ n)):ay prog 56 [.ptr 900 0,.ptr 901 0] (zY x (.st .par s) x.names.length x.vars.length x.shapes.length x.parts.length) (⟨some (a8 s/\rem s<n/\x.names.length=x.names.length/\x.vars.length=x.vars.length/\x.shapes.length=x.shapes.length/\x.parts.length=x.parts.length/\x.names.length+x.vars.length+x.shapes.length+x.parts.length<=100000),none,.tup [],[(900,.box (.agg [.int .i64 x.kind,.str x.pkg,.str x.name,.int .i64 x.n,.lst .str (x.names) (some 902),.lst .str (x.vars) (some 903),.lst (.st .shape) (x.shapes) (some 904),.lst (.st .term) ((x.parts++[(a7 n s).1])) (some 905),.int .i64 x.pos])),(901,.box (.ptr 906 0)),(902,.tail .str x.names.length),(903,.tail .str x.vars.length),(904,.tail (.st .shape) x.shapes.length),(905,.tail (.st .term) (x.parts++[(a7 n s).1]).length),(906,.box (.st .par (a7 n s).2))]⟩):=
 g1 nn (fun _=>[]) (fun d=>Nat.beq d 8) nn nn (sc (hT) sn) a0 func56 (u9 n x s hi hn hl)
def H0(n:Nat):=n9 fun x s mn mv ms mp=>⟨some (a8 s/\rem s<n/\mn=x.names.length/\mv=x.vars.length/\ms=x.shapes.length/\mp=x.parts.length/\mn+mv+ms+mp<=100000),none,.tup [],[(900,.box (.agg [.int .i64 x.kind,.str x.pkg,.str x.name,.int .i64 x.n,.lst .str (x.names) (some 902),.lst .str (x.vars) (some 903),.lst (.st .shape) (x.shapes) (some 904),.lst (.st .term) ((x.parts++[(a7 n s).1])) (some 905),.int .i64 x.pos])),(901,.box (.ptr 906 0)),(902,.tail .str x.names.length),(903,.tail .str x.vars.length),(904,.tail (.st .shape) x.shapes.length),(905,.tail (.st .term) (x.parts++[(a7 n s).1]).length),(906,.box (.st .par (a7 n s).2))]⟩
theorem rS(n:Nat)(hT:ah prog 34 (GZ n)):ah prog 56 (H0 n):=
 yj ud (fun _ _ _ _ _ _=>rfl) (fun _ _ _ _ _ _=>by simp[aq]) fun x s mn mv ms mp _ ho=>by obtain⟨q1,q2,en,ev,es,ep,ql⟩:=ho _ rfl;subst en;subst ev;subst es;subst ep;exact oO n x s q1 q2 ql hT
theorem BS:az prog 118:=ee func118
theorem ue(n:Nat)(x:Trm)(s:Par)(hi:a8 s)(hn:rem s<n)(zn:x.names=[])(zv:x.vars=[])(zs:x.shapes=[])(hl:x.parts.length<=100000)(hT:ah prog 34 (GZ n)):ay prog 118 [.ptr 900 0,.ptr 901 0] (Gp x (.st .par s) x.parts.length) (⟨some (a8 s/\rem s<n/\x.parts.length=x.parts.length/\x.parts.length<=100000),none,.tup [],[(900,.box (.agg [.int .i64 x.kind,.str x.pkg,.str x.name,.int .i64 x.n,.nils,.nils,.nils,.lst (.st .term) ((x.parts++[(a7 n s).1])) (some 902),.int .i64 x.pos])),(901,.box (.ptr 903 0)),(902,.tail (.st .term) (x.parts++[(a7 n s).1]).length),(903,.box (.st .par (a7 n s).2))]⟩):=
 g1 nn (fun _=>[]) (fun d=>Nat.beq d 8) nn nn (sc (hT) sn) a0 func118 (Bl n x s hi hn zn zv zs hl)
theorem yO(n:Nat)(hT:ah prog 34 (GZ n)):ah prog 118 (GY n):=
 zW BS (fun _ _ _=>rfl) (fun _ _ _=>by simp[aq]) fun x s mp zn zv zs ho=>by obtain⟨q1,q2,ep,ql⟩:=ho _ rfl;subst ep;exact ue n x s q1 q2 zn zv zs ql hT
theorem qP:ah prog 57 (D7 fun x a s mn ms=>⟨some (a8 s/\mn=x.names.length/\ms=x.shapes.length/\mn+ms<=100000),none,.tup [],[(900,.box (.ptr 902 0)),(901,.box (.agg [.int .i64 x.kind,.str x.pkg,.str x.name,.int .i64 x.n,.lst .str (x.names) (some 903),.nils,.lst (.st .shape) ((x.shapes++[(bg (ak a s)).1])) (some 904),.nils,.int .i64 x.pos])),(902,.box (.st .par (bg (ak a s)).2)),(903,.tail .str x.names.length),(904,.tail (.st .shape) (x.shapes++[(bg (ak a s)).1]).length)]⟩):=
 D8 (ee func57) (fun _ _ _ _ _=>rfl) (fun _ _ _ _ _=>by simp[aq]) fun x a s mn ms zv zp ho=>by obtain⟨q1,en,es,ql⟩:=ho _ rfl;subst en;subst es;exact g1 nn (fun _=>[]) (fun d=>Nat.beq d 15) nn nn (sc cZ (sc jA sn)) a0 func57 (Bm x a s q1 zv zp ql)
theorem BT:ah prog 57 (Gq fun x a s mp=>⟨some (a8 s/\mp=x.parts.length/\mp<=100000),none,.tup [],[(900,.box (.ptr 902 0)),(901,.box (.agg [.int .i64 x.kind,.str x.pkg,.str x.name,.int .i64 x.n,.nils,.nils,.lst (.st .shape) ((x.shapes++[(bg (ak a s)).1])) (some 15),.lst (.st .term) (x.parts) (some 903),.int .i64 x.pos])),(902,.box (.st .par (bg (ak a s)).2)),(903,.tail (.st .term) x.parts.length),(15,.tail (.st .shape) (x.shapes++[(bg (ak a s)).1]).length)]⟩):=
 F4 (ee func57) (fun _ _ _ _=>rfl) (fun _ _ _ _=>by simp[aq]) fun x a s mp zn zv zs ho=>by obtain⟨q1,ep,ql⟩:=ho _ rfl;subst ep;exact g1 nn (fun _=>[]) (fun d=>Nat.beq d 15) nn nn (sc cZ (sc jA sn)) a0 func57 (DN x a s q1 zn zv zs ql)
theorem ni:ah prog 57 (tX fun x a s mn mv ms mp=>⟨some (a8 s/\mn=x.names.length/\mv=x.vars.length/\ms=x.shapes.length/\mp=x.parts.length/\mn+mv+ms+mp<=100000),none,.tup [],[(900,.box (.ptr 902 0)),(901,.box (.agg [.int .i64 x.kind,.str x.pkg,.str x.name,.int .i64 x.n,.lst .str (x.names) (some 903),.lst .str (x.vars) (some 904),.lst (.st .shape) ((x.shapes++[(bg (ak a s)).1])) (some 905),.lst (.st .term) (x.parts) (some 906),.int .i64 x.pos])),(902,.box (.st .par (bg (ak a s)).2)),(903,.tail .str x.names.length),(904,.tail .str x.vars.length),(905,.tail (.st .shape) (x.shapes++[(bg (ak a s)).1]).length),(906,.tail (.st .term) x.parts.length)]⟩):=
 yk (ee func57) (fun _ _ _ _ _ _ _=>rfl) (fun _ _ _ _ _ _ _=>by simp[aq]) fun x a s mn mv ms mp _ ho=>by obtain⟨q1,en,ev,es,ep,ql⟩:=ho _ rfl;subst en;subst ev;subst es;subst ep;exact g1 nn (fun _=>[]) (fun d=>Nat.beq d 15) nn nn (sc cZ (sc jA sn)) a0 func57 (w5 x a s q1 ql)
theorem Ea:az prog 165:=ee func165
theorem wx(n:Nat)(x:Trm)(s:Par)(hi:a8 s)(h0:s.err=0)(hn:rem s<=n)(zv:x.vars=[])(zs:x.shapes=[])(hl:x.names.length+x.parts.length<=100000)(hT:ah prog 34 (GZ n)):ay prog 165 [.ptr 900 0,.ptr 901 0] (G8 x (.st .par s) x.names.length x.parts.length) (⟨some (a8 s/\s.err=0/\rem s<=n/\x.names.length=x.names.length/\x.parts.length=x.parts.length/\x.names.length+x.parts.length<=100000),none,.tup [],[(900,.box (.agg [.int .i64 ((aj (a7 n) x s).1).kind,.str ((aj (a7 n) x s).1).pkg,.str ((aj (a7 n) x s).1).name,.int .i64 ((aj (a7 n) x s).1).n,.lst .str ((aj (a7 n) x s).1).names (some 902),.nils,.nils,.lst (.st .term) ((aj (a7 n) x s).1).parts (some 903),.int .i64 ((aj (a7 n) x s).1).pos])),(901,.box (.ptr 904 0)),(902,.tail .str (aj (a7 n) x s).1.names.length),(903,.tail (.st .term) (aj (a7 n) x s).1.parts.length),(904,.box (.st .par (aj (a7 n) x s).2))]⟩):=
 g1 nn (fun _=>[]) (fun d=>Nat.beq d 23) nn nn (sc lC (sc cZ (sc (hT) sn))) a0 func165 (DO n x s hi h0 hn zv zs hl)
def H3(n:Nat):=vE fun x s mn mp=>⟨some (a8 s/\s.err=0/\rem s<=n/\mn=x.names.length/\mp=x.parts.length/\mn+mp<=100000),none,.tup [],[(900,.box (.agg [.int .i64 ((aj (a7 n) x s).1).kind,.str ((aj (a7 n) x s).1).pkg,.str ((aj (a7 n) x s).1).name,.int .i64 ((aj (a7 n) x s).1).n,.lst .str ((aj (a7 n) x s).1).names (some 902),.nils,.nils,.lst (.st .term) ((aj (a7 n) x s).1).parts (some 903),.int .i64 ((aj (a7 n) x s).1).pos])),(901,.box (.ptr 904 0)),(902,.tail .str (aj (a7 n) x s).1.names.length),(903,.tail (.st .term) (aj (a7 n) x s).1.parts.length),(904,.box (.st .par (aj (a7 n) x s).2))]⟩
theorem BU(n:Nat)(hT:ah prog 34 (GZ n)):ah prog 165 (H3 n):=
 D6 Ea (fun _ _ _ _=>rfl) (fun _ _ _ _=>by simp[aq]) fun x s mn mp zv zs ho=>by obtain⟨q1,q2,q3,en,ep,ql⟩:=ho _ rfl;subst en;subst ep;exact wx n x s q1 q2 q3 zv zs ql hT
theorem FC:ah prog 61 (Gr 57 fun x s mn ms=>⟨some (a8 s/\mn=x.names.length/\ms=x.shapes.length/\mn+ms<=90000),none,.tup [],[(900,.box (.agg [.int .i64 ((aB x s).1).kind,.str ((aB x s).1).pkg,.str ((aB x s).1).name,.int .i64 ((aB x s).1).n,.lst .str ((aB x s).1).names (some 903),.nils,.lst (.st .shape) ((aB x s).1).shapes (some 904),.nils,.int .i64 ((aB x s).1).pos])),(901,.box (.ptr 905 0)),(902,.box (.fn 57 [.ptr 901 0,.ptr 900 0])),(903,.tail .str (aB x s).1.names.length),(904,.tail (.st .shape) (aB x s).1.shapes.length),(905,.box (.st .par (aB x s).2))]⟩):=
 F6 (ee func61) (fun _ _ _ _=>rfl) (fun _ _ _ _=>by simp[aq]) fun x s mn ms zv zp ho=>by obtain⟨q1,en,es,ql⟩:=ho _ rfl;subst en;subst es;exact g0 (sc lC (sc qP sn)) a0 func61 (GD x s q1 zv zp ql)
theorem GI:az prog 64:=ee func64
theorem BV(n:Nat)(x:Trm)(s:Par)(hi:a8 s)(h0:s.err=0)(hn:rem s<=n)(hl:x.names.length+x.vars.length+x.shapes.length+x.parts.length<=90000)(hP:ah prog 56 (H0 n)):ay prog 64 [.ptr 900 0,.ptr 901 0,.ptr 902 0,.ptr 903 0] (sWay 57 56 x (.st .par s) x.names.length x.vars.length x.shapes.length x.parts.length) (⟨some (a8 s/\s.err=0/\rem s<=n/\x.names.length=x.names.length/\x.vars.length=x.vars.length/\x.shapes.length=x.shapes.length/\x.parts.length=x.parts.length/\x.names.length+x.vars.length+x.shapes.length+x.parts.length<=90000),none,.tup [],[(900,.box (.agg [.int .i64 ((an (a7 n) x s).1).kind,.str ((an (a7 n) x s).1).pkg,.str ((an (a7 n) x s).1).name,.int .i64 ((an (a7 n) x s).1).n,.lst .str ((an (a7 n) x s).1).names (some 904),.lst .str ((an (a7 n) x s).1).vars (some 905),.lst (.st .shape) ((an (a7 n) x s).1).shapes (some 906),.lst (.st .term) ((an (a7 n) x s).1).parts (some 907),.int .i64 ((an (a7 n) x s).1).pos])),(901,.box (.ptr 908 0)),(902,.box (.fn 57 [.ptr 901 0,.ptr 900 0])),(903,.box (.fn 56 [.ptr 900 0,.ptr 901 0])),(904,.tail .str (an (a7 n) x s).1.names.length),(905,.tail .str (an (a7 n) x s).1.vars.length),(906,.tail (.st .shape) (an (a7 n) x s).1.shapes.length),(907,.tail (.st .term) (an (a7 n) x s).1.parts.length),(908,.box (.st .par (an (a7 n) x s).2))]⟩):=
 g0 (sc lC (sc cZ (sc jz (sc ni (sc (hP) sn))))) a0 func64 (GF n x s hi h0 hn hl)
theorem FD(n:Nat)(hP:ah prog 56 (H0 n)):ah prog 64 (D9 57 56 fun x s mn mv ms mp=>⟨some (a8 s/\s.err=0/\rem s<=n/\mn=x.names.length/\mv=x.vars.length/\ms=x.shapes.length/\mp=x.parts.length/\mn+mv+ms+mp<=90000),none,.tup [],[(900,.box (.agg [.int .i64 ((an (a7 n) x s).1).kind,.str ((an (a7 n) x s).1).pkg,.str ((an (a7 n) x s).1).name,.int .i64 ((an (a7 n) x s).1).n,.lst .str ((an (a7 n) x s).1).names (some 904),.lst .str ((an (a7 n) x s).1).vars (some 905),.lst (.st .shape) ((an (a7 n) x s).1).shapes (some 906),.lst (.st .term) ((an (a7 n) x s).1).parts (some 907),.int .i64 ((an (a7 n) x s).1).pos])),(901,.box (.ptr 908 0)),(902,.box (.fn 57 [.ptr 901 0,.ptr 900 0])),(903,.box (.fn 56 [.ptr 900 0,.ptr 901 0])),(904,.tail .str (an (a7 n) x s).1.names.length),(905,.tail .str (an (a7 n) x s).1.vars.length),(906,.tail (.st .shape) (an (a7 n) x s).1.shapes.length),(907,.tail (.st .term) (an (a7 n) x s).1.parts.length),(908,.box (.st .par (an (a7 n) x s).2))]⟩):=
 F7 GI (fun _ _ _ _ _ _=>rfl) (fun _ _ _ _ _ _=>by simp[aq]) fun x s mn mv ms mp _ ho=>by obtain⟨q1,q2,q3,en,ev,es,ep,ql⟩:=ho _ rfl;subst en;subst ev;subst es;subst ep;exact BV n x s q1 q2 q3 ql hP
theorem Eb:az prog 166:=ee func166
theorem wy(n:Nat)(s:Par) (ho:a8 s/\rem (ak [40] s)<n)(hT:ah prog 34 (GZ n)):ay prog 166 [.ptr 900 0] [(900,.box (.st .par s))] (⟨some (a8 s/\rem (ak [40] s)<n),none,.lst (.st .term) (bP (a7 n) s).1 none,[(900,.box (.st .par ((bP (a7 n) s).2)))]⟩):=
 g0 (sc cZ (sc (hT) sn)) a0 func166 (DP n s ho)
theorem BW(n:Nat)(hT:ah prog 34 (GZ n)):ah prog 166 (pP0 fun s=>⟨some (a8 s/\rem (ak [40] s)<n),none,.lst (.st .term) (bP (a7 n) s).1 none,[(900,.box (.st .par ((bP (a7 n) s).2)))]⟩):=
 iz Eb (fun _=>rfl) (fun _=>by simp[aq]) fun s ho=>wy n s (ho _ rfl) hT
theorem FE:az prog 60:=ee func60
theorem yP(n:Nat)(k pp z:Int)(g q:Str)(b e:Str)(s:Par)(hi:a8 s)(hn:rem s<=n) :ay prog 60 [.ptr 900 0,.str b,.str e,.fn 61 [.ptr 901 0,.ptr 902 0,.ptr 903 0]] (G9 61 57 (⟨k,g,q,z,[],[],[],[],pp⟩:Trm) (.st .par s)) (⟨some (a8 s/\rem s<=n),none,.tup [],[(900,.box (.st .par (ab b e (aB) ⟨k,g,q,z,[],[],[],[],pp⟩ s).2)),(901,.box (.agg [.int .i64 ((ab b e (aB) ⟨k,g,q,z,[],[],[],[],pp⟩ s).1).kind,.str ((ab b e (aB) ⟨k,g,q,z,[],[],[],[],pp⟩ s).1).pkg,.str ((ab b e (aB) ⟨k,g,q,z,[],[],[],[],pp⟩ s).1).name,.int .i64 ((ab b e (aB) ⟨k,g,q,z,[],[],[],[],pp⟩ s).1).n,.lst .str ((ab b e (aB) ⟨k,g,q,z,[],[],[],[],pp⟩ s).1).names (some 701),.nils,.lst (.st .shape) ((ab b e (aB) ⟨k,g,q,z,[],[],[],[],pp⟩ s).1).shapes (some 702),.nils,.int .i64 ((ab b e (aB) ⟨k,g,q,z,[],[],[],[],pp⟩ s).1).pos])),(902,.box (.ptr 900 0)),(903,.box (.fn 57 [.ptr 902 0,.ptr 901 0])),(701,.tail .str (ab b e (aB) ⟨k,g,q,z,[],[],[],[],pp⟩ s).1.names.length),(702,.tail (.st .shape) (ab b e (aB) ⟨k,g,q,z,[],[],[],[],pp⟩ s).1.shapes.length)]⟩):=
 g0 (sc eU (sc dz (sc cZ (sc (FC) sn)))) ⟨[(1,fun S0=>⟨Nat×Trm×Par,fun y=>a8 y.2.2/\rem y.2.2<y.1/\rem y.2.2<=n/\y.2.1.names.length+y.1<=5000/\y.2.1.shapes.length+y.1<=5000/\y.2.1.vars=[]/\y.2.1.parts=[]/\aX b e (aB) y.1 y.2.1 y.2.2=(ab b e (aB) ⟨k,g,q,z,[],[],[],[],pp⟩ s),fun _=>[],fun y=>[(900,.box (.st .par y.2.2)),(901,.box (.agg [.int .i64 (y.2.1).kind,.str (y.2.1).pkg,.str (y.2.1).name,.int .i64 (y.2.1).n,.lst .str (y.2.1).names (some 701),.nils,.lst (.st .shape) (y.2.1).shapes (some 702),.nils,.int .i64 (y.2.1).pos])),(701,.tail .str y.2.1.names.length),(702,.tail (.st .shape) y.2.1.shapes.length)],fun y=>y.1⟩)],[],[]⟩ func60 (Fq n k pp z g q b e s hi hn)
theorem Ec(n:Nat) :ah prog 60 (zZ 61 57 fun x b e s=>⟨some (a8 s/\rem s<=n),none,.tup [],[(900,.box (.st .par (ab b e (aB) x s).2)),(901,.box (.agg [.int .i64 ((ab b e (aB) x s).1).kind,.str ((ab b e (aB) x s).1).pkg,.str ((ab b e (aB) x s).1).name,.int .i64 ((ab b e (aB) x s).1).n,.lst .str ((ab b e (aB) x s).1).names (some 701),.nils,.lst (.st .shape) ((ab b e (aB) x s).1).shapes (some 702),.nils,.int .i64 ((ab b e (aB) x s).1).pos])),(902,.box (.ptr 900 0)),(903,.box (.fn 57 [.ptr 902 0,.ptr 901 0])),(701,.tail .str (ab b e (aB) x s).1.names.length),(702,.tail (.st .shape) (ab b e (aB) x s).1.shapes.length)]⟩):=
 Da FE (fun _ _ _ _=>rfl) (fun _ _ _ _=>by simp[aq]) fun x b e s zn zv zs zp ho=>by obtain⟨k,g,q,z,ns,vs,ss,us,pp⟩:=x;simp only at zn zv zs zp;obtain⟨q1,q2⟩:=ho _ rfl;subst zn zv zs zp;exact yP n k pp z g q b e s q1 q2
theorem FF:az prog 60:=ee func60
theorem yQ(n:Nat)(k pp z:Int)(g q:Str)(us:List Trm)(b e:Str)(s:Par)(hi:a8 s)(hn:rem s<=n)(hu:us.length<=1)(hC:ah prog 64 (D9 57 56 fun x s mn mv ms mp=>⟨some (a8 s/\s.err=0/\rem s<=n/\mn=x.names.length/\mv=x.vars.length/\ms=x.shapes.length/\mp=x.parts.length/\mn+mv+ms+mp<=90000),none,.tup [],[(900,.box (.agg [.int .i64 ((an (a7 n) x s).1).kind,.str ((an (a7 n) x s).1).pkg,.str ((an (a7 n) x s).1).name,.int .i64 ((an (a7 n) x s).1).n,.lst .str ((an (a7 n) x s).1).names (some 904),.lst .str ((an (a7 n) x s).1).vars (some 905),.lst (.st .shape) ((an (a7 n) x s).1).shapes (some 906),.lst (.st .term) ((an (a7 n) x s).1).parts (some 907),.int .i64 ((an (a7 n) x s).1).pos])),(901,.box (.ptr 908 0)),(902,.box (.fn 57 [.ptr 901 0,.ptr 900 0])),(903,.box (.fn 56 [.ptr 900 0,.ptr 901 0])),(904,.tail .str (an (a7 n) x s).1.names.length),(905,.tail .str (an (a7 n) x s).1.vars.length),(906,.tail (.st .shape) (an (a7 n) x s).1.shapes.length),(907,.tail (.st .term) (an (a7 n) x s).1.parts.length),(908,.box (.st .par (an (a7 n) x s).2))]⟩)):ay prog 60 [.ptr 900 0,.str b,.str e,.fn 64 [.ptr 901 0,.ptr 902 0,.ptr 903 0,.ptr 904 0]] (Ga 64 57 56 (⟨k,g,q,z,[],[],[],us,pp⟩:Trm) (.st .par s) us.length) (⟨some (a8 s/\rem s<=n/\us.length=us.length/\us.length<=1),none,.tup [],[(900,.box (.st .par (ab b e (an (a7 n)) ⟨k,g,q,z,[],[],[],us,pp⟩ s).2)),(901,.box (.agg [.int .i64 ((ab b e (an (a7 n)) ⟨k,g,q,z,[],[],[],us,pp⟩ s).1).kind,.str ((ab b e (an (a7 n)) ⟨k,g,q,z,[],[],[],us,pp⟩ s).1).pkg,.str ((ab b e (an (a7 n)) ⟨k,g,q,z,[],[],[],us,pp⟩ s).1).name,.int .i64 ((ab b e (an (a7 n)) ⟨k,g,q,z,[],[],[],us,pp⟩ s).1).n,.lst .str ((ab b e (an (a7 n)) ⟨k,g,q,z,[],[],[],us,pp⟩ s).1).names (some 701),.lst .str ((ab b e (an (a7 n)) ⟨k,g,q,z,[],[],[],us,pp⟩ s).1).vars (some 702),.lst (.st .shape) ((ab b e (an (a7 n)) ⟨k,g,q,z,[],[],[],us,pp⟩ s).1).shapes (some 703),.lst (.st .term) ((ab b e (an (a7 n)) ⟨k,g,q,z,[],[],[],us,pp⟩ s).1).parts (some 905),.int .i64 ((ab b e (an (a7 n)) ⟨k,g,q,z,[],[],[],us,pp⟩ s).1).pos])),(902,.box (.ptr 900 0)),(903,.box (.fn 57 [.ptr 902 0,.ptr 901 0])),(904,.box (.fn 56 [.ptr 901 0,.ptr 902 0])),(701,.tail .str (ab b e (an (a7 n)) ⟨k,g,q,z,[],[],[],us,pp⟩ s).1.names.length),(702,.tail .str (ab b e (an (a7 n)) ⟨k,g,q,z,[],[],[],us,pp⟩ s).1.vars.length),(703,.tail (.st .shape) (ab b e (an (a7 n)) ⟨k,g,q,z,[],[],[],us,pp⟩ s).1.shapes.length),(905,.tail (.st .term) (ab b e (an (a7 n)) ⟨k,g,q,z,[],[],[],us,pp⟩ s).1.parts.length)]⟩):=
 g0 (sc eU (sc dz (sc cZ (sc (hC) sn)))) ⟨[(1,fun S0=>⟨Nat×Trm×Par,fun y=>a8 y.2.2/\rem y.2.2<y.1/\rem y.2.2<=n/\y.2.1.names.length+y.1<=5000/\y.2.1.vars.length+y.1<=5000/\y.2.1.shapes.length+y.1<=5000/\y.2.1.parts.length+y.1<=5000/\aX b e (an (a7 n)) y.1 y.2.1 y.2.2=(ab b e (an (a7 n)) ⟨k,g,q,z,[],[],[],us,pp⟩ s),fun _=>[],fun y=>[(900,.box (.st .par y.2.2)),(901,.box (.agg [.int .i64 (y.2.1).kind,.str (y.2.1).pkg,.str (y.2.1).name,.int .i64 (y.2.1).n,.lst .str (y.2.1).names (some 701),.lst .str (y.2.1).vars (some 702),.lst (.st .shape) (y.2.1).shapes (some 703),.lst (.st .term) (y.2.1).parts (some 905),.int .i64 (y.2.1).pos])),(701,.tail .str y.2.1.names.length),(702,.tail .str y.2.1.vars.length),(703,.tail (.st .shape) y.2.1.shapes.length),(905,.tail (.st .term) y.2.1.parts.length)],fun y=>y.1⟩)],[],[]⟩ func60 (Fs n k pp z g q us b e s hi hn hu)
theorem Ed(n:Nat)(hC:ah prog 64 (D9 57 56 fun x s mn mv ms mp=>⟨some (a8 s/\s.err=0/\rem s<=n/\mn=x.names.length/\mv=x.vars.length/\ms=x.shapes.length/\mp=x.parts.length/\mn+mv+ms+mp<=90000),none,.tup [],[(900,.box (.agg [.int .i64 ((an (a7 n) x s).1).kind,.str ((an (a7 n) x s).1).pkg,.str ((an (a7 n) x s).1).name,.int .i64 ((an (a7 n) x s).1).n,.lst .str ((an (a7 n) x s).1).names (some 904),.lst .str ((an (a7 n) x s).1).vars (some 905),.lst (.st .shape) ((an (a7 n) x s).1).shapes (some 906),.lst (.st .term) ((an (a7 n) x s).1).parts (some 907),.int .i64 ((an (a7 n) x s).1).pos])),(901,.box (.ptr 908 0)),(902,.box (.fn 57 [.ptr 901 0,.ptr 900 0])),(903,.box (.fn 56 [.ptr 900 0,.ptr 901 0])),(904,.tail .str (an (a7 n) x s).1.names.length),(905,.tail .str (an (a7 n) x s).1.vars.length),(906,.tail (.st .shape) (an (a7 n) x s).1.shapes.length),(907,.tail (.st .term) (an (a7 n) x s).1.parts.length),(908,.box (.st .par (an (a7 n) x s).2))]⟩)):ah prog 60 (Aa 64 57 56 fun x b e s mp=>⟨some (a8 s/\rem s<=n/\mp=x.parts.length/\mp<=1),none,.tup [],[(900,.box (.st .par (ab b e (an (a7 n)) x s).2)),(901,.box (.agg [.int .i64 ((ab b e (an (a7 n)) x s).1).kind,.str ((ab b e (an (a7 n)) x s).1).pkg,.str ((ab b e (an (a7 n)) x s).1).name,.int .i64 ((ab b e (an (a7 n)) x s).1).n,.lst .str ((ab b e (an (a7 n)) x s).1).names (some 701),.lst .str ((ab b e (an (a7 n)) x s).1).vars (some 702),.lst (.st .shape) ((ab b e (an (a7 n)) x s).1).shapes (some 703),.lst (.st .term) ((ab b e (an (a7 n)) x s).1).parts (some 905),.int .i64 ((ab b e (an (a7 n)) x s).1).pos])),(902,.box (.ptr 900 0)),(903,.box (.fn 57 [.ptr 902 0,.ptr 901 0])),(904,.box (.fn 56 [.ptr 901 0,.ptr 902 0])),(701,.tail .str (ab b e (an (a7 n)) x s).1.names.length),(702,.tail .str (ab b e (an (a7 n)) x s).1.vars.length),(703,.tail (.st .shape) (ab b e (an (a7 n)) x s).1.shapes.length),(905,.tail (.st .term) (ab b e (an (a7 n)) x s).1.parts.length)]⟩):=
 Db FF (fun _ _ _ _ _=>rfl) (fun _ _ _ _ _=>by simp[aq]) fun x b e s mp zn zv zs ho=>by obtain⟨k,g,q,z,ns,vs,ss,us,pp⟩:=x;simp only at zn zv zs;obtain⟨q1,q2,e1,ql⟩:=ho _ rfl;subst zn zv zs e1;exact yQ n k pp z g q us b e s q1 q2 ql hC
theorem Ee:az prog 60:=ee func60
theorem wz(n:Nat)(k pp z:Int)(g q:Str)(b e:Str)(s:Par)(hi:a8 s)(hn:rem s<n)(hC:ah prog 56 (GY n)):ay prog 60 [.ptr 900 0,.str b,.str e,.fn 56 [.ptr 901 0,.ptr 902 0]] (Dc 56 (⟨k,g,q,z,[],[],[],[],pp⟩:Trm) (.st .par s)) (⟨some (a8 s/\rem s<n),none,.tup [],[(900,.box (.st .par (ab b e (ax (a7 n)) ⟨k,g,q,z,[],[],[],[],pp⟩ s).2)),(901,.box (.agg [.int .i64 ((ab b e (ax (a7 n)) ⟨k,g,q,z,[],[],[],[],pp⟩ s).1).kind,.str ((ab b e (ax (a7 n)) ⟨k,g,q,z,[],[],[],[],pp⟩ s).1).pkg,.str ((ab b e (ax (a7 n)) ⟨k,g,q,z,[],[],[],[],pp⟩ s).1).name,.int .i64 ((ab b e (ax (a7 n)) ⟨k,g,q,z,[],[],[],[],pp⟩ s).1).n,.nils,.nils,.nils,.lst (.st .term) ((ab b e (ax (a7 n)) ⟨k,g,q,z,[],[],[],[],pp⟩ s).1).parts (some 701),.int .i64 ((ab b e (ax (a7 n)) ⟨k,g,q,z,[],[],[],[],pp⟩ s).1).pos])),(902,.box (.ptr 900 0)),(701,.tail (.st .term) (ab b e (ax (a7 n)) ⟨k,g,q,z,[],[],[],[],pp⟩ s).1.parts.length)]⟩):=
 g0 (sc eU (sc dz (sc cZ (sc (hC) sn)))) ⟨[(1,fun S0=>⟨Nat×Trm×Par,fun y=>a8 y.2.2/\rem y.2.2<y.1/\rem y.2.2<n/\y.2.1.parts.length+y.1<=5000/\y.2.1.names=[]/\y.2.1.vars=[]/\y.2.1.shapes=[]/\aX b e (ax (a7 n)) y.1 y.2.1 y.2.2=(ab b e (ax (a7 n)) ⟨k,g,q,z,[],[],[],[],pp⟩ s),fun _=>[],fun y=>[(900,.box (.st .par y.2.2)),(901,.box (.agg [.int .i64 (y.2.1).kind,.str (y.2.1).pkg,.str (y.2.1).name,.int .i64 (y.2.1).n,.nils,.nils,.nils,.lst (.st .term) (y.2.1).parts (some 701),.int .i64 (y.2.1).pos])),(701,.tail (.st .term) y.2.1.parts.length)],fun y=>y.1⟩)],[],[]⟩ func60 (DQ n k pp z g q b e s hi hn)
def Hb(n:Nat):=qn 56 fun x b e s=>⟨some (a8 s/\rem s<n),none,.tup [],[(900,.box (.st .par (ab b e (ax (a7 n)) x s).2)),(901,.box (.agg [.int .i64 ((ab b e (ax (a7 n)) x s).1).kind,.str ((ab b e (ax (a7 n)) x s).1).pkg,.str ((ab b e (ax (a7 n)) x s).1).name,.int .i64 ((ab b e (ax (a7 n)) x s).1).n,.nils,.nils,.nils,.lst (.st .term) ((ab b e (ax (a7 n)) x s).1).parts (some 701),.int .i64 ((ab b e (ax (a7 n)) x s).1).pos])),(902,.box (.ptr 900 0)),(701,.tail (.st .term) (ab b e (ax (a7 n)) x s).1.parts.length)]⟩
theorem BX(n:Nat)(hC:ah prog 56 (GY n)):ah prog 60 (Hb n):=
 vF Ee (fun _ _ _ _=>rfl) (fun _ _ _ _=>by simp[aq]) fun x b e s zn zv zs zp ho=>by obtain⟨k,g,q,z,ns,vs,ss,us,pp⟩:=x;simp only at zn zv zs zp;obtain⟨q1,q2⟩:=ho _ rfl;subst zn zv zs zp;exact wz n k pp z g q b e s q1 q2 hC
theorem BY:az prog 60:=ee func60
theorem uf(n:Nat)(k pp z:Int)(g q:Str)(b e:Str)(s:Par)(hi:a8 s)(hn:rem s<=n)(hC:ah prog 165 (H3 n)):ay prog 60 [.ptr 900 0,.str b,.str e,.fn 165 [.ptr 901 0,.ptr 902 0]] (Dc 165 (⟨k,g,q,z,[],[],[],[],pp⟩:Trm) (.st .par s)) (⟨some (a8 s/\rem s<=n),none,.tup [],[(900,.box (.st .par (ab b e (aj (a7 n)) ⟨k,g,q,z,[],[],[],[],pp⟩ s).2)),(901,.box (.agg [.int .i64 ((ab b e (aj (a7 n)) ⟨k,g,q,z,[],[],[],[],pp⟩ s).1).kind,.str ((ab b e (aj (a7 n)) ⟨k,g,q,z,[],[],[],[],pp⟩ s).1).pkg,.str ((ab b e (aj (a7 n)) ⟨k,g,q,z,[],[],[],[],pp⟩ s).1).name,.int .i64 ((ab b e (aj (a7 n)) ⟨k,g,q,z,[],[],[],[],pp⟩ s).1).n,.lst .str ((ab b e (aj (a7 n)) ⟨k,g,q,z,[],[],[],[],pp⟩ s).1).names (some 701),.nils,.nils,.lst (.st .term) ((ab b e (aj (a7 n)) ⟨k,g,q,z,[],[],[],[],pp⟩ s).1).parts (some 702),.int .i64 ((ab b e (aj (a7 n)) ⟨k,g,q,z,[],[],[],[],pp⟩ s).1).pos])),(902,.box (.ptr 900 0)),(701,.tail .str (ab b e (aj (a7 n)) ⟨k,g,q,z,[],[],[],[],pp⟩ s).1.names.length),(702,.tail (.st .term) (ab b e (aj (a7 n)) ⟨k,g,q,z,[],[],[],[],pp⟩ s).1.parts.length)]⟩):=
 g0 (sc eU (sc dz (sc cZ (sc (hC) sn)))) ⟨[(1,fun S0=>⟨Nat×Trm×Par,fun y=>a8 y.2.2/\rem y.2.2<y.1/\rem y.2.2<=n/\y.2.1.names.length+y.1<=5000/\y.2.1.parts.length+y.1<=5000/\y.2.1.vars=[]/\y.2.1.shapes=[]/\aX b e (aj (a7 n)) y.1 y.2.1 y.2.2=(ab b e (aj (a7 n)) ⟨k,g,q,z,[],[],[],[],pp⟩ s),fun _=>[],fun y=>[(900,.box (.st .par y.2.2)),(901,.box (.agg [.int .i64 (y.2.1).kind,.str (y.2.1).pkg,.str (y.2.1).name,.int .i64 (y.2.1).n,.lst .str (y.2.1).names (some 701),.nils,.nils,.lst (.st .term) (y.2.1).parts (some 702),.int .i64 (y.2.1).pos])),(701,.tail .str y.2.1.names.length),(702,.tail (.st .term) y.2.1.parts.length)],fun y=>y.1⟩)],[],[]⟩ func60 (Bn n k pp z g q b e s hi hn)
def H2(n:Nat):=qn 165 fun x b e s=>⟨some (a8 s/\rem s<=n),none,.tup [],[(900,.box (.st .par (ab b e (aj (a7 n)) x s).2)),(901,.box (.agg [.int .i64 ((ab b e (aj (a7 n)) x s).1).kind,.str ((ab b e (aj (a7 n)) x s).1).pkg,.str ((ab b e (aj (a7 n)) x s).1).name,.int .i64 ((ab b e (aj (a7 n)) x s).1).n,.lst .str ((ab b e (aj (a7 n)) x s).1).names (some 701),.nils,.nils,.lst (.st .term) ((ab b e (aj (a7 n)) x s).1).parts (some 702),.int .i64 ((ab b e (aj (a7 n)) x s).1).pos])),(902,.box (.ptr 900 0)),(701,.tail .str (ab b e (aj (a7 n)) x s).1.names.length),(702,.tail (.st .term) (ab b e (aj (a7 n)) x s).1.parts.length)]⟩
theorem yR(n:Nat)(hC:ah prog 165 (H3 n)):ah prog 60 (H2 n):=
 vF BY (fun _ _ _ _=>rfl) (fun _ _ _ _=>by simp[aq]) fun x b e s zn zv zs zp ho=>by obtain⟨k,g,q,z,ns,vs,ss,us,pp⟩:=x;simp only at zn zv zs zp;obtain⟨q1,q2⟩:=ho _ rfl;subst zn zv zs zp;exact uf n k pp z g q b e s q1 q2 hC
theorem Ef:az prog 60:=ee func60
theorem wA(n:Nat)(k pp z:Int)(g q:Str)(us:List Trm)(b e:Str)(s:Par)(hi:a8 s)(hn:rem s<n)(hu:us.length<=1)(hC:ah prog 118 (GY n)):ay prog 60 [.ptr 900 0,.str b,.str e,.fn 118 [.ptr 901 0,.ptr 902 0]] (Dd 118 (⟨k,g,q,z,[],[],[],us,pp⟩:Trm) (.st .par s) us.length) (⟨some (a8 s/\rem s<n/\us.length=us.length/\us.length<=1),none,.tup [],[(900,.box (.st .par (ab b e (ax (a7 n)) ⟨k,g,q,z,[],[],[],us,pp⟩ s).2)),(901,.box (.agg [.int .i64 ((ab b e (ax (a7 n)) ⟨k,g,q,z,[],[],[],us,pp⟩ s).1).kind,.str ((ab b e (ax (a7 n)) ⟨k,g,q,z,[],[],[],us,pp⟩ s).1).pkg,.str ((ab b e (ax (a7 n)) ⟨k,g,q,z,[],[],[],us,pp⟩ s).1).name,.int .i64 ((ab b e (ax (a7 n)) ⟨k,g,q,z,[],[],[],us,pp⟩ s).1).n,.nils,.nils,.nils,.lst (.st .term) ((ab b e (ax (a7 n)) ⟨k,g,q,z,[],[],[],us,pp⟩ s).1).parts (some 903),.int .i64 ((ab b e (ax (a7 n)) ⟨k,g,q,z,[],[],[],us,pp⟩ s).1).pos])),(902,.box (.ptr 900 0)),(903,.tail (.st .term) (ab b e (ax (a7 n)) ⟨k,g,q,z,[],[],[],us,pp⟩ s).1.parts.length)]⟩):=
 g0 (sc eU (sc dz (sc cZ (sc (hC) sn)))) ⟨[(1,fun S0=>⟨Nat×Trm×Par,fun y=>a8 y.2.2/\rem y.2.2<y.1/\rem y.2.2<n/\y.2.1.parts.length+y.1<=5000/\y.2.1.names=[]/\y.2.1.vars=[]/\y.2.1.shapes=[]/\aX b e (ax (a7 n)) y.1 y.2.1 y.2.2=(ab b e (ax (a7 n)) ⟨k,g,q,z,[],[],[],us,pp⟩ s),fun _=>[],fun y=>[(900,.box (.st .par y.2.2)),(901,.box (.agg [.int .i64 (y.2.1).kind,.str (y.2.1).pkg,.str (y.2.1).name,.int .i64 (y.2.1).n,.nils,.nils,.nils,.lst (.st .term) (y.2.1).parts (some 903),.int .i64 (y.2.1).pos])),(903,.tail (.st .term) y.2.1.parts.length)],fun y=>y.1⟩)],[],[]⟩ func60 (DR n k pp z g q us b e s hi hn hu)
def H4(n:Nat):=qo 118 fun x b e s mp=>⟨some (a8 s/\rem s<n/\mp=x.parts.length/\mp<=1),none,.tup [],[(900,.box (.st .par (ab b e (ax (a7 n)) x s).2)),(901,.box (.agg [.int .i64 ((ab b e (ax (a7 n)) x s).1).kind,.str ((ab b e (ax (a7 n)) x s).1).pkg,.str ((ab b e (ax (a7 n)) x s).1).name,.int .i64 ((ab b e (ax (a7 n)) x s).1).n,.nils,.nils,.nils,.lst (.st .term) ((ab b e (ax (a7 n)) x s).1).parts (some 903),.int .i64 ((ab b e (ax (a7 n)) x s).1).pos])),(902,.box (.ptr 900 0)),(903,.tail (.st .term) (ab b e (ax (a7 n)) x s).1.parts.length)]⟩
theorem BZ(n:Nat)(hC:ah prog 118 (GY n)):ah prog 60 (H4 n):=
 AY Ef (fun _ _ _ _ _=>rfl) (fun _ _ _ _ _=>by simp[aq]) fun x b e s mp zn zv zs ho=>by obtain⟨k,g,q,z,ns,vs,ss,us,pp⟩:=x;simp only at zn zv zs;obtain⟨q1,q2,e1,ql⟩:=ho _ rfl;subst zn zv zs e1;exact wA n k pp z g q us b e s q1 q2 ql hC
theorem FH:az prog 65:=ee func65
def Hf(n:Nat):=pP0 fun s=>⟨some (a8 s/\rem s<n+1),none,.st .term (cr (a7 n) s).1,[(900,.box (.st .par (cr (a7 n) s).2))]⟩
theorem yS(n:Nat)(s:Par) (ho:a8 s/\rem s<n+1)(hA:ah prog 117 (Hf n))(hL:ah prog 60 (H4 n)):ay prog 65 [.ptr 900 0] [(900,.box (.st .par s))] (⟨some (a8 s/\rem s<n+1),none,.st .term (dT (a7 n) s).1,[(900,.box (.st .par ((dT (a7 n) s).2)))]⟩):=
 g0 (sc fG (sc (hA) (sc dz (sc eU (sc jz (sc (hL) sn)))))) ⟨[(3,fun S0=>⟨Nat×Trm×Par,fun y=>a8 y.2.2/\rem y.2.2<y.1/\rem y.2.2<n+1/\dJ (a7 n) (ai s).pos y.1 y.2.1 y.2.2=dT (a7 n) s,fun _=>[],fun y=>[(900,.box (.st .par y.2.2)),(4,.box (.st .term y.2.1))],fun y=>y.1⟩)],[],[]⟩ func65 (Ft n s ho)
theorem Eg(n:Nat)(hA:ah prog 117 (Hf n))(hL:ah prog 60 (H4 n)):ah prog 65 (pP0 fun s=>⟨some (a8 s/\rem s<n+1),none,.st .term (dT (a7 n) s).1,[(900,.box (.st .par ((dT (a7 n) s).2)))]⟩):=
 iz FH (fun _=>rfl) (fun _=>by simp[aq]) fun s ho=>yS n s (ho _ rfl) hA hL
theorem FI:az prog 117:=ee func117
def Hd(n:Nat):=pP0 fun s=>⟨some (a8 s/\rem (ak [40] s)<n),none,.lst (.st .term) (bP (a7 n) s).1 none,[(900,.box (.st .par (bP (a7 n) s).2))]⟩
theorem yT(n:Nat)(s:Par) (ho:a8 s/\rem s<n+1)(hT:ah prog 34 (GZ n))(hL:ah prog 60 (H2 n))(hI:ah prog 166 (Hd n)):ay prog 117 [.ptr 900 0] [(900,.box (.st .par s))] (⟨some (a8 s/\rem s<n+1),none,.st .term (cr (a7 n) s).1,[(900,.box (.st .par ((cr (a7 n) s).2)))]⟩):=
 g0 (sc fG (sc dz (sc (vU) (sc eU (sc jz (sc cZ (sc jA (sc gy (sc (hT) (sc (hL) (sc (hI) sn))))))))))) a0 func117 (Fu n s ho)
theorem Eh(n:Nat)(hT:ah prog 34 (GZ n))(hL:ah prog 60 (H2 n))(hI:ah prog 166 (Hd n)):ah prog 117 (pP0 fun s=>⟨some (a8 s/\rem s<n+1),none,.st .term (cr (a7 n) s).1,[(900,.box (.st .par ((cr (a7 n) s).2)))]⟩):=
 iz FI (fun _=>rfl) (fun _=>by simp[aq]) fun s ho=>yT n s (ho _ rfl) hT hL hI
theorem Ag:az prog 34:=ee func34
theorem yU(n:Nat)(s:Par) (ho:a8 s/\rem s<n+1)(hPo:ah prog 56 (Hc n))(hPp:ah prog 56 (GY n))(hPns:ah prog 56 (H9 n))(hF:ah prog 60 (zZ 61 57 fun x b e s=>⟨some (a8 s/\rem s<=n),none,.tup [],[(900,.box (.st .par (ab b e (aB) x s).2)),(901,.box (.agg [.int .i64 ((ab b e (aB) x s).1).kind,.str ((ab b e (aB) x s).1).pkg,.str ((ab b e (aB) x s).1).name,.int .i64 ((ab b e (aB) x s).1).n,.lst .str ((ab b e (aB) x s).1).names (some 701),.nils,.lst (.st .shape) ((ab b e (aB) x s).1).shapes (some 702),.nils,.int .i64 ((ab b e (aB) x s).1).pos])),(902,.box (.ptr 900 0)),(903,.box (.fn 57 [.ptr 902 0,.ptr 901 0])),(701,.tail .str (ab b e (aB) x s).1.names.length),(702,.tail (.st .shape) (ab b e (aB) x s).1.shapes.length)]⟩))(hW:ah prog 60 (Aa 64 57 56 fun x b e s mp=>⟨some (a8 s/\rem s<=n/\mp=x.parts.length/\mp<=1),none,.tup [],[(900,.box (.st .par (ab b e (an (a7 n)) x s).2)),(901,.box (.agg [.int .i64 ((ab b e (an (a7 n)) x s).1).kind,.str ((ab b e (an (a7 n)) x s).1).pkg,.str ((ab b e (an (a7 n)) x s).1).name,.int .i64 ((ab b e (an (a7 n)) x s).1).n,.lst .str ((ab b e (an (a7 n)) x s).1).names (some 701),.lst .str ((ab b e (an (a7 n)) x s).1).vars (some 702),.lst (.st .shape) ((ab b e (an (a7 n)) x s).1).shapes (some 703),.lst (.st .term) ((ab b e (an (a7 n)) x s).1).parts (some 905),.int .i64 ((ab b e (an (a7 n)) x s).1).pos])),(902,.box (.ptr 900 0)),(903,.box (.fn 57 [.ptr 902 0,.ptr 901 0])),(904,.box (.fn 56 [.ptr 901 0,.ptr 902 0])),(701,.tail .str (ab b e (an (a7 n)) x s).1.names.length),(702,.tail .str (ab b e (an (a7 n)) x s).1.vars.length),(703,.tail (.st .shape) (ab b e (an (a7 n)) x s).1.shapes.length),(905,.tail (.st .term) (ab b e (an (a7 n)) x s).1.parts.length)]⟩))(hE:ah prog 60 (Hb n))(hO:ah prog 65 (pP0 fun s=>⟨some (a8 s/\rem s<n+1),none,.st .term (dT (a7 n) s).1,[(900,.box (.st .par (dT (a7 n) s).2))]⟩)):ay prog 34 [.ptr 900 0] [(900,.box (.st .par s))] (⟨some (a8 s/\rem s<n+1),none,.st .term (a7 (n+1) s).1,[(900,.box (.st .par ((a7 (n+1) s).2)))]⟩):=
 g0 (sc fG (sc eU (sc cZ (sc jz (sc BT (sc ni (sc qP (sc (hPo) (sc (hPp) (sc (hPns) (sc (hF) (sc (hW) (sc (hE) (sc (hO) sn)))))))))))))) a0 func34 (Fv n s ho)
theorem wB:∀n:Nat,ah prog 34 (GZ n)
 |0=>iz Ag (fun _=>rfl) (fun _=>by simp[aq]) fun s ho=>absurd (ho _ rfl).2 (It _)
 |n+1=>by
  have hT:=wB n
  exact iz Ag (fun _=>rfl) (fun _=>by simp[aq]) fun s ho=>
   yU n s (ho _ rfl) (yM n hT) (qO n hT) (wv n hT) (Ec n) (Ed n (FD n (rS n hT))) (BX n (qO n hT))
    (Eg n (Eh n hT (yR n (BU n hT)) (BW n hT)) (BZ n (yO n hT)))
theorem sF:ah prog 28 (p2 (.lst (.st .token)) (.int .i64) fun l a=>⟨none,none,.ptr 10 0,[(10,.box (.st .par (b9 l a)))]⟩):=
 gu (ee func28) fun l a hl _ _=>g0 (sc gy sn) a0 func28 (DS l a hl)
theorem qQ:ah prog 42 (p2 (.lst (.st .token)) (.int .i64) fun l a=>⟨some (0<=a/\a<(l.length:Int)),none,.st .fault (cR l a),[]⟩):=
 gu (ee func42) fun l a hl _ ho=>g0 sn a0 func42 (Bp l a hl (ho _ rfl))
theorem Ei:ah prog 12 (p2 (.lst (.st .token)) (.int .i64) fun l a=>⟨some (ml l),none,.tup [.st .shape (gG l a).1,.int .i64 (gG l a).2.1,.st .fault (gG l a).2.2],[]⟩):=
 gu (ee func12) fun l a _ _ ho=>g0 (sc sF (sc dz (sc jA sn))) a0 func12 (Fw l a (ho _ rfl))
theorem sG:az prog 66:=ee func66
theorem ug(n:Nat)(t:Trm)(m:Int)(hs:Wf (.st .term) t)(hz:szT t<=n+1)(h0:0<=m)(h1:m<=1000000)(hA:ah prog 66 (p2 (.st .term) (.int .i64) fun t m=>⟨some (szT t<=n/\0<=m/\m<=1000000),none,.tup [.int .i64 (countT t m).1,.int .i64 (countT t m).2],[]⟩)):ay prog 66 [.st .term t,.int .i64 m] [] (⟨some (szT t<=n+1/\0<=m/\m<=1000000),none,.tup [.int .i64 (countT t m).1,.int .i64 (countT t m).2],[]⟩):=
 g0 (sc (hA) sn) ⟨[(3,fun S0=>⟨Nat×Int×Int,fun y=>y.1<=t.parts.length/\1<=y.2.1/\y.2.1<=m+1/\0<=y.2.2/\y.2.2+1<=y.2.1/\countL (t.parts.drop y.1) m y.2.1 y.2.2=countL t.parts m 1 0,fun y=>[(6,.int .i64 y.2.1),(7,.int .i64 y.2.2),(15,.int .i64 y.1)],fun _=>[],fun y=>t.parts.length-y.1⟩)],[],[]⟩ func66 (Bq n t m hs hz h0 h1)
theorem qR:∀n:Nat,ah prog 66 (p2 (.st .term) (.int .i64) fun t m=>⟨some (szT t<=n/\0<=m/\m<=1000000),none,.tup [.int .i64 (countT t m).1,.int .i64 (countT t m).2],[]⟩)
 |0=>gu sG fun t m hs _ ho=>absurd (ho _ rfl).1 (by have:=jU t;omega)
 |n+1=>gu sG fun t m hs _ ho=>ug n t m hs (ho _ rfl).1 (ho _ rfl).2.1 (ho _ rfl).2.2 (qR n)
theorem wC:ah prog 214 (pcl .str 130 fun x=>⟨none,none,.bool (!aW x),[]⟩):=
 tY (ee func214) fun x _ ho=>g0 (sc kS sn) a0 func214 (yz x)
theorem wD:ah prog 244 (pfc (.lst .str) 214 130 fun l=>⟨none,none,.int .i64 (cu aW l 0),[]⟩):=
 kN (ee func244) fun l hl ho=>g0 (sc wC sn) ⟨[(2,fun S0=>⟨Nat,fun k=>k<=l.length/\cu aW (l.drop k) k=cu aW l 0,fun k=>[(8,.int .i64 k)],fun _=>[],fun k=>l.length-k⟩)],[],[]⟩ func244 (yA l hl)
theorem wE:ah prog 213 (pfc (.lst .str) 214 130 fun l=>⟨none,none,.bool (!l.all aW),[]⟩):=
 kN (ee func213) fun l _ ho=>g0 (sc wD sn) a0 func213 (yB l)
theorem sH:ah prog 172 (pf (.lst .str) 130 fun l=>⟨none,none,.bool (l.all aW),[]⟩):=
 ot (ee func172) fun l _ ho=>g0 (sc wE sn) a0 func172 (DT l)
theorem C0:ah prog 171 (p1 (.lst .str) fun l=>⟨some (l.length *16<=140737488355328),none,.bool (l.all aW&&decide l.Nodup),[]⟩):=
 cd (ee func171) fun l _ ho=>g0 (sc qM (sc (qC) (sc sH (sc (oA) sn)))) a0 func171 (DU l (ho _ rfl))
theorem yV:az prog 210:=ee func210
theorem rT(n:Nat)(x:Shape) (ho:sz x<=n)(hA:ah prog 211 (p1 (.st .shape) fun s=>⟨some (sz s<=n),none,.bool (allS bn s),[]⟩)):ay prog 210 [.st .shape x,.ptr 900 0] [(900,.box (.fn 211 []))] (⟨some (sz x<=n),none,.bool (!(allS bn) x),[]⟩):=
 g0 (sc (hA) sn) a0 func210 (yC n x ho)
theorem wF(n:Nat)(hA:ah prog 211 (p1 (.st .shape) fun s=>⟨some (sz s<=n),none,.bool (allS bn s),[]⟩)):ah prog 210 (pcl (.st .shape) 211 fun x=>⟨some (sz x<=n),none,.bool (!(allS bn) x),[]⟩):=
 tY yV fun x _ ho=>rT n x (ho _ rfl) hA
theorem yW:az prog 242:=ee func242
theorem rU(n:Nat)(l:List AL.Shape) (hl:Wf (.lst (.st .shape)) l)(ho:∀x∈l,sz x<=n)(hA:ah prog 211 (p1 (.st .shape) fun s=>⟨some (sz s<=n),none,.bool (allS bn s),[]⟩)):ay prog 242 [.lst (.st .shape) l none,.fn 210 [.ptr 900 0]] [(900,.box (.fn 211 []))] (⟨some (∀x∈l,sz x<=n),none,.int .i64 (cu (allS bn) l 0),[]⟩):=
 g0 (sc ((wF n hA)) sn) ⟨[(2,fun S0=>⟨Nat,fun k=>k<=l.length/\cu (allS bn) (l.drop k) k=cu (allS bn) l 0,fun k=>[(8,.int .i64 k)],fun _=>[],fun k=>l.length-k⟩)],[],[]⟩ func242 (yD n l hl ho)
theorem wG(n:Nat)(hA:ah prog 211 (p1 (.st .shape) fun s=>⟨some (sz s<=n),none,.bool (allS bn s),[]⟩)):ah prog 242 (pfc (.lst (.st .shape)) 210 211 fun l=>⟨some (∀x∈l,sz x<=n),none,.int .i64 (cu (allS bn) l 0),[]⟩):=
 kN yW fun l hl ho=>rU n l hl (ho _ rfl) hA
theorem yX:az prog 209:=ee func209
theorem rV(n:Nat)(l:List AL.Shape) (ho:∀x∈l,sz x<=n)(hA:ah prog 211 (p1 (.st .shape) fun s=>⟨some (sz s<=n),none,.bool (allS bn s),[]⟩)):ay prog 209 [.lst (.st .shape) l none,.fn 210 [.ptr 900 0]] [(900,.box (.fn 211 []))] (⟨some (∀x∈l,sz x<=n),none,.bool (!l.all (allS bn)),[]⟩):=
 g0 (sc ((wG n hA)) sn) a0 func209 (yE n l ho)
theorem wH(n:Nat)(hA:ah prog 211 (p1 (.st .shape) fun s=>⟨some (sz s<=n),none,.bool (allS bn s),[]⟩)):ah prog 209 (pfc (.lst (.st .shape)) 210 211 fun l=>⟨some (∀x∈l,sz x<=n),none,.bool (!l.all (allS bn)),[]⟩):=
 kN yX fun l _ ho=>rV n l (ho _ rfl) hA
theorem Ej:az prog 168:=ee func168
theorem wI(n:Nat)(l:List AL.Shape) (ho:∀x∈l,sz x<=n)(hA:ah prog 211 (p1 (.st .shape) fun s=>⟨some (sz s<=n),none,.bool (allS bn s),[]⟩)):ay prog 168 [.lst (.st .shape) l none,.fn 211 []] [] (⟨some (∀x∈l,sz x<=n),none,.bool (l.all (allS bn)),[]⟩):=
 g0 (sc ((wH n hA)) sn) a0 func168 (DV n l ho)
theorem C1(n:Nat)(hA:ah prog 211 (p1 (.st .shape) fun s=>⟨some (sz s<=n),none,.bool (allS bn s),[]⟩)):ah prog 168 (pf (.lst (.st .shape)) 211 fun l=>⟨some (∀x∈l,sz x<=n),none,.bool (l.all (allS bn)),[]⟩):=
 ot Ej fun l _ ho=>wI n l (ho _ rfl) hA
theorem Ah:az prog 211:=ee func211
theorem yY(n:Nat)(s:AL.Shape)(ho:sz s<=n+1)(hE:ah prog 168 (pf (.lst (.st .shape)) 211 fun l=>⟨some (∀x∈l,sz x<=n),none,.bool (l.all (allS bn)),[]⟩)):ay prog 211 [.st .shape s] [] (⟨some (sz s<=n+1),none,.bool (allS bn s),[]⟩):=
 g0 (sc (hE) sn) a0 func211 (Fx n s ho)
theorem wJ:∀n:Nat,ah prog 211 (p1 (.st .shape) fun s=>⟨some (sz s<=n),none,.bool (allS bn s),[]⟩)
 |0=>cd Ah fun s _ ho=>absurd (ho _ rfl) (by have:=mj s;omega)
 |n+1=>cd Ah fun s _ ho=>yY n s (ho _ rfl) (C1 n (wJ n))
theorem yZ:ah prog 169 (p1 (.st .shape) fun s=>.ret (.bool (decide (di s=0)&&allS bn s))):=
 cd (ee func169) fun s _ _=>g0 (sc sE (sc (wJ 400) sn)) a0 func169 (Br s)
theorem FJ:ah prog 167 (p1 (.st .term) fun t=>.ret (.agg [.int .i64 (t.names.length:Int),.int .i64 (t.vars.length:Int),.int .i64 (t.shapes.length:Int),.int .i64 (t.parts.length:Int)])):=
 cd (ee func167) fun t _ _=>g0 sn a0 func167 (GG t)
theorem C2:ah prog 170 (p1 .str fun s=>.ret (.bool (eB s))):=
 cd (ee func170) fun s hs _=>g0 (sc (B8) sn) ⟨[(2,fun S0=>⟨Nat,fun k=>k<=s.length/\(s.all gH)=(s.drop k).all gH,fun k=>[(8,.int .i64 k)],fun _=>[],fun k=>s.length-k⟩)],[],[]⟩ func170 (DW s hs)
theorem uh:ah prog 210 (pcl (.st .shape) 169 fun x=>⟨none,none,.bool (!bQ x),[]⟩):=
 tY (ee func210) fun x _ ho=>g0 (sc yZ sn) a0 func210 (w6 x)
theorem ui:ah prog 242 (pfc (.lst (.st .shape)) 210 169 fun l=>⟨none,none,.int .i64 (cu bQ l 0),[]⟩):=
 kN (ee func242) fun l hl ho=>g0 (sc uh sn) ⟨[(2,fun S0=>⟨Nat,fun k=>k<=l.length/\cu bQ (l.drop k) k=cu bQ l 0,fun k=>[(8,.int .i64 k)],fun _=>[],fun k=>l.length-k⟩)],[],[]⟩ func242 (w7 l hl)
theorem uj:ah prog 209 (pfc (.lst (.st .shape)) 210 169 fun l=>⟨none,none,.bool (!l.all bQ),[]⟩):=
 kN (ee func209) fun l _ ho=>g0 (sc ui sn) a0 func209 (w8 l)
theorem z6:ah prog 168 (pf (.lst (.st .shape)) 169 fun l=>⟨none,none,.bool (l.all bQ),[]⟩):=
 ot (ee func168) fun l _ ho=>g0 (sc uj sn) a0 func168 (Bt l)
theorem C3:ah prog 119 (p1 (.st .term) fun t=>⟨some (t.names.length<=1000000),none,.bool (aV t),[]⟩):=
 cd (ee func119) fun t ht ho=>g0 (sc FJ (sc z6 (sc C2 (sc kS (sc C0 (sc sH (sc nS sn))))))) ⟨[],[],[(2,fun S0=>⟨[(34,.bool (!jw t))],[]⟩)]⟩ func119 (DX t ht (ho _ rfl))
theorem wK:az prog 100:=ee func100
theorem qS(n:Nat)(x:Trm) (ho:szT x<=n/\cx x=true)(hA:ah prog 67 (p1 (.st .term) fun t=>⟨some (szT t<=n/\cx t=true),none,.bool (allT aV t),[]⟩)):ay prog 100 [.st .term x,.ptr 900 0] [(900,.box (.fn 67 []))] (⟨some (szT x<=n/\cx x=true),none,.bool (!(allT aV) x),[]⟩):=
 g0 (sc (hA) sn) a0 func100 (w9 n x ho)
theorem uk(n:Nat)(hA:ah prog 67 (p1 (.st .term) fun t=>⟨some (szT t<=n/\cx t=true),none,.bool (allT aV t),[]⟩)):ah prog 100 (pcl (.st .term) 67 fun x=>⟨some (szT x<=n/\cx x=true),none,.bool (!(allT aV) x),[]⟩):=
 tY wK fun x _ ho=>qS n x (ho _ rfl) hA
theorem wL:az prog 161:=ee func161
theorem qT(n:Nat)(l:List Trm) (hl:Wf (.lst (.st .term)) l)(ho:∀x∈l,szT x<=n/\cx x=true)(hA:ah prog 67 (p1 (.st .term) fun t=>⟨some (szT t<=n/\cx t=true),none,.bool (allT aV t),[]⟩)):ay prog 161 [.lst (.st .term) l none,.fn 100 [.ptr 900 0]] [(900,.box (.fn 67 []))] (⟨some (∀x∈l,szT x<=n/\cx x=true),none,.int .i64 (cu (allT aV) l 0),[]⟩):=
 g0 (sc ((uk n hA)) sn) ⟨[(2,fun S0=>⟨Nat,fun k=>k<=l.length/\cu (allT aV) (l.drop k) k=cu (allT aV) l 0,fun k=>[(8,.int .i64 k)],fun _=>[],fun k=>l.length-k⟩)],[],[]⟩ func161 (wa n l hl ho)
theorem um(n:Nat)(hA:ah prog 67 (p1 (.st .term) fun t=>⟨some (szT t<=n/\cx t=true),none,.bool (allT aV t),[]⟩)):ah prog 161 (pfc (.lst (.st .term)) 100 67 fun l=>⟨some (∀x∈l,szT x<=n/\cx x=true),none,.int .i64 (cu (allT aV) l 0),[]⟩):=
 kN wL fun l hl ho=>qT n l hl (ho _ rfl) hA
theorem wM:az prog 99:=ee func99
theorem qU(n:Nat)(l:List Trm) (ho:∀x∈l,szT x<=n/\cx x=true)(hA:ah prog 67 (p1 (.st .term) fun t=>⟨some (szT t<=n/\cx t=true),none,.bool (allT aV t),[]⟩)):ay prog 99 [.lst (.st .term) l none,.fn 100 [.ptr 900 0]] [(900,.box (.fn 67 []))] (⟨some (∀x∈l,szT x<=n/\cx x=true),none,.bool (!l.all (allT aV)),[]⟩):=
 g0 (sc ((um n hA)) sn) a0 func99 (wb n l ho)
theorem uo(n:Nat)(hA:ah prog 67 (p1 (.st .term) fun t=>⟨some (szT t<=n/\cx t=true),none,.bool (allT aV t),[]⟩)):ah prog 99 (pfc (.lst (.st .term)) 100 67 fun l=>⟨some (∀x∈l,szT x<=n/\cx x=true),none,.bool (!l.all (allT aV)),[]⟩):=
 kN wM fun l _ ho=>qU n l (ho _ rfl) hA
theorem C4:az prog 49:=ee func49
theorem uq(n:Nat)(l:List Trm) (ho:∀x∈l,szT x<=n/\cx x=true)(hA:ah prog 67 (p1 (.st .term) fun t=>⟨some (szT t<=n/\cx t=true),none,.bool (allT aV t),[]⟩)):ay prog 49 [.lst (.st .term) l none,.fn 67 []] [] (⟨some (∀x∈l,szT x<=n/\cx x=true),none,.bool (l.all (allT aV)),[]⟩):=
 g0 (sc ((uo n hA)) sn) a0 func49 (Bu n l ho)
theorem z7(n:Nat)(hA:ah prog 67 (p1 (.st .term) fun t=>⟨some (szT t<=n/\cx t=true),none,.bool (allT aV t),[]⟩)):ah prog 49 (pf (.lst (.st .term)) 67 fun l=>⟨some (∀x∈l,szT x<=n/\cx x=true),none,.bool (l.all (allT aV)),[]⟩):=
 ot C4 fun l _ ho=>uq n l (ho _ rfl) hA
theorem sI:az prog 67:=ee func67
theorem ur(n:Nat)(t:Trm)(ho:szT t<=n+1/\cx t=true)(hE:ah prog 49 (pf (.lst (.st .term)) 67 fun l=>⟨some (∀x∈l,szT x<=n/\cx x=true),none,.bool (l.all (allT aV)),[]⟩)):ay prog 67 [.st .term t] [] (⟨some (szT t<=n+1/\cx t=true),none,.bool (allT aV t),[]⟩):=
 g0 (sc C3 (sc (hE) sn)) a0 func67 (Bv n t ho)
theorem qV:∀n:Nat,ah prog 67 (p1 (.st .term) fun t=>⟨some (szT t<=n/\cx t=true),none,.bool (allT aV t),[]⟩)
 |0=>cd sI fun t _ ho=>absurd (ho _ rfl).1 (by have:=jU t;omega)
 |n+1=>cd sI fun t _ ho=>ur n t (ho _ rfl) (z7 n (qV n))
theorem uu(x:Trm)(ho:cx x=true) :ay prog 35 [.st .term x] [] (⟨some (cx x=true),none,.int .i64 (bz x),[]⟩):=
 g0 (sc (qR (szT x)) (sc (qV (szT x)) sn)) a0 func35 (Bw x ho)
theorem qW:ah prog 35 (p1 (.st .term) fun t=>⟨some (cx t=true),none,.int .i64 (bz t),[]⟩):=
 cd (ee func35) fun t _ ho=>uu t (ho _ rfl)
theorem nT:ah prog 80 (pLn fun s p n k=>⟨some (s.length<=4096/\0<=p/\p<=(s.length:Int)/\0<=k/\k<=2),none,.int .u8 (bAt s (p+k)),[]⟩):=
 Gt (ee func80) fun s p n k ho=>g0 sn a0 func80 (DY s p n k (ho _ rfl))
theorem Ek:ah prog 133 (p1 (.int .u8) fun c=>.ret (.bool (bO c))):=
 cd (ee func133) fun c _ _=>g0 (sc jx (sc jy (sc nR sn))) a0 func133 (Fy c)
theorem C5:ah prog 82 (p1 (.int .u8) fun c=>.ret (.bool (ca c))):=
 cd (ee func82) fun c _ _=>g0 sn a0 func82 (DZ c)
theorem z8:ah prog 194 (p1 (.int .u8) fun c=>.ret (.bool (aZ c))):=
 cd (ee func194) fun c _ _=>g0 sn a0 func194 (Bx c)
theorem za:ah prog 81 (pLf 128 fun s p n=>⟨some (s.length<=4096/\0<=p/\p<=(s.length:Int)),none,.str (cut s p (p+ao bK s p)),[(900,.box (.agg [.str s,.int .i64 (p+ao bK s p)]))]⟩):=
 tZ (ee func81) fun s p n ho=>g0 (sc qL sn) ⟨[(2,fun S0=>⟨Nat,fun k=>p+k<=(s.length:Int)/\ao bK s p=k+ao bK s (p+k),fun _=>[],fun k=>[(900,.box (.agg [.str s,.int .i64 (p+(k:Int))]))],fun k=>s.length-k⟩)],[],[]⟩ func81 (By s p n (ho _ rfl))
theorem zb:ah prog 81 (pLf 133 fun s p n=>⟨some (s.length<=4096/\0<=p/\p<=(s.length:Int)),none,.str (cut s p (p+ao bO s p)),[(900,.box (.agg [.str s,.int .i64 (p+ao bO s p)]))]⟩):=
 tZ (ee func81) fun s p n ho=>g0 (sc Ek sn) ⟨[(2,fun S0=>⟨Nat,fun k=>p+k<=(s.length:Int)/\ao bO s p=k+ao bO s (p+k),fun _=>[],fun k=>[(900,.box (.agg [.str s,.int .i64 (p+(k:Int))]))],fun k=>s.length-k⟩)],[],[]⟩ func81 (Bz s p n (ho _ rfl))
theorem zc:ah prog 81 (pLf 82 fun s p n=>⟨some (s.length<=4096/\0<=p/\p<=(s.length:Int)),none,.str (cut s p (p+ao ca s p)),[(900,.box (.agg [.str s,.int .i64 (p+ao ca s p)]))]⟩):=
 tZ (ee func81) fun s p n ho=>g0 (sc C5 sn) ⟨[(2,fun S0=>⟨Nat,fun k=>p+k<=(s.length:Int)/\ao ca s p=k+ao ca s (p+k),fun _=>[],fun k=>[(900,.box (.agg [.str s,.int .i64 (p+(k:Int))]))],fun k=>s.length-k⟩)],[],[]⟩ func81 (BA s p n (ho _ rfl))
theorem zd:ah prog 81 (pLf 194 fun s p n=>⟨some (s.length<=4096/\0<=p/\p<=(s.length:Int)),none,.str (cut s p (p+ao aZ s p)),[(900,.box (.agg [.str s,.int .i64 (p+ao aZ s p)]))]⟩):=
 tZ (ee func81) fun s p n ho=>g0 (sc z8 sn) ⟨[(2,fun S0=>⟨Nat,fun k=>p+k<=(s.length:Int)/\ao aZ s p=k+ao aZ s (p+k),fun _=>[],fun k=>[(900,.box (.agg [.str s,.int .i64 (p+(k:Int))]))],fun k=>s.length-k⟩)],[],[]⟩ func81 (BB s p n (ho _ rfl))
theorem ze:ah prog 123 (p1 .str fun s=>⟨some (s.length<=4096),none,.tup [.undef,.st .fault (u4 s)],[]⟩):=
 cd (ee func123) fun s _ ho=>g0 (sc (qD) sn) ⟨[(3,fun S0=>⟨Nat×List Int,fun y=>y.1<=s.length/\y.2.length<=y.1/\bS s=iC s y.1,fun y=>[(4,.lst (.int .i64) y.2 (some 10)),(5,.int .i64 y.1)],fun y=>[(10,.tail (.int .i64) y.2.length)],fun y=>s.length-y.1⟩)],[],[]⟩ func123 (BC s (ho _ rfl))
theorem oE:ah prog 191 (p1 .str fun s=>.ret (.bool (da s))):=
 cd (ee func191) fun s _ _=>g0 (sc (vV) sn) a0 func191 (yF s)
theorem C6:ah prog 223 (p1 .str fun s=>.ret (.bool (fK s))):=
 cd (ee func223) fun s hs _=>g0 (sc oE sn) ⟨[(4,fun S0=>⟨Nat,fun k=>k<=s.length/\(s.all fun c=>iK (bI c))=(s.drop k).all fun c=>iK (bI c),fun k=>[(22,.int .i64 k)],fun _=>[],fun k=>s.length-k⟩)],[],[]⟩ func223 (E0 s hs)
theorem zf:ah prog 192 (p1 (.st .version) fun v=>.ret (.int .i64 (dN v))):=
 cd (ee func192) fun v hv _=>g0 (sc (sx) (sc C6 sn)) ⟨[(2,fun S0=>⟨Nat,fun k=>k<=3/\([v.major,v.minor,v.patch].take k).all oM=true,fun k=>[(15,.int .i64 k)],fun _=>[],fun k=>3-k⟩),(11,fun S0=>⟨Nat,fun k=>k<=(splitB 46 v.pre).length/\((splitB 46 v.pre).take k).all fK=true,fun k=>[(37,.int .i64 k)],fun _=>[],fun k=>(splitB 46 v.pre).length-k⟩)],[],[]⟩ func192 (BD v hv)
theorem zg:ah prog 135 (p1 .str fun s=>⟨some (s.length<=4096),none,.tup [.st .version (dO s).1,.int .i64 (dO s).2],[]⟩):=
 cd (ee func135) fun s _ ho=>g0 (sc (Fb) (sc (sx) (sc oE (sc (vU) (sc zf sn))))) ⟨[(7,fun S0=>⟨Nat,fun k=>k<=3/\((splitB 46 (aS s)).take k).all fq=true,fun k=>[(34,.int .i64 k)],fun k=>[(8,.box (.row (.int .i64) (nc s k)))],fun k=>3-k⟩)],[],[]⟩ func135 (BE s (ho _ rfl))
theorem nU:ah prog 124 (pC2 fun s c n e a=>⟨some (n=c.out.length),none,.bool false,[(900,.box (.agg [.str s,.int .i64 ((fE e a c).2).pos,.lst (.st .token) ((fE e a c).2).out (some 901),.int .i64 ((fE e a c).2).err,.int .i64 ((fE e a c).2).fat])),(901,.tail (.st .token) ((fE e a c).2).out.length)]⟩):=
 Dg (ee func124) fun s c n e a ho=>g0 sn a0 func124 (E1 s c n e a (ho _ rfl))
theorem qX:ah prog 83 (pC2 fun s c n a b=>⟨some (n=c.out.length/\s.length<=4096/\0<=a/\a<=b/\b<=(s.length:Int)),none,.bool (gB s a b c).1,[(900,.box (.agg [.str s,.int .i64 ((gB s a b c).2).pos,.lst (.st .token) ((gB s a b c).2).out (some 901),.int .i64 ((gB s a b c).2).err,.int .i64 ((gB s a b c).2).fat])),(901,.tail (.st .token) ((gB s a b c).2).out.length)]⟩):=
 Dg (ee func83) fun s c n a b ho=>g0 (sc ze (sc nU sn)) a0 func83 (BF s c n a b (ho _ rfl))
theorem El:ah prog 125 (pCt fun s c n k t fr=>⟨some (n=c.out.length/\(n+1) *32<=140737488355328),none,.bool true,[(902,.box (.agg [.str s,.int .i64 ((ez k t fr c).2).pos,.lst (.st .token) ((ez k t fr c).2).out (some 903),.int .i64 ((ez k t fr c).2).err,.int .i64 ((ez k t fr c).2).fat])),(903,.tail (.st .token) (n+1))]⟩):=
 Gu (ee func125) fun s c n k t fr ho=>g0 sn a0 func125 (Fz s c n k t fr (ho _ rfl))
theorem wN:ah prog 136 (pC0 fun s c n=>⟨some (n=c.out.length/\n<=4096/\s.length<=4096/\0<=c.pos/\c.pos<=(s.length:Int)/\c.pos<(s.length:Int)),none,.tup [.str (bL s c).1,.bool (bL s c).2.1],[(900,.box (.agg [.str s,.int .i64 ((bL s c).2.2).pos,.lst (.st .token) ((bL s c).2.2).out (some 901),.int .i64 ((bL s c).2.2).err,.int .i64 ((bL s c).2.2).fat])),(901,.tail (.st .token) ((bL s c).2.2).out.length)]⟩):=
 Df (ee func136) fun s c n ho=>g1 nn (fun f=>if Nat.beq f 80||Nat.beq f 81 then[some 2]else[]) nn nn nn (sc nT (sc nU (sc (rO) (sc zd (sc qX sn))))) ⟨[(4,fun S0=>⟨Nat×Str×SC,fun y=>y.2.2.out=c.out/\y.2.2.err=c.err/\y.2.2.fat=c.fat/\0<=y.2.2.pos/\y.2.2.pos<=(s.length:Int)/\(y.2.1.length:Int)<=y.2.2.pos/\(s.length:Int)<y.2.2.pos+(y.1:Int)/\bL s c=bZ s c.pos y.1 y.2.1 y.2.2,fun y=>[(5,.lst (.int .u8) (bh y.2.1) (some 701))],fun y=>[(900,.box (.agg [.str s,.int .i64 (y.2.2).pos,.lst (.st .token) (y.2.2).out (some 901),.int .i64 (y.2.2).err,.int .i64 (y.2.2).fat])),(701,.tail (.int .u8) (bh y.2.1).length)],fun y=>y.1⟩)],[],[]⟩ func136 (yG s c n (ho _ rfl))
theorem Em:ah prog 137 (p1 .str fun s=>.ret (.bool (kO s))):=
 cd (ee func137) fun s _ _=>g0 (sc (u6) sn) a0 func137 (FA s)
theorem zh:ah prog 84 (pC0 fun s c n=>⟨some (n=c.out.length/\n<=4096/\s.length<=4096/\0<=c.pos/\c.pos<=(s.length:Int)/\c.pos<(s.length:Int)),none,.bool (aK s c).1,[(900,.box (.agg [.str s,.int .i64 ((aK s c).2).pos,.lst (.st .token) ((aK s c).2).out (some 901),.int .i64 ((aK s c).2).err,.int .i64 ((aK s c).2).fat])),(901,.tail (.st .token) ((aK s c).2).out.length)]⟩):=
 Df (ee func84) fun s c n ho=>g1 nn (fun f=>if Nat.beq f 80||Nat.beq f 81 then[some 2]else[]) nn nn (fun d=>Nat.beq d 21) (sc nT (sc jx (sc jy (sc za (sc wg (sc El (sc kS (sc nS (sc nU (sc nR (sc zb (sc (vV) (sc zg (sc wN (sc Em sn))))))))))))))) ⟨[(24,fun S0=>⟨Nat,fun k=>k<=2/\(k<=1->cv s c.pos 2=false)/\(k=0->cv s c.pos 1=false),fun k=>[(12,.int .i64 k)],fun k=>[],fun k=>k⟩)],[],[]⟩ func84 (BG s c n (ho _ rfl))
theorem wO:ah prog 41 (p1 .str fun s=>.ret (.tup [.lst (.st .token) (aU s).1 none,.st .fault (aU s).2])):=
 cd (ee func41) fun s hs _=>g1 nn (fun f=>if Nat.beq f 80||Nat.beq f 81 then[some 2]else[]) nn nn nn (sc nT (sc zc (sc qX (sc zh sn)))) ⟨[(4,fun S0=>⟨Nat×SC,fun y=>(y.2.out.length:Int)<=y.2.pos/\(s.length:Int)<y.2.pos+(y.1:Int)/\0<=y.2.pos/\y.2.pos<=(s.length:Int)/\aU s=cM s y.1 y.2,fun y=>[],fun y=>[(14,.box (.agg [.str s,.int .i64 (y.2).pos,.lst (.st .token) (y.2).out (some 701),.int .i64 (y.2).err,.int .i64 (y.2).fat])),(701,.tail (.st .token) y.2.out.length)],fun y=>y.1⟩)],[],[]⟩ func41 (FB s hs)
theorem C7:ah prog 15 (p2 (.lst (.st .token)) (.int .i64) fun l a=>⟨some (ml l),none,.tup [.st .term (b5 l a).1,.int .i64 (b5 l a).2.1,.st .fault (b5 l a).2.2],[]⟩):=
 gu (ee func15) fun l a hl _ ho=>g0 (sc sF (sc dz (sc fG (sc (wB 5000) (sc qW (sc gy sn)))))) a0 func15 (E2 l a hl (ho _ rfl))
theorem uv:ah prog 18 (p1 .str fun s=>.ret (.tup [.st .shape (nQ s).1,.st .fault (nQ s).2])):=
 cd (ee func18) fun s _ _=>g0 (sc wO (sc Ei (sc qQ sn))) a0 func18 (wc s)
theorem nj:ah prog 20 (p1 .str fun s=>.ret (.tup [.st .term (dp s).1,.st .fault (dp s).2])):=
 cd (ee func20) fun s _ _=>g0 (sc wO (sc C7 (sc qQ sn))) a0 func20 (we s)
end Go.AL.Seat
end
section
namespace Go.Pd
open Go.AL
theorem FK(s:Str):dU s<=s.length:=by
 by_cases h:s=[]
 ·subst h;exact Hu _
 by_cases e:dU s=0
 ·omega
 obtain⟨_,h2,_,_,h5⟩:=ju h;have:=h2 e;omega
end Go.Pd
end
section
namespace Go.Pd
open Go.AL
theorem lz{c:UInt8}:∀(a r:Str),(∀x∈a,x≠c)->splitB c (a++c::r)=a::splitB c r
 |[],r,_=>by show(if c=c then _ else _)=_;rw[Hj rfl]
 |b::a,r,h=>by have ih:=lz a r (fun x hx=>h x (HH _ hx));show(if b=c then _ else match splitB c (a++c::r)with|[]=>[[b]]|p::ps=>(b::p)::ps)=_;rw[Hh (h b (IA ..)),ih]
end Go.Pd
end
section
namespace Go.Pd
open Go.AL
abbrev SR3:=Shape×Int×Flt
abbrev TR3:=Trm×Int×Flt
end Go.Pd
end
section
namespace Go.Pd
open Go.AL
abbrev st(l:List Tokn)(a:Int):PS:=⟨l,a,0,0⟩
variable {l:List Tokn}
section
variable {l:List Tokn} {R:PS->Shape×PS} {R':Int->SR3}
end
end Go.Pd
end
section
namespace Go.Pd
open Go.AL
def p0(A:Ans):Pat
 |[],[]=>some A
 |_,_=>none
theorem GW[Tabs]{P:Program}{f:Nat}{A:Ans}(he:az P f)(h:ay P f [] [] A):ah P f (p0 A):=by
 intro args S A' hA _ _;unfold p0 at hA;split at hA
 ·simp only[Xs]at hA;subst hA;exact⟨he,h⟩
 ·cases hA
end Go.Pd
end
section
open Go Go.AL Go.Pd
namespace Go.AL.Seat
theorem C8(n:Nat)(a b:Shape)(ha:Wf (.st .shape) a)(hb:Wf (.st .shape) b)(hn:sz a<=n+1) :
  let A:=True/\false=eqS a b/\True;let B:=(↑(List.length a.names):Int);let C:=(↑(List.length b.names):Int);let D:=(↑(List.length a.parts):Int);let E:=(↑(List.length b.parts):Int);let F:=List.length a.names=List.length b.names;let G:=List.length a.parts=List.length b.parts;let H:=(0:Int);let I:=false=false/\a=a/\b=b/\True;let J:=a=a/\b=b/\I;let K:=(1:Int);let L:=a=a/\b=b/\false=false/\I;let M:=dfl (Ty.st SN.shape);if(!decide (a.kind=b.kind))=true then A else if(!decide (a.pkg=b.pkg))=true then A else if(!decide (a.name=b.name))=true then A else if(!decide (B=C))=true then A else if(!decide (D=E))=true then A else(∃(x:Nat),(x<=List.length a.names/\F/\G/\eqS a b=(decide (List.drop x a.names=List.drop x b.names)&&eqL a.parts b.parts))/\H=(↑x:Int)/\J)/\∀(x:Nat),let N:=(↑x:Int);x<=List.length a.names/\F/\G/\eqS a b=(decide (List.drop x a.names=List.drop x b.names)&&eqL a.parts b.parts)->if decide (N<B)=true then(H<=N/\N<B)/\(H<=N/\N<C)/\if(!decide (List.getD a.names (Int.toNat N) (dfl Ty.str)=List.getD b.names (Int.toNat N) (dfl Ty.str)))=true then A else inR IntKind.i64 (N+K)/\∃(y:Nat),(y<=List.length a.names/\F/\G/\eqS a b=(decide (List.drop y a.names=List.drop y b.names)&&eqL a.parts b.parts))/\List.length a.names-y<List.length a.names-x/\N+K=(↑y:Int)/\J else(∃(x_1:Nat),(x_1<=List.length a.parts/\G/\eqS a b=eqL (List.drop x_1 a.parts) (List.drop x_1 b.parts))/\H=(↑x_1:Int)/\N=N/\L)/\∀(x_1:Nat),let O:=(↑x_1:Int);let P:=List.getD a.parts (Int.toNat O) M;x_1<=List.length a.parts/\G/\eqS a b=eqL (List.drop x_1 a.parts) (List.drop x_1 b.parts)->if decide (O<D)=true then(H<=O/\O<D)/\(H<=O/\O<E)/\sz P<=n/\if(!eqS P (List.getD b.parts (Int.toNat O) M))=true then A else inR IntKind.i64 (O+K)/\∃(y:Nat),(y<=List.length a.parts/\G/\eqS a b=eqL (List.drop y a.parts) (List.drop y b.parts))/\List.length a.parts-y<List.length a.parts-x_1/\O+K=(↑y:Int)/\N=N/\L else True/\true=eqS a b/\True:=by
 conv=>zeta
 have lna:=ha.names.len;have lpa:=ha.parts.len;have hz:=ou a;have he:eqS a b=(decide (a.kind=b.kind)&&decide (a.pkg=b.pkg)&&decide (a.name=b.name)&&decide (a.names=b.names)&&eqL a.parts b.parts):=by cases a;cases b;rfl
 simp only[HC,Jx,Ii,Ij];refine a6 (fun h=>?_) (fun h1=>a6 (fun h=>?_) (fun h2=>a6 (fun h=>?_) (fun h3=>a6 (fun h=>?_) (fun h4=>a6 (fun h=>?_) (fun h5=>?_)))))
 ·rw[he];simp only[HB]at h;rw[h];simp
 ·rw[he];simp only[HB]at h;rw[h];simp
 ·rw[he];simp only[HB]at h;rw[h];simp
 ·have:¬a.names=b.names:=by intro e;rw[e]at h;simp at h
  rw[he];simp[this]
 ·have:a.parts.length≠b.parts.length:=by intro e;rw[e]at h;simp at h
  rw[he,p8 this];simp
 have l4:a.names.length=b.names.length:=by simp at h4;omega
 have l5:a.parts.length=b.parts.length:=by simp at h5;omega
 have he':eqS a b=(decide (a.names=b.names)&&eqL a.parts b.parts):=by rw[he];simp only[HV,Bool.not_eq_false']at h1 h2 h3;rw[h1,h2,h3];simp
 refine⟨⟨0,⟨Hz _,l4,l5,by simpa using he'⟩,rfl⟩,?_⟩;rintro k ⟨k1,_,_,k4⟩;apply a6<;>intro h
 ·replace h:=Xo h;have hk:k<a.names.length:=by omega
  have hk':k<b.names.length:=by omega
  rw[aT a.names k (dfl .str) hk,aT b.names k (dfl .str) hk']at k4;refine⟨by omega,by omega,a6 (fun c=>?_) (fun c=>?_)⟩
  ·have c':¬a.names.getD k (dfl .str)=b.names.getD k (dfl .str):=by simpa using c
   rw[k4];have:¬(a.names.getD k (dfl .str)::a.names.drop (k+1)=b.names.getD k (dfl .str)::b.names.drop (k+1)):=fun e=>c' (List.cons.inj e).1;simp only[this,IX,HP]
  ·have c':a.names.getD k (dfl .str)=b.names.getD k (dfl .str):=by simpa using c
   refine⟨cA hk lna,k+1,⟨by omega,l4,l5,?_⟩,by omega,by omega⟩;rw[k4,c'];congr 1;rw[Ie];simp
 ·replace h:¬((k:Int)<(a.names.length:Int)):=fun e=>h (Xd e);have e:k=a.names.length:=by omega
  subst e;have k4':eqS a b=eqL a.parts b.parts:=by rw[k4,HG,l4,HG];simp
  refine⟨⟨0,⟨Hz _,l5,by simpa using k4'⟩,rfl⟩,?_⟩;rintro j ⟨j1,_,j3⟩;apply a6<;>intro h
  ·replace h:=Xo h;have hj:j<a.parts.length:=by omega
   have hj':j<b.parts.length:=by omega
   have hm:=jR (cY a.parts j (dfl (.st .shape)) hj);rw[aT a.parts j (dfl (.st .shape)) hj,aT b.parts j (dfl (.st .shape)) hj']at j3;simp only[eqL]at j3;refine⟨by omega,by omega,by omega,a6 (fun c=>?_) (fun c=>?_)⟩
   ·have c':eqS (a.parts.getD j (dfl (.st .shape))) (b.parts.getD j (dfl (.st .shape)))=false:=by simpa using c
    rw[j3,c'];rfl
   ·have c':eqS (a.parts.getD j (dfl (.st .shape))) (b.parts.getD j (dfl (.st .shape)))=true:=by simpa using c
    rw[c',HR]at j3;exact⟨cA hj lpa,j+1,⟨by omega,l5,j3⟩,by omega,by omega⟩
  ·replace h:¬((j:Int)<(a.parts.length:Int)):=fun e=>h (Xd e);have e:j=a.parts.length:=by omega
   subst e;rw[j3,HG,l5,HG];rfl
end Go.AL.Seat
end
section
open Go Go.AL Go.Proofs Go.Shelf Go.Pd
namespace Go.AL.Seat
open Go.Proofs.Tryz
variable [Tabs]
variable [SeatLaid]
theorem sJ:az prog 14:=ee func14
theorem uw(n:Nat)(a b:Shape)(ha:Wf (.st .shape) a)(hb:Wf (.st .shape) b)(hn:sz a<=n+1)(hA:ah prog 14 (p2 (.st .shape) (.st .shape) fun a b=>⟨some (sz a<=n),none,.bool (eqS a b),[]⟩)):ay prog 14 [.st .shape a,.st .shape b] [] (.ret (.bool (eqS a b))):=
 g0 (sc (hA) sn) ⟨[(4,fun S0=>⟨Nat,fun k=>k<=a.names.length/\a.names.length=b.names.length/\a.parts.length=b.parts.length/\eqS a b=(decide (a.names.drop k=b.names.drop k)&&eqL a.parts b.parts),fun k=>[(5,.int .i64 k)],fun _=>[],fun k=>a.names.length-k⟩),(9,fun S0=>⟨Nat,fun k=>k<=a.parts.length/\a.parts.length=b.parts.length/\eqS a b=eqL (a.parts.drop k) (b.parts.drop k),fun k=>[(6,.int .i64 k)],fun _=>[],fun k=>a.parts.length-k⟩)],[],[]⟩ func14 (C8 n a b ha hb hn)
theorem zi:∀n:Nat,ah prog 14 (p2 (.st .shape) (.st .shape) fun a b=>⟨some (sz a<=n),none,.bool (eqS a b),[]⟩):=by
 intro n
 induction n with
 |zero=>exact gu sJ fun a b _ _ ho=>absurd (ho _ rfl) (by have:=mj a;omega)
 |succ n ih=>exact gu sJ fun a b ha hb ho=>uw n a b ha hb (ho _ rfl) ih
end Go.AL.Seat
end
section
namespace Go.Pd
open Go.AL
mutual
def sy:Trm->Int->Int
 |⟨_,_,_,_,_,_,_,ps,_⟩,m=>sizeTL ps 1 m
def sizeTL:List Trm->Int->Int->Int
 |[],n,_=>n
 |p::r,n,m=>if n<=m then sizeTL r (n+sy p (m-n)) m else n
end
mutual
theorem sizeT_bd:∀(s:Trm)(m:Int),0<=m->1<=sy s m/\sy s m<=m+1
 |⟨_,_,_,_,_,_,_,ps,_⟩,m,h=>by simp only[sy];exact sizeTL_bd ps 1 m (by omega) (by omega)
theorem sizeTL_bd:∀(l:List Trm)(n m:Int),1<=n->n<=m+1->1<=sizeTL l n m/\sizeTL l n m<=m+1
 |[],n,m,h1,h2=>by simp only[sizeTL];omega
 |p::r,n,m,h1,h2=>by
  simp only[sizeTL];split
  ·have:=sizeT_bd p (m-n) (by omega);exact sizeTL_bd r _ m (by omega) (by omega)
  ·omega
end
mutual
theorem countT_size:∀(s:Trm)(m:Int),0<=m->(countT s m).1=min (szT s:Int) (m+1)
 |⟨_,_,_,_,_,_,_,ps,_⟩,m,h=>by simp only[countT,szT];rw[countL_size ps m 1 0 (by omega)];omega
theorem countL_size:∀(l:List Trm)(m n d:Int),n<=m+1->(countL l m n d).1=min (n+szTL l) (m+1)
 |[],m,n,d,h=>by simp only[countL,szTL];omega
 |p::r,m,n,d,h=>by
  simp only[countL,szTL];have:=jU p;split
  ·show n=_;omega
  ·rw[countL_size r m _ _ (by rw[countT_size p (m-n) (by omega)];omega),countT_size p (m-n) (by omega)];omega
end
mutual
def eqT:Trm->Trm->Bool->Bool
 |⟨k,g,q,z,ns,vs,ss,ps,pp⟩,⟨k',g',q',z',ns',vs',ss',ps',pp'⟩,b=>
  decide (k=k')&&decide (g=g')&&decide (q=q')&&decide (z=z')&&(!b||decide (pp=pp'))&&decide (ns=ns')&&decide (vs=vs')&&eqL ss ss'&&eqTL ps ps' b
def eqTL:List Trm->List Trm->Bool->Bool
 |[],[],_=>true
 |x::r,y::s,b=>eqT x y b&&eqTL r s b
 |_,_,_=>false
end
theorem qY:∀{l m:List Trm} {b:Bool},l.length≠m.length->eqTL l m b=false
 |[],[],_,h=>absurd rfl h
 |[],_::_,_,_=>rfl
 |_::_,[],_,_=>rfl
 |x::r,y::s,b,h=>by rw[eqTL,qY (l:=r) (m:=s) (by simpa using h),Iq]
theorem fc(a c:Trm)(b:Bool):eqT a c b=(decide (a.kind=c.kind)&&decide (a.pkg=c.pkg)&&decide (a.name=c.name)&&decide (a.n=c.n)&&(!b||decide (a.pos=c.pos))&&decide (a.names=c.names)&&decide (a.vars=c.vars)&&eqL a.shapes c.shapes&&eqTL a.parts c.parts b):=by cases a;cases c;rw[eqT]
mutual
theorem eqS_self:∀a:Shape,eqS a a=true
 |⟨k,p,m,ns,ps⟩=>by simp[eqS,eqL_self ps]
theorem eqL_self:∀l:List Shape,eqL l l=true
 |[]=>by simp[eqL]
 |a::r=>by simp[eqL,eqS_self a,eqL_self r]
end
mutual
theorem eqT_self:∀(a:Trm)(b:Bool),eqT a a b=true
 |⟨k,g,q,z,ns,vs,ss,ps,pp⟩,b=>by simp[eqT,eqL_self ss,eqTL_self ps b]
theorem eqTL_self:∀(l:List Trm)(b:Bool),eqTL l l b=true
 |[],b=>by simp[eqTL]
 |a::r,b=>by simp[eqTL,eqT_self a b,eqTL_self r b]
end
end Go.Pd
end
section
open Go Go.AL Go.Pd
namespace Go.AL.Seat
theorem wP(a b:List Str)(ha:Wf (.lst .str) a)(hb:Wf (.lst .str) b) :
  let A:=(↑(List.length a):Int);let B:=(↑(List.length b):Int);let C:=True/\false=decide (a=b)/\True;let D:=List.length a=List.length b;let E:=(0:Int);let F:=a=a/\b=b/\false=false/\True;if(!decide (A=B))=true then C else(∃(x:Nat),(x<=List.length a/\D/\(a=b↔List.drop x a=List.drop x b))/\E=(↑x:Int)/\F)/\∀(x:Nat),let G:=(↑x:Int);x<=List.length a/\D/\(a=b↔List.drop x a=List.drop x b)->if decide (G<A)=true then(E<=G/\G<A)/\(E<=G/\G<B)/\if(!decide (List.getD a (Int.toNat G) (dfl Ty.str)=List.getD b (Int.toNat G) (dfl Ty.str)))=true then C else inR IntKind.i64 (G+(1:Int))/\∃(y:Nat),(y<=List.length a/\D/\(a=b↔List.drop y a=List.drop y b))/\List.length a-y<List.length a-x/\G+(1:Int)=(↑y:Int)/\F else True/\true=decide (a=b)/\True:=by
 conv=>zeta
 have la:=ha.len;simp only[HC,Jx,Ii,Ij];apply a6<;>intro h
 ·have h:¬(a.length:Int)=b.length:=by simpa using h
  symm;rw[HI];intro e;rw[e]at h;exact h rfl
 have hl:a.length=b.length:=by simp at h;omega
 refine⟨⟨0,⟨by omega,hl,by simp⟩,by simp⟩,?_⟩;rintro k ⟨h1,_,h3⟩;apply a6<;>intro h
 ·replace h:=Xo h;have hk:k<a.length:=by omega
  have hk':k<b.length:=by omega
  rw[aT a k (dfl .str) hk,aT b k (dfl .str) hk',J0]at h3;refine⟨by omega,by omega,a6 (fun c=>?_) (fun c=>?_)⟩
  ·have c:¬a.getD k (dfl .str)=b.getD k (dfl .str):=by simpa using c
   symm;rw[HI];exact fun e=>c (h3.1 e).1
  ·have c:a.getD k (dfl .str)=b.getD k (dfl .str):=by simpa using c
   exact⟨cA hk la,k+1,⟨by omega,hl,h3.trans ⟨fun e=>e.2,fun e=>⟨c,e⟩⟩⟩,by omega,by omega⟩
 ·replace h:¬((k:Int)<(a.length:Int)):=fun e=>h (Xd e);have e:k=a.length:=by omega
  subst e;symm;rw[decide_eq_true_iff];rw[HG,hl,HG]at h3;exact h3.2 rfl
theorem C9(n:Nat)(a b:Trm)(p:Bool)(ha:Wf (.st .term) a)(hb:Wf (.st .term) b)(hn:szT a<=n+1) :
  let A:=True/\false=eqT a b p/\True;let B:=(↑(List.length a.shapes):Int);let C:=(↑(List.length b.shapes):Int);let D:=(↑(List.length a.parts):Int);let E:=(↑(List.length b.parts):Int);let F:=List.length a.shapes=List.length b.shapes;let G:=List.length a.parts=List.length b.parts;let H:=(0:Int);let I:=false=false;let J:=I/\I/\a=a/\b=b/\True;let K:=a=a/\b=b/\p=p/\J;let L:=dfl (Ty.st SN.shape);let M:=(1:Int);let N:=a=a/\b=b/\p=p/\I/\J;let O:=dfl (Ty.st SN.term);let P:=if(!decide (a.names=b.names))=true then A else if(!decide (a.vars=b.vars))=true then A else if(!decide (B=C))=true then A else if(!decide (D=E))=true then A else(∃(x:Nat),(x<=List.length a.shapes/\F/\G/\eqT a b p=(eqL (List.drop x a.shapes) (List.drop x b.shapes)&&eqTL a.parts b.parts p))/\H=(↑x:Int)/\K)/\∀(x:Nat),let Q:=(↑x:Int);let R:=List.getD a.shapes (Int.toNat Q) L;x<=List.length a.shapes/\F/\G/\eqT a b p=(eqL (List.drop x a.shapes) (List.drop x b.shapes)&&eqTL a.parts b.parts p)->if decide (Q<B)=true then(H<=Q/\Q<B)/\(H<=Q/\Q<C)/\sz R<=szL a.shapes/\if(!eqS R (List.getD b.shapes (Int.toNat Q) L))=true then A else inR IntKind.i64 (Q+M)/\∃(y:Nat),(y<=List.length a.shapes/\F/\G/\eqT a b p=(eqL (List.drop y a.shapes) (List.drop y b.shapes)&&eqTL a.parts b.parts p))/\List.length a.shapes-y<List.length a.shapes-x/\Q+M=(↑y:Int)/\K else(∃(x_1:Nat),(x_1<=List.length a.parts/\G/\eqT a b p=eqTL (List.drop x_1 a.parts) (List.drop x_1 b.parts) p)/\H=(↑x_1:Int)/\Q=Q/\N)/\∀(x_1:Nat),let S:=(↑x_1:Int);let T:=List.getD a.parts (Int.toNat S) O;x_1<=List.length a.parts/\G/\eqT a b p=eqTL (List.drop x_1 a.parts) (List.drop x_1 b.parts) p->if decide (S<D)=true then(H<=S/\S<D)/\(H<=S/\S<E)/\szT T<=n/\if(!eqT T (List.getD b.parts (Int.toNat S) O) p)=true then A else inR IntKind.i64 (S+M)/\∃(y:Nat),(y<=List.length a.parts/\G/\eqT a b p=eqTL (List.drop y a.parts) (List.drop y b.parts) p)/\List.length a.parts-y<List.length a.parts-x_1/\S+M=(↑y:Int)/\Q=Q/\N else True/\true=eqT a b p/\True;if(!decide (a.kind=b.kind))=true then A else if(!decide (a.pkg=b.pkg))=true then A else if(!decide (a.name=b.name))=true then A else if(!decide (a.n=b.n))=true then A else if p=true then if(!decide (a.pos=b.pos))=true then A else P else P:=by
 conv=>zeta
 have lnS:=ha.term_shapes.len;have lnP:=ha.term_parts.len;have hz:=mq a;simp only[HC,Jx,Ii,Ij];refine a6 (fun h=>?_) (fun h1=>?_)
 ·have h:¬a.kind=b.kind:=by simpa using h
  rw[fc,Xf h];simp
 have h1:a.kind=b.kind:=by simpa using h1
 refine a6 (fun h=>?_) (fun h2=>?_)
 ·have h:¬a.pkg=b.pkg:=by simpa using h
  rw[fc,Xf h];simp
 have h2:a.pkg=b.pkg:=by simpa using h2
 refine a6 (fun h=>?_) (fun h3=>?_)
 ·have h:¬a.name=b.name:=by simpa using h
  rw[fc,Xf h];simp
 have h3:a.name=b.name:=by simpa using h3
 refine a6 (fun h=>?_) (fun h4=>?_)
 ·have h:¬a.n=b.n:=by simpa using h
  rw[fc,Xf h];simp
 have h4:a.n=b.n:=by simpa using h4
 apply a6<;>intro hp
 ·refine a6 (fun h=>?_) (fun h5=>?_)
  ·have h:¬a.pos=b.pos:=by simpa using h
   rw[fc,Xf h,hp];simp
  have h5:a.pos=b.pos:=by simpa using h5
  have h5:(!p||decide (a.pos=b.pos))=true:=by rw[Xd h5,Jt]
  refine a6 (fun h=>?_) (fun h6=>?_)
  ·have h:¬a.names=b.names:=by simpa using h
   rw[fc,Xf h];simp
  have h6:a.names=b.names:=by simpa using h6
  refine a6 (fun h=>?_) (fun h7=>?_)
  ·have h:¬a.vars=b.vars:=by simpa using h
   rw[fc,Xf h];simp
  have h7:a.vars=b.vars:=by simpa using h7
  refine a6 (fun h=>?_) (fun h8=>?_)
  ·have h:¬(a.shapes.length:Int)=b.shapes.length:=by simpa using h
   rw[fc,p8 (by omega)];simp
  have h8:(a.shapes.length:Int)=b.shapes.length:=by simpa using h8
  refine a6 (fun h=>?_) (fun h9=>?_)
  ·have h:¬(a.parts.length:Int)=b.parts.length:=by simpa using h
   rw[fc,qY (by omega)];simp
  have h9:(a.parts.length:Int)=b.parts.length:=by simpa using h9
  have hS:a.shapes.length=b.shapes.length:=by omega
  have hP:a.parts.length=b.parts.length:=by omega
  have e0:eqT a b p=(eqL a.shapes b.shapes&&eqTL a.parts b.parts p):=by rw[fc,Xd h1,Xd h2,Xd h3,Xd h4,h5,Xd h6,Xd h7];simp
  refine⟨⟨0,⟨Hz _,hS,hP,e0⟩,rfl⟩,?_⟩;rintro k ⟨q1,_,_,q4⟩;apply a6<;>intro h
  ·replace h:=Xo h;have hk:k<a.shapes.length:=by omega
   have hk':k<b.shapes.length:=by omega
   have hm:=jR (cY a.shapes k (dfl (.st .shape)) hk);rw[aT a.shapes k (dfl (.st .shape)) hk,aT b.shapes k (dfl (.st .shape)) hk',eqL]at q4;refine⟨by omega,by omega,hm,a6 (fun e=>?_) (fun e=>?_)⟩
   ·have e:eqS (a.shapes.getD k (dfl (.st .shape))) (b.shapes.getD k (dfl (.st .shape)))=false:=by simpa using e
    rw[q4,e];rfl
   ·have e:eqS (a.shapes.getD k (dfl (.st .shape))) (b.shapes.getD k (dfl (.st .shape)))=true:=by simpa using e
    rw[e,HR]at q4;exact⟨cA hk lnS,k+1,⟨by omega,hS,hP,q4⟩,by omega,by omega⟩
  have ek:k=a.shapes.length:=by have:¬((k:Int)<(a.shapes.length:Int)):=fun e=>h (Xd e);omega
  have e1:eqT a b p=eqTL a.parts b.parts p:=by rw[q4,ek,HG,hS,HG];rfl
  refine⟨⟨0,⟨Hz _,hP,e1⟩,rfl⟩,?_⟩;rintro j ⟨r1,_,r4⟩;apply a6<;>intro h
  ·replace h:=Xo h;have hk:j<a.parts.length:=by omega
   have hk':j<b.parts.length:=by omega
   have hm:=jV (cY a.parts j (dfl (.st .term)) hk);rw[aT a.parts j (dfl (.st .term)) hk,aT b.parts j (dfl (.st .term)) hk',eqTL]at r4;refine⟨by omega,by omega,by omega,a6 (fun e=>?_) (fun e=>?_)⟩
   ·have e:eqT (a.parts.getD j (dfl (.st .term))) (b.parts.getD j (dfl (.st .term))) p=false:=by simpa using e
    rw[r4,e];rfl
   ·have e:eqT (a.parts.getD j (dfl (.st .term))) (b.parts.getD j (dfl (.st .term))) p=true:=by simpa using e
    rw[e,HR]at r4;exact⟨cA hk lnP,j+1,⟨by omega,hP,r4⟩,by omega,by omega⟩
  ·have ej:j=a.parts.length:=by have:¬((j:Int)<(a.parts.length:Int)):=fun e=>h (Xd e);omega
   rw[r4,ej,HG,hP,HG];rfl
 ·have hp:p=false:=by simpa using hp
  have h5:(!p||decide (a.pos=b.pos))=true:=by rw[hp];rfl
  refine a6 (fun h=>?_) (fun h6=>?_)
  ·have h:¬a.names=b.names:=by simpa using h
   rw[fc,Xf h];simp
  have h6:a.names=b.names:=by simpa using h6
  refine a6 (fun h=>?_) (fun h7=>?_)
  ·have h:¬a.vars=b.vars:=by simpa using h
   rw[fc,Xf h];simp
  have h7:a.vars=b.vars:=by simpa using h7
  refine a6 (fun h=>?_) (fun h8=>?_)
  ·have h:¬(a.shapes.length:Int)=b.shapes.length:=by simpa using h
   rw[fc,p8 (by omega)];simp
  have h8:(a.shapes.length:Int)=b.shapes.length:=by simpa using h8
  refine a6 (fun h=>?_) (fun h9=>?_)
  ·have h:¬(a.parts.length:Int)=b.parts.length:=by simpa using h
   rw[fc,qY (by omega)];simp
  have h9:(a.parts.length:Int)=b.parts.length:=by simpa using h9
  have hS:a.shapes.length=b.shapes.length:=by omega
  have hP:a.parts.length=b.parts.length:=by omega
  have e0:eqT a b p=(eqL a.shapes b.shapes&&eqTL a.parts b.parts p):=by rw[fc,Xd h1,Xd h2,Xd h3,Xd h4,h5,Xd h6,Xd h7];simp
  refine⟨⟨0,⟨Hz _,hS,hP,e0⟩,rfl⟩,?_⟩;rintro k ⟨q1,_,_,q4⟩;apply a6<;>intro h
  ·replace h:=Xo h;have hk:k<a.shapes.length:=by omega
   have hk':k<b.shapes.length:=by omega
   have hm:=jR (cY a.shapes k (dfl (.st .shape)) hk);rw[aT a.shapes k (dfl (.st .shape)) hk,aT b.shapes k (dfl (.st .shape)) hk',eqL]at q4;refine⟨by omega,by omega,hm,a6 (fun e=>?_) (fun e=>?_)⟩
   ·have e:eqS (a.shapes.getD k (dfl (.st .shape))) (b.shapes.getD k (dfl (.st .shape)))=false:=by simpa using e
    rw[q4,e];rfl
   ·have e:eqS (a.shapes.getD k (dfl (.st .shape))) (b.shapes.getD k (dfl (.st .shape)))=true:=by simpa using e
    rw[e,HR]at q4;exact⟨cA hk lnS,k+1,⟨by omega,hS,hP,q4⟩,by omega,by omega⟩
  have ek:k=a.shapes.length:=by have:¬((k:Int)<(a.shapes.length:Int)):=fun e=>h (Xd e);omega
  have e1:eqT a b p=eqTL a.parts b.parts p:=by rw[q4,ek,HG,hS,HG];rfl
  refine⟨⟨0,⟨Hz _,hP,e1⟩,rfl⟩,?_⟩;rintro j ⟨r1,_,r4⟩;apply a6<;>intro h
  ·replace h:=Xo h;have hk:j<a.parts.length:=by omega
   have hk':j<b.parts.length:=by omega
   have hm:=jV (cY a.parts j (dfl (.st .term)) hk);rw[aT a.parts j (dfl (.st .term)) hk,aT b.parts j (dfl (.st .term)) hk',eqTL]at r4;refine⟨by omega,by omega,by omega,a6 (fun e=>?_) (fun e=>?_)⟩
   ·have e:eqT (a.parts.getD j (dfl (.st .term))) (b.parts.getD j (dfl (.st .term))) p=false:=by simpa using e
    rw[r4,e];rfl
   ·have e:eqT (a.parts.getD j (dfl (.st .term))) (b.parts.getD j (dfl (.st .term))) p=true:=by simpa using e
    rw[e,HR]at r4;exact⟨cA hk lnP,j+1,⟨by omega,hP,r4⟩,by omega,by omega⟩
  ·have ej:j=a.parts.length:=by have:¬((j:Int)<(a.parts.length:Int)):=fun e=>h (Xd e);omega
   rw[r4,ej,HG,hP,HG];rfl
end Go.AL.Seat
end
section
open Go Go.AL Go.Proofs Go.Shelf Go.Pd
namespace Go.AL.Seat
open Go.Proofs.Tryz
variable [Tabs]
variable [SeatLaid]
theorem uz:ah prog 40 (p2 (.lst .str) (.lst .str) fun a b=>.ret (.bool (decide (a=b)))):=
 gu (ee func40) fun a b ha hb _=>g0 sn ⟨[(4,fun S0=>⟨Nat,fun k=>k<=a.length/\a.length=b.length/\(a=b↔a.drop k=b.drop k),fun k=>[(5,.int .i64 k)],fun _=>[],fun k=>a.length-k⟩)],[],[]⟩ func40 (wP a b ha hb)
theorem sK:az prog 17:=ee func17
theorem uA(n:Nat)(a b:Trm)(p:Bool)(ha:Wf (.st .term) a)(hb:Wf (.st .term) b)(hn:szT a<=n+1)(hA:ah prog 17 (p3 (.st .term) (.st .term) .bool fun a b p=>⟨some (szT a<=n),none,.bool (eqT a b p),[]⟩)):ay prog 17 [.st .term a,.st .term b,.bool p] [] (.ret (.bool (eqT a b p))):=
 g0 (sc uz (sc (zi (szL a.shapes)) (sc (hA) sn))) ⟨[(6,fun S0=>⟨Nat,fun k=>k<=a.shapes.length/\a.shapes.length=b.shapes.length/\a.parts.length=b.parts.length/\eqT a b p=(eqL (a.shapes.drop k) (b.shapes.drop k)&&eqTL a.parts b.parts p),fun k=>[(7,.int .i64 k)],fun _=>[],fun k=>a.shapes.length-k⟩),(11,fun S0=>⟨Nat,fun k=>k<=a.parts.length/\a.parts.length=b.parts.length/\eqT a b p=eqTL (a.parts.drop k) (b.parts.drop k) p,fun k=>[(8,.int .i64 k)],fun _=>[],fun k=>a.parts.length-k⟩)],[],[]⟩ func17 (C9 n a b p ha hb hn)
theorem zj:∀n:Nat,ah prog 17 (p3 (.st .term) (.st .term) .bool fun a b p=>⟨some (szT a<=n),none,.bool (eqT a b p),[]⟩):=by
 intro n
 induction n with
 |zero=>exact G3 sK fun a b _ _ _ _ ho=>absurd (ho _ rfl) (by have:=jU a;omega)
 |succ n ih=>exact G3 sK fun a b p ha hb _ ho=>uA n a b p ha hb (ho _ rfl) ih
end Go.AL.Seat
end
section
namespace Go.Pd
open Go.AL
theorem En{p:UInt8->Bool}:∀{l:Str} {c:UInt8},c∈l.takeWhile p->p c=true
 |[],_,h=>by cases h
 |b::l,c,h=>by
  rw[ID]at h;by_cases hb:p b=true
  ·rw[Hj hb]at h
   cases h with|head=>exact hb|tail _ k=>exact En k
  ·rw[Hh hb]at h;cases h
theorem nk(s:Str)(a w:Nat):cut s (a:Int) ((a:Int)+(w:Int))=(s.drop a).take w:=by
 unfold cut;have e1:((a:Int)+(w:Int)).toNat=a+w:=by omega
 rw[e1,HC,List.drop_take];congr 1;omega
theorem mw(p:Int->Bool)(s:Str)(a:Nat):ao p s (a:Int)=((s.drop a).takeWhile fun b=>p (bI b)).length:=by unfold ao;rw[HC]
theorem FL(p:UInt8->Bool)(l:Str):l.take (l.takeWhile p).length=l.takeWhile p:=by
 conv=>lhs;arg 2;rw[<-List.takeWhile_append_dropWhile (p:=p) (l:=l)]
 exact List.take_left
theorem Ca(p:Int->Bool)(s:Str)(a:Nat):cut s (a:Int) ((a:Int)+(ao p s (a:Int):Int))=(s.drop a).takeWhile fun b=>p (bI b):=by rw[nk,mw,FL]
end Go.Pd
end
section
namespace Go.Pd
open Go.AL
def qZ(F:Str->Shape×Flt)(G:Str->Trm×Flt):Bool:=
 decide ((F [40,73,110,116,44,32,91,75,101,121,93,41,32,45,62,32,123,97,58,32,113,47,73,100,125]).2.err=0)&&
 decide ((F [40,73,110,116,44,32,91,75,101,121,93,41,32,45,62,32,123,97,58,32,113,47,73,100,125]).1.kind=8)&&
 decide ((F [40,73,110,116,44,32,91,75,101,121,93,41,32,45,62,32,123,97,58,32,113,47,73,100,125]).1.parts.length=3)&&
 decide ((F [123,97,58,32,73,110,116,44,32,97,58,32,73,110,116,125]).2.err=111)&&
 decide ((F [123,97,58,32,73,110,116,44,32,97,58,32,73,110,116,125]).2.pos=9)&&
 decide ((G [102,46,97,40,49,41]).2.err=0)&&
 decide ((G [102,46,97,40,49,41]).1.kind=7)&&
 decide ((G [102,46,97,40,49,41]).1.parts.length=2)&&
 decide (((G [102,46,97,40,49,41]).1.parts.getD 1 (dfl (.st .term))).pos=4)&&
 decide ((G [91,73,110,116]).2.err=90)
set_option maxRecDepth 100000 in
theorem zk:qZ nQ dp=true:=by decide+kernel
end Go.Pd
end
