/- What the functions' conditions say, proved. No condition. -/
import Derived.Test.YtdmbjejhifjhbaaGreatDoorT17
set_option linter.unusedVariables false
set_option linter.unusedSimpArgs false
set_option linter.unnecessarySimpa false
set_option linter.deprecated false
set_option linter.unusedSectionVars false
set_option maxRecDepth 100000
section
open Go Go.AL Go.Pd
namespace Go.AL.Seat
theorem FK (n:Nat) (s:Par)  (ho:a8 s/\rem s < n+1) :
  let A:=True;let B:=(0:Int);let C:=a7 n;let D:=dB C s;let E:=B=D.1.kind;let F:=[]=D.1.pkg;let G:=[]=D.1.name;let H:=B=D.1.n;let I:=D.1.names=[];let J:=D.1.vars=[];let K:=D.1.shapes=[];let L:=D.1.parts=[];let M:=ao s;let N:=M.pos=D.1.pos;let O:=(1:Int);let P:=inR IntKind.i64 (s.pos+O);let Q:=I/\J/\K/\L/\N/\s.toks=D.2.toks/\s.pos+O=D.2.pos/\s.err=D.2.err/\s.fat=D.2.fat/\A;let R:=(2:Int);let S:=M.text=D.1.name;let T:=([47]:Str);let U:=(cl T {toks:=s.toks,pos:=s.pos+O,err:=s.err,fat:=s.fat:Par});let V:=(5:Int)=D.1.kind;let W:=([116,114,117,101]:Str);let X:=cl W s;let Y:=([102,97,108,115,101]:Str);let Z:=cl Y X;let a:=([40]:Str);let b:=cl a Z;let c:=a7 n b;let d:=([97,115]:Str);let e:=cl d c.2;let f:=bW e;let g:=(cl ([123]:Str) b);let h:=(ab ([44]:Str) ([125]:Str) (ah C) {kind:=(8:Int),pkg:=[],name:=[],n:=B,names:=[],vars:=[],shapes:=[],parts:=[],pos:=M.pos:Trm} g);let i:=(cl ([64]:Str) g);let j:=b6 O i;let k:=cU C j.2;let l:=([110,101,119]:Str);let m:=cl l i;let o:=b6 R m;let p:=cU C o.2;let q:=([114,97,119]:Str);let r:=cl q m;let t:=b6 R r;let u:=cU C t.2;a8 s/\if b9 s=true then A/\E/\F/\G/\H/\I/\J/\K/\L/\N/\s=D.2/\A else if decide (M.kind=(3:Int))=true then P/\kc M.text/\A/\O=D.1.kind/\F/\G/\jl M.text=D.1.n/\Q else if decide (M.kind=(4:Int))=true then P/\A/\R=D.1.kind/\F/\S/\H/\Q else if decide (M.kind=O)=true then P/\a8 {toks:=s.toks,pos:=s.pos+O,err:=s.err,fat:=s.fat:Par}/\if isF T {toks:=s.toks,pos:=s.pos+O,err:=s.err,fat:=s.fat:Par}=true then (a8 U/\¬O=B)/\A/\V/\M.text=D.1.pkg/\(b6 O U).1.text=D.1.name/\H/\I/\J/\K/\L/\N/\(b6 O U).2=D.2/\A else A/\V/\F/\S/\H/\I/\J/\K/\L/\N/\cl T {toks:=s.toks,pos:=s.pos+O,err:=s.err,fat:=s.fat:Par}=D.2/\A else a8 s/\if isF W s=true then A/\(3:Int)=D.1.kind/\F/\G/\H/\I/\J/\K/\L/\N/\cl W s=D.2/\A else a8 X/\if isF Y X=true then A/\(4:Int)=D.1.kind/\F/\G/\H/\I/\J/\K/\L/\N/\cl Y X=D.2/\A else a8 Z/\if isF a Z=true then (a8 b/\rem b<n)/\a8 c.2/\if (!isF d c.2)=true then a8 e/\A/\c.1=D.1/\aj ([41]:Str) e=D.2/\A else a8 e/\a8 f.2/\A/\(15:Int)=D.1.kind/\F/\G/\H/\I/\J/\[f.1]=D.1.shapes/\[c.1]=D.1.parts/\N/\aj ([41]:Str) f.2=D.2/\A else a8 b/\if isF ([123]:Str) b=true then (a8 g/\rem g<=n)/\A/\h.1.kind=D.1.kind/\h.1.pkg=D.1.pkg/\h.1.name=D.1.name/\h.1.n=D.1.n/\h.1.names=D.1.names/\J/\K/\h.1.parts=D.1.parts/\h.1.pos=D.1.pos/\h.2=D.2/\A else a8 g/\if isF ([64]:Str) g=true then (a8 i/\¬O=B)/\(a8 j.2/\rem (aj a j.2)<n)/\A/\(10:Int)=D.1.kind/\F/\j.1.text=D.1.name/\H/\I/\J/\K/\k.1=D.1.parts/\N/\k.2=D.2/\A else a8 i/\if isF l i=true then (a8 m/\¬R=B)/\(a8 o.2/\rem (aj a o.2)<n)/\A/\(16:Int)=D.1.kind/\F/\o.1.text=D.1.name/\H/\I/\J/\K/\p.1=D.1.parts/\N/\p.2=D.2/\A else a8 m/\if isF q m=true then (a8 r/\¬R=B)/\(a8 t.2/\rem (aj a t.2)<n)/\A/\(17:Int)=D.1.kind/\F/\t.1.text=D.1.name/\H/\I/\J/\K/\u.1=D.1.parts/\N/\u.2=D.2/\A else A/\E/\F/\G/\H/\I/\J/\K/\L/\N/\cy (90:Int) M.pos r=D.2/\A:=by
 conv=>zeta
 obtain ⟨hi,hn⟩:=ho
 obtain ⟨G,hG⟩:∃G,G=dB (a7 n) s:=⟨_,rfl⟩
 rw [←hG]
 unfold dB at hG
 have i1:=hi.1
 have i2:=hi.2.2.1
 have hR:=dj n
 refine ⟨hi,a6 (fun b=>?_) (fun b=>?_)⟩
 ·rw [if_pos b] at hG
  subst hG
  exact Xr
 rw [if_neg b] at hG
 have b:b9 s=false:=by simpa using b
 refine a6 (fun k=>?_) (fun k=>?_)
 ·replace k:=Xo k
  rw [if_pos k] at hG
  subst hG
  have hl:=fF (l:=s.toks) (a:=s.pos) (by unfold ao at k;omega)
  have hm:ao s∈s.toks:=by
   unfold ao eL
   rw [if_pos hl]
   exact eU s.toks s.pos.toNat (dfl (.st .token)) (by omega)
  refine ⟨an (by omega) (by omega),hi.2.2.2 _ hm k,?_⟩
  exact Xr
 replace k:¬(ao s).kind=3:=fun e=>k (Xd e)
 rw [if_neg k] at hG
 refine a6 (fun k=>?_) (fun k=>?_)
 ·replace k:=Xo k
  rw [if_pos k] at hG
  subst hG
  have hl:=fF (l:=s.toks) (a:=s.pos) (by unfold ao at k;omega)
  refine ⟨an (by omega) (by omega),?_⟩
  exact Xr
 replace k:¬(ao s).kind=4:=fun e=>k (Xd e)
 rw [if_neg k] at hG
 refine a6 (fun k=>?_) (fun k=>?_)
 ·replace k:=Xo k
  rw [if_pos k] at hG
  have hl:=fF (l:=s.toks) (a:=s.pos) (by unfold ao at k;omega)
  have m:=(jO hi (by decide) k b).1
  refine ⟨an (by omega) (by omega),m.good,?_⟩
  show (if isF [47] (aA s)=true then _ else _)
  refine a6 (fun c=>?_) (fun c=>?_)
  ·rw [if_pos c] at hG
   subst hG
   have m2:=aJ m.good c
   have e:cl [47] (⟨s.toks,s.pos+1,s.err,s.fat⟩:Par)=aA (aA s):=aF c
   rw [e]
   refine ⟨⟨m2.good,by decide⟩,?_⟩
   exact Xr
  ·rw [if_neg c] at hG
   subst hG
   have c:isF [47] (aA s)=false:=by simpa using c
   have e:cl [47] (⟨s.toks,s.pos+1,s.err,s.fat⟩:Par)=aA s:=aL c
   rw [e]
   exact Xr
 replace k:¬(ao s).kind=1:=fun e=>k (Xd e)
 rw [if_neg k] at hG
 refine ⟨hi,a6 (fun c=>?_) (fun c=>?_)⟩
 rotate_left
 ·rw [if_neg c] at hG
  have c:isF [116,114,117,101] s=false:=by simpa using c
  rw [aL c]
  refine ⟨hi,a6 (fun c=>?_) (fun c=>?_)⟩
  rotate_left
  ·rw [if_neg c] at hG
   have c:isF [102,97,108,115,101] s=false:=by simpa using c
   rw [aL c]
   refine ⟨hi,a6 (fun c=>?_) (fun c=>?_)⟩
   rotate_left
   ·rw [if_neg c] at hG
    have c:isF [40] s=false:=by simpa using c
    rw [aL c]
    refine ⟨hi,a6 (fun c=>?_) (fun c=>?_)⟩
    rotate_left
    ·rw [if_neg c] at hG
     have c:isF [123] s=false:=by simpa using c
     rw [aL c]
     refine ⟨hi,a6 (fun c=>?_) (fun c=>?_)⟩
     rotate_left
     ·rw [if_neg c] at hG
      have c:isF [64] s=false:=by simpa using c
      rw [aL c]
      refine ⟨hi,a6 (fun c=>?_) (fun c=>?_)⟩
      rotate_left
      ·rw [if_neg c] at hG
       have c:isF [110,101,119] s=false:=by simpa using c
       rw [aL c]
       refine ⟨hi,a6 (fun c=>?_) (fun c=>?_)⟩
       rotate_left
       ·rw [if_neg c] at hG
        have c:isF [114,97,119] s=false:=by simpa using c
        rw [aL c]
        subst hG
        exact Xr
       rw [if_pos c] at hG
       have m:=aJ hi c
       have r:=aR hi c
       rw [aF c]
       subst hG
       have a:=bY (k:=2) m.good (by decide)
       have al:=a.goes.le
       have b:=(ak (t:=[40]) a.good).goes.le
       refine ⟨⟨m.good,by decide⟩,⟨a.good,by omega⟩,?_⟩
       exact Xr
      rw [if_pos c] at hG
      have m:=aJ hi c
      have r:=aR hi c
      rw [aF c]
      subst hG
      have a:=bY (k:=2) m.good (by decide)
      have al:=a.goes.le
      have b:=(ak (t:=[40]) a.good).goes.le
      refine ⟨⟨m.good,by decide⟩,⟨a.good,by omega⟩,?_⟩
      exact Xr
     rw [if_pos c] at hG
     have m:=aJ hi c
     have r:=aR hi c
     rw [aF c]
     subst hG
     have a:=bY (k:=1) m.good (by decide)
     have al:=a.goes.le
     have b:=(ak (t:=[40]) a.good).goes.le
     refine ⟨⟨m.good,by decide⟩,⟨a.good,by omega⟩,?_⟩
     exact Xr
    rw [if_pos c] at hG
    have m:=aJ hi c
    have r:=aR hi c
    rw [aF c]
    have hx:(⟨8,[],[],0,[],[],[],[],(ao s).pos⟩:Trm).vars=[]/\(⟨8,[],[],0,[],[],[],[],(ao s).pos⟩:Trm).shapes=[]:=⟨rfl,rfl⟩
    have kv:=cx (fun x:Trm=>x.vars=[]) (one:=ah (a7 n)) (fun x s h=>h) [44] [125] (x:=⟨8,[],[],0,[],[],[],[],(ao s).pos⟩) (aA s) rfl
    have ks:=cx (fun x:Trm=>x.shapes=[]) (one:=ah (a7 n)) (fun x s h=>h) [44] [125] (x:=⟨8,[],[],0,[],[],[],[],(ao s).pos⟩) (aA s) rfl
    rw [←hG] at kv ks ⊢
    refine ⟨⟨m.good,by omega⟩,?_⟩
    repeat (first | exact trivial | refine ⟨by first | rfl | trivial | exact kv | exact ks,?_⟩)
   rw [if_pos c] at hG
   have m:=aJ hi c
   have r:=aR hi c
   rw [aF c]
   have a:=hR.moves m.good (by omega)
   refine ⟨⟨m.good,by omega⟩,a.good,a6 (fun d=>?_) (fun d=>?_)⟩
   ·have d:isF [97,115] (a7 n (aA s)).2=false:=by simpa using d
    rw [aL d]
    rw [if_neg (by simp [d])] at hG
    subst hG
    refine ⟨a.good,?_⟩
    exact Xr
   ·have d:isF [97,115] (a7 n (aA s)).2=true:=by simpa using d
    rw [aF d]
    rw [if_pos d] at hG
    subst hG
    have a2:=aJ a.good d
    refine ⟨a2.good,(gD a2.good).good,?_⟩
    exact Xr
  rw [if_pos c] at hG
  have m:=aJ hi c
  have r:=aR hi c
  rw [aF c]
  subst hG
  exact Xr
 rw [if_pos c] at hG
 have m:=aJ hi c
 have r:=aR hi c
 rw [aF c]
 subst hG
 exact Xr
theorem FL (n:Nat) (s:Par)  (ho:a8 s/\rem s < n+1) :
  let A:=([102,117,110]:Str);let B:=cl A s;let C:=(aj ([40]:Str) B);let D:=(0:Int);let E:=(ab ([44]:Str) ([41]:Str) az {kind:=(6:Int),pkg:=[],name:=[],n:=D,names:=[],vars:=[],shapes:=[],parts:=[],pos:=(ao s).pos:Trm} C);let F:=(aj ([45,62]:Str) E.2);let G:=(100000:Nat);let H:=True;let I:=(1:Nat);let J:=a7 (n+I) s;let K:=J.1.vars=[];let L:=([108,101,116]:Str);let M:=cl L B;let N:=(b6 (1:Int) M);let O:=(aj ([61]:Str) N.2);let P:=a7 n O;let Q:=(aj ([105,110]:Str) P.2);let R:=[]++[P.1];let S:=[]=J.1.pkg;let T:=J.1.names=[];let U:=(ao s).pos=J.1.pos;let V:=([105,102]:Str);let W:=cl V M;let X:=a7 n W;let Y:=(aj ([116,104,101,110]:Str) X.2);let Z:=[X.1];let a:=[]++Z;let b:=a7 n Y;let c:=(aj ([101,108,115,101]:Str) b.2);let d:=[]++Z++[b.1];let e:=a7 n c;let f:=[]++Z++[b.1]++[e.1];let g:=([97,115]:Str);let h:=bW (aj g e.2);let i:=([99,97,115,101]:Str);let j:=cl i W;let k:=a7 n j;let l:=([111,102]:Str);let m:=aj l k.2;let o:=(aj ([123]:Str) m);let p:=[]++[k.1];let q:=a7 n;let r:=(ab ([124]:Str) ([125]:Str) (ai q) {kind:=(13:Int),pkg:=[],name:=[],n:=D,names:=[],vars:=[],shapes:=[],parts:=[]++[k.1],pos:=(ao s).pos:Trm} o);let t:=bW (aj g r.2);let u:=(cl ([91]:Str) j);let v:=(ab ([44]:Str) ([93]:Str) (aq q) {kind:=(11:Int),pkg:=[],name:=[],n:=D,names:=[],vars:=[],shapes:=[],parts:=[],pos:=(ao s).pos:Trm} u);let w:=bW (aj l v.2);a8 s/\a8 s/\if isF A s=true then a8 B/\(a8 C/\rem C<=n)/\a8 E.2/\(a8 F/\rem F<n/\List.length E.1.names=List.length E.1.names/\List.length E.1.shapes=List.length E.1.shapes/\List.length E.1.names+List.length E.1.shapes<=G)/\H/\E.1.kind=J.1.kind/\E.1.pkg=J.1.pkg/\E.1.name=J.1.name/\E.1.n=J.1.n/\E.1.names=J.1.names/\K/\E.1.shapes=J.1.shapes/\[]++[(a7 n F).1]=J.1.parts/\E.1.pos=J.1.pos/\(a7 n F).2=J.2/\H else a8 B/\if isF L B=true then (a8 M/\¬(1:Int)=D)/\a8 N.2/\(a8 O/\rem O<n)/\a8 P.2/\(a8 Q/\rem Q<n/\List.length R=List.length R/\List.length R<=G)/\H/\(14:Int)=J.1.kind/\S/\N.1.text=J.1.name/\D=J.1.n/\T/\K/\J.1.shapes=[]/\[]++[P.1]++[(a7 n Q).1]=J.1.parts/\U/\(a7 n Q).2=J.2/\H else a8 M/\if isF V M=true then (a8 W/\rem W<n)/\a8 X.2/\(a8 Y/\rem Y<n/\List.length a=List.length a/\List.length a<=G)/\a8 b.2/\(a8 c/\rem c<n/\List.length d=List.length d/\List.length d<=G)/\(a8 e.2/\List.length f=List.length f/\List.length f<=G)/\H/\(12:Int)=J.1.kind/\S/\[]=J.1.name/\D=J.1.n/\T/\K/\[]++[h.1]=J.1.shapes/\[]++Z++[b.1]++[e.1]=J.1.parts/\U/\h.2=J.2/\H else a8 W/\if isF i W=true then (a8 j/\rem j<n)/\a8 k.2/\a8 m/\(a8 o/\rem o<=n/\List.length p=List.length p/\List.length p<=I)/\(a8 r.2/\List.length r.1.names=List.length r.1.names/\List.length r.1.vars=List.length r.1.vars/\List.length r.1.shapes=List.length r.1.shapes/\List.length r.1.parts=List.length r.1.parts/\List.length r.1.names+List.length r.1.vars+List.length r.1.shapes+List.length r.1.parts<=G)/\H/\r.1.kind=J.1.kind/\r.1.pkg=J.1.pkg/\r.1.name=J.1.name/\r.1.n=J.1.n/\r.1.names=J.1.names/\r.1.vars=J.1.vars/\r.1.shapes++[t.1]=J.1.shapes/\r.1.parts=J.1.parts/\r.1.pos=J.1.pos/\t.2=J.2/\H else a8 j/\if isF ([91]:Str) j=true then (a8 u/\rem u<n)/\(a8 v.2/\List.length v.1.parts=List.length v.1.parts/\List.length v.1.parts<=G)/\H/\v.1.kind=J.1.kind/\v.1.pkg=J.1.pkg/\v.1.name=J.1.name/\v.1.n=J.1.n/\T/\K/\[]++[w.1]=J.1.shapes/\v.1.parts=J.1.parts/\v.1.pos=J.1.pos/\w.2=J.2/\H else (a8 u/\rem u<n+I)/\H/\(fE q u).1=J.1/\(fE q u).2=J.2/\H:=by
 conv=>zeta
 obtain ⟨hi,hn⟩:=ho
 obtain ⟨G,hG⟩:∃G,G=lR (a7 n) s:=⟨_,rfl⟩
 rw [show a7 (n+1) s=G from hG.symm]
 unfold lR at hG
 have hl:=hi.2.2.1
 have hR:=dj n
 refine ⟨hi,?_⟩
 refine ⟨hi,a6 (fun c=>?_) (fun c=>?_)⟩
 rotate_left
 ·rw [if_neg c] at hG
  have c:isF [102,117,110] s=false:=by simpa using c
  rw [aL c]
  refine ⟨hi,a6 (fun c=>?_) (fun c=>?_)⟩
  rotate_left
  ·rw [if_neg c] at hG
   have c:isF [108,101,116] s=false:=by simpa using c
   rw [aL c]
   refine ⟨hi,a6 (fun c=>?_) (fun c=>?_)⟩
   rotate_left
   ·rw [if_neg c] at hG
    have c:isF [105,102] s=false:=by simpa using c
    rw [aL c]
    refine ⟨hi,a6 (fun c=>?_) (fun c=>?_)⟩
    rotate_left
    ·rw [if_neg c] at hG
     have c:isF [99,97,115,101] s=false:=by simpa using c
     rw [aL c]
     refine ⟨hi,a6 (fun c=>?_) (fun c=>?_)⟩
     rotate_left
     ·rw [if_neg c] at hG
      have c:isF [91] s=false:=by simpa using c
      rw [aL c]
      refine ⟨⟨hi,hn⟩,?_⟩
      subst hG
      exact Xr
     rw [if_pos c] at hG
     have m:=aJ hi c
     have r:=aR hi c
     rw [aF c]
     have hRp:ek (aq (a7 n)) (n - 1):=df (by
      have hp:=cP (dP c).2
      by_cases h:n=0
      ·subst h;have:=aR hi c;have h5:rem (aA s)=0:=by omega
       omega
      ·rw [Nat.sub_add_cancel (by omega)];exact hR)
     have hn1:rem (aA s) < n:=by omega
     have ht:=m.goes.toks
     have g:=aW hRp [44] [93] (⟨11,[],[],0,[],[],[],[],(ao s).pos⟩:Trm) m.good (by omega)
     have kn:=cx (fun x:Trm=>x.names=[]) (one:=aq (a7 n)) (fun x s h=>h) [44] [93] (x:=(⟨11,[],[],0,[],[],[],[],(ao s).pos⟩:Trm)) (aA s) rfl
     have kv:=cx (fun x:Trm=>x.vars=[]) (one:=aq (a7 n)) (fun x s h=>h) [44] [93] (x:=(⟨11,[],[],0,[],[],[],[],(ao s).pos⟩:Trm)) (aA s) rfl
     have ks:=cx (fun x:Trm=>x.shapes=[]) (one:=aq (a7 n)) (fun x s h=>h) [44] [93] (x:=(⟨11,[],[],0,[],[],[],[],(ao s).pos⟩:Trm)) (aA s) rfl
     have lp:=dD (fun x:Trm=>x.parts.length) (one:=aq (a7 n)) (fun x s=>by simp [aq,cA,az,eI,co,bu,ai,cK]) [44] [93] (⟨11,[],[],0,[],[],[],[],(ao s).pos⟩:Trm) (aA s)
     replace hG:G=eI [111,102] (ab [44] [93] (aq (a7 n)) (⟨11,[],[],0,[],[],[],[],(ao s).pos⟩:Trm) (aA s)).1 (ab [44] [93] (aq (a7 n)) (⟨11,[],[],0,[],[],[],[],(ao s).pos⟩:Trm) (aA s)).2:=hG
     generalize ab [44] [93] (aq (a7 n)) (⟨11,[],[],0,[],[],[],[],(ao s).pos⟩:Trm) (aA s)=L at hG g kn kv ks lp ⊢
     subst hG
     simp only [ht,List.length_nil] at lp
     refine ⟨⟨m.good,hn1⟩,⟨g.good,by trivial,by omega⟩,?_⟩
     repeat (first | exact trivial | refine ⟨by first | rfl | trivial | exact kn | exact kv | exact ks | exact kp | (show []++[_]=L.1.parts++[_];rw [kp]) | (show []++[_]=L.1.shapes++[_];rw [ks]),?_⟩)
    rw [if_pos c] at hG
    have m:=aJ hi c
    have r:=aR hi c
    rw [aF c]
    have a:=hR.moves m.good (by omega)
    have al:=a.goes.le
    have b:=ak (t:=[111,102]) a.good
    have bl:=b.goes.le
    have d:=ak (t:=[123]) b.good
    have dl:=d.goes.le
    have ht:=(((m.then a).then b).then d).goes.toks
    have g:=aW (jo hR) [124] [125] (⟨13,[],[],0,[],[],[],[]++[(a7 n (aA s)).1],(ao s).pos⟩:Trm) d.good (by omega)
    have ln:=dD (fun x:Trm=>x.names.length) (one:=ai (a7 n)) (fun x s=>by simp [aq,cA,az,eI,co,bu,ai,cK]) [124] [125] (⟨13,[],[],0,[],[],[],[]++[(a7 n (aA s)).1],(ao s).pos⟩:Trm) (aj [123] (aj [111,102] (a7 n (aA s)).2))
    have lv:=dD (fun x:Trm=>x.vars.length) (one:=ai (a7 n)) (fun x s=>by simp [aq,cA,az,eI,co,bu,ai,cK]) [124] [125] (⟨13,[],[],0,[],[],[],[]++[(a7 n (aA s)).1],(ao s).pos⟩:Trm) (aj [123] (aj [111,102] (a7 n (aA s)).2))
    have ls:=dD (fun x:Trm=>x.shapes.length) (one:=ai (a7 n)) (fun x s=>by simp [aq,cA,az,eI,co,bu,ai,cK]) [124] [125] (⟨13,[],[],0,[],[],[],[]++[(a7 n (aA s)).1],(ao s).pos⟩:Trm) (aj [123] (aj [111,102] (a7 n (aA s)).2))
    have lp:=dD (fun x:Trm=>x.parts.length) (one:=ai (a7 n)) (fun x s=>by simp [aq,cA,az,eI,co,bu,ai,cK]) [124] [125] (⟨13,[],[],0,[],[],[],[]++[(a7 n (aA s)).1],(ao s).pos⟩:Trm) (aj [123] (aj [111,102] (a7 n (aA s)).2))
    replace hG:G=eI [97,115] (ab [124] [125] (ai (a7 n)) (⟨13,[],[],0,[],[],[],[]++[(a7 n (aA s)).1],(ao s).pos⟩:Trm) (aj [123] (aj [111,102] (a7 n (aA s)).2))).1 (ab [124] [125] (ai (a7 n)) (⟨13,[],[],0,[],[],[],[]++[(a7 n (aA s)).1],(ao s).pos⟩:Trm) (aj [123] (aj [111,102] (a7 n (aA s)).2))).2:=hG
    generalize ab [124] [125] (ai (a7 n)) (⟨13,[],[],0,[],[],[],[]++[(a7 n (aA s)).1],(ao s).pos⟩:Trm) (aj [123] (aj [111,102] (a7 n (aA s)).2))=L at hG g ln lv ls lp ⊢
    subst hG
    simp only [ht,List.length_nil,List.length_append,List.length_singleton] at ln lv ls lp
    refine ⟨⟨m.good,by omega⟩,a.good,b.good,⟨d.good,by omega,by trivial,by simp⟩,⟨g.good,by trivial,by trivial,by trivial,by trivial,by omega⟩,?_⟩
    exact Xr
   rw [if_pos c] at hG
   have m:=aJ hi c
   have r:=aR hi c
   rw [aF c]
   replace hG:G=eI [97,115] (aq (a7 n) (aq (a7 n) (aq (a7 n) ⟨12,[],[],0,[],[],[],[],(ao s).pos⟩ (aA s)).1 (aj [116,104,101,110] (a7 n (aA s)).2)).1 (aj [101,108,115,101] (a7 n (aj [116,104,101,110] (a7 n (aA s)).2)).2)).1 (a7 n (aj [101,108,115,101] (a7 n (aj [116,104,101,110] (a7 n (aA s)).2)).2)).2:=hG
   subst hG
   have a:=hR.moves m.good (by omega)
   have al:=a.goes.le
   have b:=ak (t:=[116,104,101,110]) a.good
   have bl:=b.goes.le
   have d:=hR.moves b.good (by omega)
   have dl:=d.goes.le
   have e:=ak (t:=[101,108,115,101]) d.good
   have el:=e.goes.le
   have f:=hR.moves e.good (by omega)
   refine ⟨⟨m.good,by omega⟩,a.good,⟨b.good,by omega,by trivial,by simp⟩,d.good,⟨e.good,by omega,by trivial,by simp⟩,⟨f.good,by trivial,by simp⟩,?_⟩
   exact Xr
  rw [if_pos c] at hG
  have m:=aJ hi c
  have r:=aR hi c
  rw [aF c]
  replace hG:G=aq (a7 n) (aq (a7 n) ⟨14,[],(b6 1 (aA s)).1.text,0,[],[],[],[],(ao s).pos⟩ (aj [61] (b6 1 (aA s)).2)).1 (aj [105,110] (a7 n (aj [61] (b6 1 (aA s)).2)).2):=hG
  subst hG
  have a:=bY (k:=1) m.good (by decide)
  have al:=a.goes.le
  have b:=ak (t:=[61]) a.good
  have bl:=b.goes.le
  have d:=hR.moves b.good (by omega)
  have dl:=d.goes.le
  have e:=ak (t:=[105,110]) d.good
  have el:=e.goes.le
  refine ⟨⟨m.good,by decide⟩,a.good,⟨b.good,by omega⟩,d.good,⟨e.good,by omega,by trivial,by simp⟩,?_⟩
  exact Xr
 rw [if_pos c] at hG
 have m:=aJ hi c
 have r:=aR hi c
 rw [aF c]
 have a:=ak (t:=[40]) m.good
 have al:=a.goes.le
 have ht:=(m.then a).goes.toks
 have g:=aW (jn n) [44] [41] (⟨6,[],[],0,[],[],[],[],(ao s).pos⟩:Trm) a.good (by omega)
 have ln:=dD (fun x:Trm=>x.names.length) (one:=az) (fun x s=>by simp [aq,cA,az,eI,co,bu,ai,cK]) [44] [41] (⟨6,[],[],0,[],[],[],[],(ao s).pos⟩:Trm) (aj [40] (aA s))
 have ls:=dD (fun x:Trm=>x.shapes.length) (one:=az) (fun x s=>by simp [aq,cA,az,eI,co,bu,ai,cK]) [44] [41] (⟨6,[],[],0,[],[],[],[],(ao s).pos⟩:Trm) (aj [40] (aA s))
 have kv:=cx (fun x:Trm=>x.vars=[]) (one:=az) (fun x s h=>h) [44] [41] (x:=(⟨6,[],[],0,[],[],[],[],(ao s).pos⟩:Trm)) (aj [40] (aA s)) rfl
 have kp:=cx (fun x:Trm=>x.parts=[]) (one:=az) (fun x s h=>h) [44] [41] (x:=(⟨6,[],[],0,[],[],[],[],(ao s).pos⟩:Trm)) (aj [40] (aA s)) rfl
 replace hG:G=aq (a7 n) (ab [44] [41] az (⟨6,[],[],0,[],[],[],[],(ao s).pos⟩:Trm) (aj [40] (aA s))).1 (aj [45,62] (ab [44] [41] az (⟨6,[],[],0,[],[],[],[],(ao s).pos⟩:Trm) (aj [40] (aA s))).2):=hG
 generalize ab [44] [41] az (⟨6,[],[],0,[],[],[],[],(ao s).pos⟩:Trm) (aj [40] (aA s))=L at hG g ln ls kv kp ⊢
 subst hG
 simp only [ht,List.length_nil] at ln ls
 have gl:=g.le
 have b:=ak (t:=[45,62]) g.good
 have bl:=b.goes.le
 refine ⟨m.good,⟨a.good,by omega⟩,g.good,⟨b.good,by omega,by trivial,by trivial,by omega⟩,?_⟩
 repeat (first | exact trivial | refine ⟨by first | rfl | trivial | exact kn | exact kv | exact ks | exact kp | (show []++[_]=L.1.parts++[_];rw [kp]) | (show []++[_]=L.1.shapes++[_];rw [ks]),?_⟩)
theorem E7 (l:List Tokn) (a:Int) (hl:Wf (.lst (.st .token)) l) :
  let A:=(0:Int);let B:=True;let C:=B/\cy (2:Int) A {toks:=l,pos:=a,err:=A,fat:=A:Par}=bh l a/\B;let D:=(↑(List.length l):Int);let E:=bh l a;if decide (a<A)=true then C else if decide (D<a)=true then C else if decide ((4097:Int)<D)=true then B/\cy (3:Int) A {toks:=l,pos:=a,err:=A,fat:=A:Par}=bh l a/\B else B/\l=E.toks/\a=E.pos/\A=E.err/\A=E.fat/\B:=by
 conv=>zeta
 have hn:=hl.len
 refine a6 (fun h=>?_) (fun h=>?_)
 ·replace h:=Xo h
  have e:bh l a=⟨l,a,2,0⟩:=by unfold bh;rw [if_pos (.inl h)]
  rw [e]
  exact ⟨trivial,rfl,trivial⟩
 replace h:¬a < 0:=fun e=>h (Xd e)
 refine a6 (fun k=>?_) (fun k=>?_)
 ·replace k:=Xo k
  have e:bh l a=⟨l,a,2,0⟩:=by unfold bh;rw [if_pos (.inr k)]
  rw [e]
  exact ⟨trivial,rfl,trivial⟩
 replace k:¬(l.length:Int) < a:=fun e=>k (Xd e)
 have hb:¬(a < 0∨(l.length:Int) < a):=fun e=>e.elim h k
 refine a6 (fun d=>?_) (fun d=>?_)
 ·replace d:=Xo d
  have e:bh l a=⟨l,a,3,0⟩:=by unfold bh;rw [if_neg hb,if_pos (by omega)]
  rw [e]
  exact ⟨trivial,rfl,trivial⟩
 ·replace d:¬(4097:Int) < (l.length:Int):=fun e=>d (Xd e)
  have e:bh l a=⟨l,a,0,0⟩:=by unfold bh;rw [if_neg hb,if_neg (by omega)]
  rw [e]
  exact Xr
theorem Bp (l:List Tokn) (a:Int) (hl:Wf (.lst (.st .token)) l) (ho:0<=a/\a < (l.length:Int)) :
  let A:=(↑(List.length l):Int);let B:=(0:Int);let C:=dM l a;inR IntKind.i64 (A - (1:Int))/\if (!decide (a=A - (1:Int)))=true then (B<=a/\a<A)/\True/\(90:Int)=C.err/\(List.getD l (Int.toNat a) (dfl (Ty.st SN.token))).pos=C.pos/\True else True/\B=C.err/\B=C.pos/\True:=by
 conv=>zeta
 have hn:=hl.len
 refine ⟨an (by omega) (by omega),a6 (fun h=>?_) (fun h=>?_)⟩
 ·have h:¬a=(l.length:Int) - 1:=by simpa using h
  unfold dM
  rw [if_neg h]
  refine ⟨ho,?_⟩
  exact Xr
 ·have h:a=(l.length:Int) - 1:=by simpa using h
  unfold dM
  rw [if_pos h]
  exact Xr
theorem FM (l:List Tokn) (a:Int) (hN:oT l) :
  let A:=bh l a;let B:=True;let C:=(0:Int);let D:=gP l a;let E:=C=D.1.kind;let F:=[]=D.1.pkg;let G:=[]=D.1.name;let H:=D.1.names=[];let I:=D.1.parts=[];let J:=bW A;if b9 A=true then B/\E/\F/\G/\H/\I/\C=D.2.1/\A.err=D.2.2.err/\A.fat=D.2.2.pos/\B else a8 A/\if b9 J.2=true then B/\E/\F/\G/\H/\I/\C=D.2.1/\J.2.err=D.2.2.err/\J.2.fat=D.2.2.pos/\B else B/\J.1=D.1/\J.2.pos=D.2.1/\C=D.2.2.err/\C=D.2.2.pos/\B:=by
 conv=>zeta
 obtain ⟨G,hG⟩:∃G,G=gP l a:=⟨_,rfl⟩
 rw [←hG]
 unfold gP at hG
 refine a6 (fun h=>?_) (fun h=>?_)
 ·rw [if_pos h] at hG
  subst hG
  exact Xr
 ·rw [if_neg h] at hG
  have h:b9 (bh l a)=false:=by simpa using h
  have g:=iD hN h
  unfold n9 at hG
  refine ⟨g,a6 (fun k=>?_) (fun k=>?_)⟩
  ·rw [if_pos k] at hG
   subst hG
   exact Xr
  ·rw [if_neg k] at hG
   subst hG
   exact Xr
theorem Bq (n:Nat) (t:Trm) (m:Int) (hs:Wf (.st .term) t) (hz:szT t<=n+1) (h0:0<=m) (h1:m<=1000000) :
  let A:=(1:Int);let B:=(0:Int);let C:=(↑(List.length t.parts):Int);let D:=t=t/\m=m/\B=B/\B=B/\t.parts=t.parts/\C=C/\t=t/\True;let E:=countT t m;let F:=dfl (Ty.st SN.term);(∃(x:Nat × Int × Int),(x.1<=List.length t.parts/\A<=x.2.1/\x.2.1<=m+A/\B<=x.2.2/\x.2.2+A<=x.2.1/\countL (List.drop x.1 t.parts) m x.2.1 x.2.2=countL t.parts m A B)/\A=x.2.1/\B=x.2.2/\B=(↑x.1:Int)/\D)/\∀(x:Nat × Int × Int),let G:=(↑x.1:Int);let H:=inR IntKind.i64 (x.2.2+A)/\True/\x.2.1=E.1/\x.2.2+A=E.2/\True;let I:=m - x.2.1;let J:=List.getD t.parts (Int.toNat G) F;let K:=countT J I;x.1<=List.length t.parts/\A<=x.2.1/\x.2.1<=m+A/\B<=x.2.2/\x.2.2+A<=x.2.1/\countL (List.drop x.1 t.parts) m x.2.1 x.2.2=countL t.parts m A B→if decide (G<C)=true then (B<=G/\G<C)/\if decide (m<x.2.1)=true then H else inR IntKind.i64 I/\(szT J<=n/\B<=m - x.2.1/\m - x.2.1<=(1000000:Int))/\inR IntKind.i64 (x.2.1+K.1)/\inR IntKind.i64 (G+A)/\∃(y:Nat × Int × Int),(y.1<=List.length t.parts/\A<=y.2.1/\y.2.1<=m+A/\B<=y.2.2/\y.2.2+A<=y.2.1/\countL (List.drop y.1 t.parts) m y.2.1 y.2.2=countL t.parts m A B)/\List.length t.parts - y.1<List.length t.parts - x.1/\x.2.1+K.1=y.2.1/\max x.2.2 K.2=y.2.2/\G+A=(↑y.1:Int)/\D else H:=by
 conv=>zeta
 have ln:=hs.term_parts.len
 rw [B2]
 refine ⟨⟨(0,1,0),⟨Nat.zero_le _,by decide,by show (1:Int)<=m+1;omega,by decide,by decide,rfl⟩,rfl,rfl,rfl,?_⟩,?_⟩
 ·exact Xr
 rintro ⟨k,a,d⟩ ⟨h1,h2,h3,h4,h5,h6⟩
 simp only [Int.toNat_natCast] at h1 h2 h3 h4 h5 h6 ⊢
 refine a6 (fun h=>?_) (fun h=>?_)
 ·replace h:=Xo h
  have hk:k < t.parts.length:=by omega
  rw [bf t.parts k (dfl (.st .term)) hk,countL] at h6
  refine ⟨by omega,a6 (fun c=>?_) (fun c=>?_)⟩
  ·replace c:=Xo c
   rw [if_pos c] at h6
   rw [←h6]
   refine ⟨an (by omega) (by omega),?_⟩
   exact Xr
  ·replace c:¬m < a:=fun e=>c (Xd e)
   rw [if_neg c] at h6
   have hm:=ph (eU t.parts k (dfl (.st .term)) hk)
   have he:=tW t
   have hb:=countT_bound (t.parts.getD k (dfl (.st .term))) (m - a) (by omega)
   refine ⟨an (by omega) (by omega),⟨by omega,by omega,by omega⟩,an (by omega) (by omega),cp hk ln,(k+1,_,_),⟨by show k+1<=_;omega,?_,?_,?_,?_,h6⟩,by show _ - (k+1) < _;omega,rfl,rfl,by show _=((k+1:Nat):Int);omega,?_⟩
   ·show (1:Int)<=a+_;omega
   ·show a+_<=m+1;omega
   ·show (0:Int)<=max d _;omega
   ·show max d _+1<=a+_;omega
   exact Xr
 ·replace h:¬((k:Int) < (t.parts.length:Int)):=fun e=>h (Xd e)
  have e:k=t.parts.length:=by omega
  subst e
  rw [List.drop_length,countL] at h6
  rw [←h6]
  refine ⟨an (by omega) (by omega),?_⟩
  exact Xr
theorem yh  (x:Str)  :
  True/\(!aQ x)=!aQ x/\True:=by
 exact ⟨trivial,by trivial,trivial⟩
theorem yi  (l:List Str)  (hl:Wf (.lst .str) l) :
  let A:=(0:Nat);let B:=(↑(List.length l):Int);let C:=l=l/\B=B/\True;(∃(x:Nat),(x<=List.length l/\cd aQ (List.drop x l) x=cd aQ l A)/\(0:Int)=(↑x:Int)/\C)/\∀(x:Nat),let D:=(↑x:Int);x<=List.length l/\cd aQ (List.drop x l) x=cd aQ l A→if decide (D<B)=true then ((0:Int)<=D/\D<B)/\if (!aQ (List.getD l (Int.toNat D) (dfl Ty.str)))=true then True/\D=cd aQ l A/\True else inR IntKind.i64 (D+(1:Int))/\∃(y:Nat),(y<=List.length l/\cd aQ (List.drop y l) y=cd aQ l A)/\List.length l - y<List.length l - x/\D+(1:Int)=(↑y:Int)/\C else True/\(-1:Int)=cd aQ l A/\True:=by
 conv=>zeta
 have ln:=hl.len
 simp only [Int.toNat_natCast]
 refine ⟨⟨0,⟨Nat.zero_le _,by simp⟩,rfl,by trivial,by trivial,trivial⟩,?_⟩
 rintro k ⟨h1,h2⟩
 refine a6 (fun h=>?_) (fun h=>?_)
 ·replace h:=Xo h
  have hk:k < l.length:=by omega
  rw [bf l k (dfl .str) hk,cd] at h2
  refine ⟨by omega,a6 (fun c=>?_) (fun c=>?_)⟩
  ·have c:aQ (l.getD k (dfl .str))=false:=by simpa using c
   rw [c,if_neg Bool.false_ne_true] at h2
   rw [←h2]
   exact ⟨trivial,rfl,trivial⟩
  ·have c:aQ (l.getD k (dfl .str))=true:=by simpa using c
   rw [if_pos c] at h2
   refine ⟨cp hk ln,k+1,⟨by omega,h2⟩,by omega,by omega,by trivial,by trivial,trivial⟩
 ·replace h:¬((k:Int) < (l.length:Int)):=fun e=>h (Xd e)
  have e:k=l.length:=by omega
  subst e
  rw [List.drop_length,cd] at h2
  rw [←h2]
  exact ⟨trivial,rfl,trivial⟩
theorem yj  (l:List Str)  :
  True/\decide ((0:Int)<=cd aQ l (0:Nat))=!List.all l aQ/\True:=by
 exact ⟨trivial,kM aQ l 0,trivial⟩
theorem E8  (l:List Str)  :
  True/\(!!List.all l aQ)=List.all l aQ/\True:=by
 exact ⟨trivial,Bool.not_not _,trivial⟩
theorem E9 (l:List Str) (ho:l.length *16<=140737488355328) :
  let A:=(List.mergeSort l fun (x y:Str)=>decide (x<=y));let B:=List.all l aQ && decide (List.Nodup l);List.length l*(16:Nat)<=(140737488355328:Nat)/\if List.all l aQ=true then List.length A=List.length A/\True/\decide ((↑(List.length (Lib.compact A)):Int)=(↑(List.length l):Int))=B/\True else True/\false=B/\True:=by
 conv=>zeta
 have hc:=kK l
 unfold fC at hc
 refine ⟨ho,a6 (fun h=>?_) (fun h=>?_)⟩
 ·refine ⟨by trivial,trivial,?_,trivial⟩
  rw [h,Bool.true_and,decide_eq_decide,←hc]
  omega
 ·have h:l.all aQ=false:=by simpa using h
  exact ⟨trivial,by rw [h];rfl,trivial⟩
theorem yk (n:Nat) (x:Shape)  (ho:sz x<=n) :
  sz x<=n/\True/\(!allS bV x)=!allS bV x/\True:=by
 exact ⟨ho,trivial,by trivial,trivial⟩
theorem yl (n:Nat) (l:List Shape)  (hl:Wf (.lst (.st .shape)) l) (ho:∀x∈l,sz x<=n) :
  let A:=allS bV;let B:=(0:Nat);let C:=(↑(List.length l):Int);let D:=l=l/\C=C/\True;let E:=dfl (Ty.st SN.shape);(∃(x:Nat),(x<=List.length l/\cd A (List.drop x l) x=cd A l B)/\(0:Int)=(↑x:Int)/\D)/\∀(x:Nat),let F:=(↑x:Int);let G:=List.getD l (Int.toNat F) E;x<=List.length l/\cd A (List.drop x l) x=cd A l B→if decide (F<C)=true then ((0:Int)<=F/\F<C)/\sz G<=n/\if (!allS bV G)=true then True/\F=cd A l B/\True else inR IntKind.i64 (F+(1:Int))/\∃(y:Nat),(y<=List.length l/\cd A (List.drop y l) y=cd A l B)/\List.length l - y<List.length l - x/\F+(1:Int)=(↑y:Int)/\D else True/\(-1:Int)=cd A l B/\True:=by
 conv=>zeta
 have ln:=hl.len
 simp only [Int.toNat_natCast]
 refine ⟨⟨0,⟨Nat.zero_le _,by simp⟩,rfl,by trivial,by trivial,trivial⟩,?_⟩
 rintro k ⟨h1,h2⟩
 refine a6 (fun h=>?_) (fun h=>?_)
 ·replace h:=Xo h
  have hk:k < l.length:=by omega
  rw [bf l k (dfl (.st .shape)) hk,cd] at h2
  refine ⟨by omega,ho _ (eU l k _ hk),a6 (fun c=>?_) (fun c=>?_)⟩
  ·have c:(allS bV) (l.getD k (dfl (.st .shape)))=false:=by simpa using c
   rw [c,if_neg Bool.false_ne_true] at h2
   rw [←h2]
   exact ⟨trivial,rfl,trivial⟩
  ·have c:(allS bV) (l.getD k (dfl (.st .shape)))=true:=by simpa using c
   rw [if_pos c] at h2
   refine ⟨cp hk ln,k+1,⟨by omega,h2⟩,by omega,by omega,by trivial,by trivial,trivial⟩
 ·replace h:¬((k:Int) < (l.length:Int)):=fun e=>h (Xd e)
  have e:k=l.length:=by omega
  subst e
  rw [List.drop_length,cd] at h2
  rw [←h2]
  exact ⟨trivial,rfl,trivial⟩
theorem ym (n:Nat) (l:List Shape)  (ho:∀x∈l,sz x<=n) :
  (∀(x:Shape),x∈l→sz x<=n)/\True/\decide ((0:Int)<=cd (allS bV) l (0:Nat))=!List.all l (allS bV)/\True:=by
 exact ⟨ho,trivial,kM (allS bV) l 0,trivial⟩
theorem Ea (n:Nat) (l:List Shape)  (ho:∀x∈l,sz x<=n) :
  (∀(x:Shape),x∈l→sz x<=n)/\True/\(!!List.all l (allS bV))=List.all l (allS bV)/\True:=by
 exact ⟨ho,trivial,Bool.not_not _,trivial⟩
theorem FN (n:Nat) (s:Shape) (ho:sz s<=n+1) :
  if (!decide (s.kind=(10:Int)))=true then (∀(x:Shape),x∈s.parts→sz x<=n)/\True/\List.all s.parts (allS bV)=allS bV s/\True else True/\false=allS bV s/\True:=by
 have e0:allS bV s=(bV s && s.parts.all (allS bV)):=by rw [tO,vE]
 have h0:=zR s
 have hm:∀x∈s.parts,sz x<=n:=fun x hx=>by have:=tN hx;omega
 rw [e0]
 refine a6 (fun h=>?_) (fun h=>?_)
 ·have h:bV s=true:=h
  rw [h,Bool.true_and]
  exact ⟨hm,trivial,rfl,trivial⟩
 ·have h:bV s=false:=by simpa [bV] using h
  rw [h]
  exact ⟨trivial,rfl,trivial⟩
theorem Br (s:Shape)  :
  let A:=(decide (dO s=(0:Int)) && allS bV s);if decide (dO s=(0:Int))=true then sz s<=(400:Nat)/\True/\allS bV s=A/\True else True/\false=A/\True:=by
 conv=>zeta
 refine a6 (fun h=>?_) (fun h=>?_)
 ·have h:dO s=0:=by simpa using h
  refine ⟨?_,trivial,by simp [h],trivial⟩
  unfold dO at h
  by_cases c:400 < sz s
  ·rw [if_pos c] at h;exact absurd h (by decide)
  ·omega
 ·have h:¬dO s=0:=by simpa using h
  exact ⟨trivial,by simp [h],trivial⟩
theorem GO (t:Trm)  :
  let A:=(↑(List.length t.names):Int);let B:=(↑(List.length t.vars):Int);let C:=(↑(List.length t.shapes):Int);let D:=(↑(List.length t.parts):Int);True/\A=A/\B=B/\C=C/\D=D/\True:=by
 conv=>zeta
 exact Xr
theorem Eb (s:Str) (hs:Wf .str s) :
  let A:=aB s;let B:=(↑(List.length A):Int);let C:=s=s/\aB s=aB s/\B=B/\True;let D:=dfl (Ty.int IntKind.u8);let E:=(1:Int);(∃(x:Nat),(x<=List.length s/\List.all s iF=List.all (List.drop x s) iF)/\(0:Int)=(↑x:Int)/\C)/\∀(x:Nat),let F:=(↑x:Int);let G:=Int.toNat F;let H:=inR IntKind.i64 (F+E)/\∃(y:Nat),(y<=List.length s/\List.all s iF=List.all (List.drop y s) iF)/\List.length s - y<List.length s - x/\F+E=(↑y:Int)/\C;x<=List.length s/\List.all s iF=List.all (List.drop x s) iF→if decide (F<B)=true then ((0:Int)<=F/\F<B)/\if decide (List.getD A G D<(32:Int))=true then if (!decide (List.getD A G D=(10:Int)))=true then if (!decide (List.getD A G D=(9:Int)))=true then True/\false=qI s/\True else H else H else H else True/\Option.isNone (cu s)=qI s/\True:=by
 conv=>zeta
 have ln:=hs.str
 have hbl:(aB s).length=s.length:=List.length_map _
 simp only [hbl,Int.toNat_natCast]
 refine ⟨⟨0,⟨Nat.zero_le _,rfl⟩,?_⟩,?_⟩
 ·exact Xr
 rintro k ⟨h1,h2⟩
 refine a6 (fun h=>?_) (fun h=>?_)
 ·have hk:k < s.length:=by have:=Xo h;omega
  rw [bf s k 0 hk,List.all_cons] at h2
  have hq:=Bc (s.getD k 0)
  simp only [vU s k hk]
  have yes:¬(bI (s.getD k 0) < 32/\bI (s.getD k 0)≠10/\bI (s.getD k 0)≠9)→s.all iF=(s.drop (k+1)).all iF:=fun e=>by
   have:iF (s.getD k 0)=true:=by
    cases hh:iF (s.getD k 0) with
    | true=>rfl
    | false=>exact absurd (hq.1 hh) e
   rw [h2,this,Bool.true_and]
  refine ⟨⟨by omega,by omega⟩,?_⟩
  repeat' (refine a6 (fun _=>?_) (fun _=>?_))
  all_goals (simp only [decide_eq_true_eq,Bool.not_eq_true',decide_eq_false_iff_not] at *)
  all_goals first
   | (refine ⟨trivial,?_,trivial⟩;unfold qI;rw [h2,hq.2 (by omega),Bool.false_and,Bool.false_and])
   | (refine ⟨cp hk ln,k+1,⟨by omega,yes (by omega)⟩,by omega,by omega,?_⟩;exact Xr)
 ·have hk:k=s.length:=by
   have:¬((k:Int) < (s.length:Int)):=fun e=>h (Xd e)
   omega
  refine ⟨trivial,?_,trivial⟩
  unfold qI
  rw [h2,hk,List.drop_length]
  rfl
theorem vZ  (x:Shape)  :
  True/\(!(decide (dO x=(0:Int)) && allS bV x))=!cW x/\True:=by
 exact ⟨trivial,by trivial,trivial⟩
theorem w4  (l:List Shape)  (hl:Wf (.lst (.st .shape)) l) :
  let A:=(0:Nat);let B:=(↑(List.length l):Int);let C:=l=l/\B=B/\True;(∃(x:Nat),(x<=List.length l/\cd cW (List.drop x l) x=cd cW l A)/\(0:Int)=(↑x:Int)/\C)/\∀(x:Nat),let D:=(↑x:Int);x<=List.length l/\cd cW (List.drop x l) x=cd cW l A→if decide (D<B)=true then ((0:Int)<=D/\D<B)/\if (!cW (List.getD l (Int.toNat D) (dfl (Ty.st SN.shape))))=true then True/\D=cd cW l A/\True else inR IntKind.i64 (D+(1:Int))/\∃(y:Nat),(y<=List.length l/\cd cW (List.drop y l) y=cd cW l A)/\List.length l - y<List.length l - x/\D+(1:Int)=(↑y:Int)/\C else True/\(-1:Int)=cd cW l A/\True:=by
 conv=>zeta
 have ln:=hl.len
 simp only [Int.toNat_natCast]
 refine ⟨⟨0,⟨Nat.zero_le _,by simp⟩,rfl,by trivial,by trivial,trivial⟩,?_⟩
 rintro k ⟨h1,h2⟩
 refine a6 (fun h=>?_) (fun h=>?_)
 ·replace h:=Xo h
  have hk:k < l.length:=by omega
  rw [bf l k (dfl (.st .shape)) hk,cd] at h2
  refine ⟨by omega,a6 (fun c=>?_) (fun c=>?_)⟩
  ·have c:cW (l.getD k (dfl (.st .shape)))=false:=by simpa using c
   rw [c,if_neg Bool.false_ne_true] at h2
   rw [←h2]
   exact ⟨trivial,rfl,trivial⟩
  ·have c:cW (l.getD k (dfl (.st .shape)))=true:=by simpa using c
   rw [if_pos c] at h2
   refine ⟨cp hk ln,k+1,⟨by omega,h2⟩,by omega,by omega,by trivial,by trivial,trivial⟩
 ·replace h:¬((k:Int) < (l.length:Int)):=fun e=>h (Xd e)
  have e:k=l.length:=by omega
  subst e
  rw [List.drop_length,cd] at h2
  rw [←h2]
  exact ⟨trivial,rfl,trivial⟩
theorem w5  (l:List Shape)  :
  True/\decide ((0:Int)<=cd cW l (0:Nat))=!List.all l cW/\True:=by
 exact ⟨trivial,kM cW l 0,trivial⟩
theorem Bt  (l:List Shape)  :
  True/\(!!List.all l cW)=List.all l cW/\True:=by
 exact ⟨trivial,Bool.not_not _,trivial⟩
theorem Ec (t:Trm) (ht:Wf (.st .term) t) (ho:t.names.length<=1000000) :
  let A:=(0:Int);let B:=(↑(List.length t.names):Int);let C:=(↑(List.length t.vars):Int);let D:=(↑(List.length t.shapes):Int);let E:=(↑(List.length t.parts):Int);let F:=True;let G:=t=t/\false=false/\t=t/\B=B/\C=C/\D=D/\E=E/\F;let H:=true=!oL t/\G;let I:=(1:Int);let J:=(!List.all t.shapes cW)=!oL t/\G;let K:=if (!decide (t.pkg=[]))=true then if (!decide (t.kind=(5:Int)))=true then H else J else J;let L:=F/\false=bi t/\F;let M:=F/\(decide (B=A) && (decide (C=A) && (decide (D=A) && (decide (E=A) && true))))=bi t/\F;let N:=if decide (t.name=[])=true then M else L;let O:=List.length t.names*(16:Nat)<=(140737488355328:Nat);let P:=decide (E=I) && true;let Q:=decide (E=E) && true;let R:=F/\(decide (B=A) && (decide (C=A) && (decide (D=A) && P)))=bi t/\F;let S:=if aQ t.name=true then R else L;let T:=inR IntKind.i64 (B+I);let U:=if dq t.name=true then R else L;(if decide (t.pos<A)=true then H else if (!decide (t.n=A))=true then if (!decide (t.kind=I))=true then H else K else K)/\if (!oL t)=true then L else if decide (t.kind=I)=true then if decide (t.name=[])=true then if decide (A<=t.n)=true then if decide (t.n<=(999999999999999:Int))=true then M else L else L else L else if decide (t.kind=(2:Int))=true then if qI t.name=true then M else L else if decide (t.kind=(3:Int))=true then N else if decide (t.kind=(4:Int))=true then N else if decide (t.kind=(5:Int))=true then if aQ t.name=true then if decide (t.pkg=[])=true then M else if aQ t.pkg=true then M else L else L else if decide (t.kind=(6:Int))=true then if decide (t.name=[])=true then if decide (B<=(4096:Int))=true then O/\if (List.all t.names aQ && decide (List.Nodup t.names))=true then F/\(decide (B=B) && (decide (C=A) && (decide (D=B) && P)))=bi t/\F else L else L else L else if decide (t.kind=(7:Int))=true then if decide (t.name=[])=true then if decide (A<E)=true then F/\(decide (B=A) && (decide (C=A) && (decide (D=A) && Q)))=bi t/\F else L else L else if decide (t.kind=(8:Int))=true then if decide (t.name=[])=true then O/\if (List.all t.names aQ && decide (List.Nodup t.names))=true then F/\(decide (B=B) && (decide (C=A) && (decide (D=A) && (decide (E=B) && true))))=bi t/\F else L else L else if decide (t.kind=(9:Int))=true then S else if decide (t.kind=(10:Int))=true then S else if decide (t.kind=(11:Int))=true then if decide (t.name=[])=true then F/\(decide (B=A) && (decide (C=A) && (decide (D=I) && Q)))=bi t/\F else L else if decide (t.kind=(12:Int))=true then if decide (t.name=[])=true then F/\(decide (B=A) && (decide (C=A) && (decide (D=I) && (decide (E=(3:Int)) && true))))=bi t/\F else L else if decide (t.kind=(13:Int))=true then if decide (t.name=[])=true then O/\if (List.all t.names aQ && decide (List.Nodup t.names))=true then if List.all t.vars aQ=true then T/\T/\F/\(decide (B=B) && (decide (C=B) && (decide (D=B+I) && (decide (E=B+I) && true))))=bi t/\F else L else L else L else if decide (t.kind=(14:Int))=true then if aQ t.name=true then F/\(decide (B=A) && (decide (C=A) && (decide (D=A) && (decide (E=(2:Int)) && true))))=bi t/\F else L else if decide (t.kind=(15:Int))=true then if decide (t.name=[])=true then F/\(decide (B=A) && (decide (C=A) && (decide (D=I) && P)))=bi t/\F else L else if decide (t.kind=(16:Int))=true then U else if decide (t.kind=(17:Int))=true then U else L:=by
 conv=>zeta
 refine ⟨?_,a6 (fun h=>?_) (fun h=>?_)⟩
 ·unfold oL
  repeat' (refine a6 (fun _=>?_) (fun _=>?_))
  all_goals simp_all
 ·have h:oL t=false:=by simpa using h
  unfold bi
  rw [h]
  exact ⟨trivial,rfl,trivial⟩
 have h:oL t=true:=by simpa using h
 have e0:bi t=DI t:=by unfold bi;rw [h,Bool.true_and]
 rw [e0]
 clear h e0
 unfold DI iG u9
 simp only [dnZ,dn1,dn2,dn3,dnN,dnS,dnL,dnP]
 generalize t.names.all aQ=na
 generalize t.vars.all aQ=va
 repeat' (first | refine a6 (fun _=>?_) (fun _=>?_) | refine ⟨by omega,?_⟩ | refine ⟨an (by omega) (by omega),?_⟩ | fail)
 all_goals (refine ⟨trivial,?_,trivial⟩;try simp_all)
 all_goals first | (simp only [Bool.and_assoc];done) | (intros;omega)
theorem w6 (n:Nat) (x:Trm)  (ho:szT x<=n/\cC x=true) :
  (szT x<=n/\cC x=true)/\True/\(!allT bi x)=!allT bi x/\True:=by
 exact ⟨ho,trivial,by trivial,trivial⟩
theorem w7 (n:Nat) (l:List Trm)  (hl:Wf (.lst (.st .term)) l) (ho:∀x∈l,szT x<=n/\cC x=true) :
  let A:=allT bi;let B:=(0:Nat);let C:=(↑(List.length l):Int);let D:=l=l/\C=C/\True;let E:=dfl (Ty.st SN.term);(∃(x:Nat),(x<=List.length l/\cd A (List.drop x l) x=cd A l B)/\(0:Int)=(↑x:Int)/\D)/\∀(x:Nat),let F:=(↑x:Int);let G:=List.getD l (Int.toNat F) E;x<=List.length l/\cd A (List.drop x l) x=cd A l B→if decide (F<C)=true then ((0:Int)<=F/\F<C)/\(szT G<=n/\cC G=true)/\if (!allT bi G)=true then True/\F=cd A l B/\True else inR IntKind.i64 (F+(1:Int))/\∃(y:Nat),(y<=List.length l/\cd A (List.drop y l) y=cd A l B)/\List.length l - y<List.length l - x/\F+(1:Int)=(↑y:Int)/\D else True/\(-1:Int)=cd A l B/\True:=by
 conv=>zeta
 have ln:=hl.len
 simp only [Int.toNat_natCast]
 refine ⟨⟨0,⟨Nat.zero_le _,by simp⟩,rfl,by trivial,by trivial,trivial⟩,?_⟩
 rintro k ⟨h1,h2⟩
 refine a6 (fun h=>?_) (fun h=>?_)
 ·replace h:=Xo h
  have hk:k < l.length:=by omega
  rw [bf l k (dfl (.st .term)) hk,cd] at h2
  refine ⟨by omega,ho _ (eU l k _ hk),a6 (fun c=>?_) (fun c=>?_)⟩
  ·have c:(allT bi) (l.getD k (dfl (.st .term)))=false:=by simpa using c
   rw [c,if_neg Bool.false_ne_true] at h2
   rw [←h2]
   exact ⟨trivial,rfl,trivial⟩
  ·have c:(allT bi) (l.getD k (dfl (.st .term)))=true:=by simpa using c
   rw [if_pos c] at h2
   refine ⟨cp hk ln,k+1,⟨by omega,h2⟩,by omega,by omega,by trivial,by trivial,trivial⟩
 ·replace h:¬((k:Int) < (l.length:Int)):=fun e=>h (Xd e)
  have e:k=l.length:=by omega
  subst e
  rw [List.drop_length,cd] at h2
  rw [←h2]
  exact ⟨trivial,rfl,trivial⟩
theorem w8 (n:Nat) (l:List Trm)  (ho:∀x∈l,szT x<=n/\cC x=true) :
  (∀(x:Trm),x∈l→szT x<=n/\cC x=true)/\True/\decide ((0:Int)<=cd (allT bi) l (0:Nat))=!List.all l (allT bi)/\True:=by
 exact ⟨ho,trivial,kM (allT bi) l 0,trivial⟩
theorem Bu (n:Nat) (l:List Trm)  (ho:∀x∈l,szT x<=n/\cC x=true) :
  (∀(x:Trm),x∈l→szT x<=n/\cC x=true)/\True/\(!!List.all l (allT bi))=List.all l (allT bi)/\True:=by
 exact ⟨ho,trivial,Bool.not_not _,trivial⟩
theorem Bv (n:Nat) (t:Trm) (ho:szT t<=n+1/\cC t=true) :
  List.length t.names<=(1000000:Nat)/\if bi t=true then (∀(x:Trm),x∈t.parts→szT x<=n/\cC x=true)/\True/\List.all t.parts (allT bi)=allT bi t/\True else True/\false=allT bi t/\True:=by
 obtain ⟨h1,h2⟩:=ho
 have e0:allT bi t=(bi t && t.parts.all (allT bi)):=by rw [po,lm]
 have h0:=tW t
 rw [e0]
 refine ⟨y6 h2,a6 (fun h=>?_) (fun h=>?_)⟩
 ·rw [h,Bool.true_and]
  exact ⟨fun x hx=>⟨by have:=ph hx;omega,Bb h2 hx⟩,trivial,rfl,trivial⟩
 ·have h:bi t=false:=by simpa using h
  rw [h]
  exact ⟨trivial,rfl,trivial⟩
theorem Bw (x:Trm) (ho:cC x=true) :
  let A:=szT x<=szT x;let B:=(4096:Int);let C:=True;(A/\(0:Int)<=B/\B<=(1000000:Int))/\if decide (B<(countT x B).1)=true then C/\(3:Int)=ff x/\C else if decide ((40:Int)<(countT x B).2)=true then C/\(91:Int)=ff x/\C else (A/\cC x=true)/\if (!allT bi x)=true then C/\(80:Int)=ff x/\C else C/\(0:Int)=ff x/\C:=by
 conv=>zeta
 refine ⟨⟨Nat.le_refl _,by omega,by omega⟩,a6 (fun h=>?_) (fun h=>?_)⟩
 ·replace h:=Xo h
  unfold ff
  rw [if_pos h]
  exact ⟨trivial,rfl,trivial⟩
 have h:¬_:=fun e=>h (Xd e)
 have e1:ff x=if 40 < (countT x 4096).2 then 91 else if allT bi x=true then 0 else 80:=by unfold ff;rw [if_neg h]
 refine a6 (fun k=>?_) (fun k=>?_)
 ·rw [if_pos (Xo k)] at e1
  rw [e1]
  exact ⟨trivial,rfl,trivial⟩
 rw [if_neg (fun e=>k (Xd e))] at e1
 refine ⟨⟨Nat.le_refl _,ho⟩,a6 (fun j=>?_) (fun j=>?_)⟩
 ·have j:allT bi x=false:=by simpa using j
  rw [j,if_neg Bool.false_ne_true] at e1
  rw [e1]
  exact ⟨trivial,rfl,trivial⟩
 ·have j:allT bi x=true:=by simpa using j
  rw [if_pos j] at e1
  rw [e1]
  exact ⟨trivial,rfl,trivial⟩
theorem Ed (s:Str) (p:Int) (n:Nat) (k:Int) (ho:s.length<=4096/\0<=p/\p<=(s.length:Int)/\0<=k/\k<=2) :
  let A:=p+k;let B:=inR IntKind.i64 A;let C:=(↑(List.length s):Int);let D:=s=s/\p=p/\n=n/\True;B/\if decide (C<=p+k)=true then True/\(0:Int)=bAt s A/\D else B/\((0:Int)<=p+k/\p+k<C)/\True/\(↑(UInt8.toNat (List.getD s (Int.toNat A) (0:UInt8))):Int)=bAt s A/\D:=by
 conv=>zeta
 obtain ⟨h1,h2,h3,h4,h5⟩:=ho
 refine ⟨an (by omega) (by omega),a6 (fun h=>?_) (fun h=>?_)⟩
 ·replace h:=Xo h
  refine ⟨trivial,(pl h).symm,?_⟩
  exact Xr
 ·replace h:¬(s.length:Int)<=p+k:=fun e=>h (Xd e)
  refine ⟨an (by omega) (by omega),⟨by omega,by omega⟩,trivial,(jQ (by omega)).symm,?_⟩
  exact Xr
theorem FO (c:Int)  :
  let A:=True/\true=aD c/\True;if bq c=true then A else if bw c=true then A else if aK c=true then A else if decide (c=(46:Int))=true then A else True/\decide (c=(45:Int))=aD c/\True:=by
 conv=>zeta
 unfold aD;cases bq c <;> cases bw c <;> cases aK c <;> simp
 by_cases a:c=46 <;> simp [a]
theorem Ee (c:Int)  :
  True/\(!decide (c=(10:Int)))=bE c/\True:=by
 unfold bE;simp
theorem Bx (c:Int)  :
  let A:=True/\false=aI c/\True;if decide ((32:Int)<=c)=true then if (!decide (c=(34:Int)))=true then True/\(!decide (c=(92:Int)))=aI c/\True else A else A:=by
 conv=>zeta
 unfold aI;by_cases a:(32:Int)<=c <;> by_cases b:c=34 <;> by_cases d:c=92 <;> simp [a,b,d]
theorem By (s:Str) (p:Int) (n:Nat) (ho:s.length<=4096/\0<=p/\p<=(s.length:Int)) :
  let A:=(↑(List.length s):Int);let B:=jk UInt8=jk UInt8;let C:=n=n/\True;let D:=(0:Int)<=p;let E:=(↑(ae bp s p):Int);(∃(x:Nat),let F:=(↑x:Int);(p+F<=A/\ae bp s p=x+ae bp s (p+F))/\B/\p=p/\s=s/\p=p+F/\C)/\∀(x:Nat),let F:=(↑x:Int);let G:=Int.toNat (p+F);let H:=(D/\p<=p+F/\p+F<=A)/\True/\List.drop (Int.toNat p) (List.take G s)=cut s p (p+E)/\s=s/\p+F=p+E/\C;p+F<=A/\ae bp s p=x+ae bp s (p+F)→if decide (p+F<A)=true then ((0:Int)<=p+F/\p+F<A)/\if bp (↑(UInt8.toNat (List.getD s G (0:UInt8))):Int)=true then inR IntKind.i64 (p+F+(1:Int))/\∃(y:Nat),let I:=(↑y:Int);(p+I<=A/\ae bp s p=y+ae bp s (p+I))/\List.length s - y<List.length s - x/\B/\p=p/\s=s/\p+F+(1:Int)=p+I/\C else H else H:=by
 conv=>zeta
 obtain ⟨a1,a2,a3⟩:=ho
 have fin:∀k:Nat,p+(k:Int)<=(s.length:Int)→ae bp s p=k→((0:Int)<=p/\p<=p+(k:Int)/\p+(k:Int)<=(s.length:Int))/\True/\
   List.drop (Int.toNat p) (List.take (Int.toNat (p+(k:Int))) s)=cut s p (p+(ae bp s p:Int))/\s=s/\p+(k:Int)=p+(ae bp s p:Int)/\n=n/\True:=by
  intro k h1 h2
  refine ⟨⟨by omega,by omega,by omega⟩,trivial,?_,rfl,by omega,rfl,trivial⟩
  rw [h2]
  rfl
 refine ⟨⟨0,⟨by omega,by simp⟩,rfl,rfl,rfl,by simp,rfl,trivial⟩,?_⟩
 rintro k ⟨h1,h2⟩
 refine a6 (fun h=>?_) (fun h=>?_)
 ·replace h:=Xo h
  refine ⟨⟨by omega,h⟩,a6 (fun c=>?_) (fun c=>?_)⟩
  ·have e0:=bT (pr:=bp) (s:=s) (a:=p+(k:Int)) (by omega) h c
   rw [e0] at h2
   refine ⟨an (by omega) (by omega),k+1,⟨by omega,?_⟩,by omega,rfl,rfl,rfl,by omega,rfl,trivial⟩
   have e:p+((k+1:Nat):Int)=p+(k:Int)+1:=by omega
   rw [e]
   omega
  ·have e0:=fq (pr:=bp) (s:=s) (a:=p+(k:Int)) (by omega) h (Bool.eq_false_iff.2 c)
   rw [e0] at h2
   exact fin k h1 h2
 ·replace h:¬(p+(k:Int) < (s.length:Int)):=fun e=>h (Xd e)
  have e0:=gd (pr:=bp) (s:=s) (a:=p+(k:Int)) (by omega)
  rw [e0] at h2
  exact fin k h1 h2
theorem Bz (s:Str) (p:Int) (n:Nat) (ho:s.length<=4096/\0<=p/\p<=(s.length:Int)) :
  let A:=(↑(List.length s):Int);let B:=jk UInt8=jk UInt8;let C:=n=n/\True;let D:=(0:Int)<=p;let E:=(↑(ae aD s p):Int);(∃(x:Nat),let F:=(↑x:Int);(p+F<=A/\ae aD s p=x+ae aD s (p+F))/\B/\p=p/\s=s/\p=p+F/\C)/\∀(x:Nat),let F:=(↑x:Int);let G:=Int.toNat (p+F);let H:=(D/\p<=p+F/\p+F<=A)/\True/\List.drop (Int.toNat p) (List.take G s)=cut s p (p+E)/\s=s/\p+F=p+E/\C;p+F<=A/\ae aD s p=x+ae aD s (p+F)→if decide (p+F<A)=true then ((0:Int)<=p+F/\p+F<A)/\if aD (↑(UInt8.toNat (List.getD s G (0:UInt8))):Int)=true then inR IntKind.i64 (p+F+(1:Int))/\∃(y:Nat),let I:=(↑y:Int);(p+I<=A/\ae aD s p=y+ae aD s (p+I))/\List.length s - y<List.length s - x/\B/\p=p/\s=s/\p+F+(1:Int)=p+I/\C else H else H:=by
 conv=>zeta
 obtain ⟨a1,a2,a3⟩:=ho
 have fin:∀k:Nat,p+(k:Int)<=(s.length:Int)→ae aD s p=k→((0:Int)<=p/\p<=p+(k:Int)/\p+(k:Int)<=(s.length:Int))/\True/\
   List.drop (Int.toNat p) (List.take (Int.toNat (p+(k:Int))) s)=cut s p (p+(ae aD s p:Int))/\s=s/\p+(k:Int)=p+(ae aD s p:Int)/\n=n/\True:=by
  intro k h1 h2
  refine ⟨⟨by omega,by omega,by omega⟩,trivial,?_,rfl,by omega,rfl,trivial⟩
  rw [h2]
  rfl
 refine ⟨⟨0,⟨by omega,by simp⟩,rfl,rfl,rfl,by simp,rfl,trivial⟩,?_⟩
 rintro k ⟨h1,h2⟩
 refine a6 (fun h=>?_) (fun h=>?_)
 ·replace h:=Xo h
  refine ⟨⟨by omega,h⟩,a6 (fun c=>?_) (fun c=>?_)⟩
  ·have e0:=bT (pr:=aD) (s:=s) (a:=p+(k:Int)) (by omega) h c
   rw [e0] at h2
   refine ⟨an (by omega) (by omega),k+1,⟨by omega,?_⟩,by omega,rfl,rfl,rfl,by omega,rfl,trivial⟩
   have e:p+((k+1:Nat):Int)=p+(k:Int)+1:=by omega
   rw [e]
   omega
  ·have e0:=fq (pr:=aD) (s:=s) (a:=p+(k:Int)) (by omega) h (Bool.eq_false_iff.2 c)
   rw [e0] at h2
   exact fin k h1 h2
 ·replace h:¬(p+(k:Int) < (s.length:Int)):=fun e=>h (Xd e)
  have e0:=gd (pr:=aD) (s:=s) (a:=p+(k:Int)) (by omega)
  rw [e0] at h2
  exact fin k h1 h2
theorem BA (s:Str) (p:Int) (n:Nat) (ho:s.length<=4096/\0<=p/\p<=(s.length:Int)) :
  let A:=(↑(List.length s):Int);let B:=jk UInt8=jk UInt8;let C:=n=n/\True;let D:=(0:Int)<=p;let E:=(↑(ae bE s p):Int);(∃(x:Nat),let F:=(↑x:Int);(p+F<=A/\ae bE s p=x+ae bE s (p+F))/\B/\p=p/\s=s/\p=p+F/\C)/\∀(x:Nat),let F:=(↑x:Int);let G:=Int.toNat (p+F);let H:=(D/\p<=p+F/\p+F<=A)/\True/\List.drop (Int.toNat p) (List.take G s)=cut s p (p+E)/\s=s/\p+F=p+E/\C;p+F<=A/\ae bE s p=x+ae bE s (p+F)→if decide (p+F<A)=true then ((0:Int)<=p+F/\p+F<A)/\if bE (↑(UInt8.toNat (List.getD s G (0:UInt8))):Int)=true then inR IntKind.i64 (p+F+(1:Int))/\∃(y:Nat),let I:=(↑y:Int);(p+I<=A/\ae bE s p=y+ae bE s (p+I))/\List.length s - y<List.length s - x/\B/\p=p/\s=s/\p+F+(1:Int)=p+I/\C else H else H:=by
 conv=>zeta
 obtain ⟨a1,a2,a3⟩:=ho
 have fin:∀k:Nat,p+(k:Int)<=(s.length:Int)→ae bE s p=k→((0:Int)<=p/\p<=p+(k:Int)/\p+(k:Int)<=(s.length:Int))/\True/\
   List.drop (Int.toNat p) (List.take (Int.toNat (p+(k:Int))) s)=cut s p (p+(ae bE s p:Int))/\s=s/\p+(k:Int)=p+(ae bE s p:Int)/\n=n/\True:=by
  intro k h1 h2
  refine ⟨⟨by omega,by omega,by omega⟩,trivial,?_,rfl,by omega,rfl,trivial⟩
  rw [h2]
  rfl
 refine ⟨⟨0,⟨by omega,by simp⟩,rfl,rfl,rfl,by simp,rfl,trivial⟩,?_⟩
 rintro k ⟨h1,h2⟩
 refine a6 (fun h=>?_) (fun h=>?_)
 ·replace h:=Xo h
  refine ⟨⟨by omega,h⟩,a6 (fun c=>?_) (fun c=>?_)⟩
  ·have e0:=bT (pr:=bE) (s:=s) (a:=p+(k:Int)) (by omega) h c
   rw [e0] at h2
   refine ⟨an (by omega) (by omega),k+1,⟨by omega,?_⟩,by omega,rfl,rfl,rfl,by omega,rfl,trivial⟩
   have e:p+((k+1:Nat):Int)=p+(k:Int)+1:=by omega
   rw [e]
   omega
  ·have e0:=fq (pr:=bE) (s:=s) (a:=p+(k:Int)) (by omega) h (Bool.eq_false_iff.2 c)
   rw [e0] at h2
   exact fin k h1 h2
 ·replace h:¬(p+(k:Int) < (s.length:Int)):=fun e=>h (Xd e)
  have e0:=gd (pr:=bE) (s:=s) (a:=p+(k:Int)) (by omega)
  rw [e0] at h2
  exact fin k h1 h2
theorem BB (s:Str) (p:Int) (n:Nat) (ho:s.length<=4096/\0<=p/\p<=(s.length:Int)) :
  let A:=(↑(List.length s):Int);let B:=jk UInt8=jk UInt8;let C:=n=n/\True;let D:=(0:Int)<=p;let E:=(↑(ae aI s p):Int);(∃(x:Nat),let F:=(↑x:Int);(p+F<=A/\ae aI s p=x+ae aI s (p+F))/\B/\p=p/\s=s/\p=p+F/\C)/\∀(x:Nat),let F:=(↑x:Int);let G:=Int.toNat (p+F);let H:=(D/\p<=p+F/\p+F<=A)/\True/\List.drop (Int.toNat p) (List.take G s)=cut s p (p+E)/\s=s/\p+F=p+E/\C;p+F<=A/\ae aI s p=x+ae aI s (p+F)→if decide (p+F<A)=true then ((0:Int)<=p+F/\p+F<A)/\if aI (↑(UInt8.toNat (List.getD s G (0:UInt8))):Int)=true then inR IntKind.i64 (p+F+(1:Int))/\∃(y:Nat),let I:=(↑y:Int);(p+I<=A/\ae aI s p=y+ae aI s (p+I))/\List.length s - y<List.length s - x/\B/\p=p/\s=s/\p+F+(1:Int)=p+I/\C else H else H:=by
 conv=>zeta
 obtain ⟨a1,a2,a3⟩:=ho
 have fin:∀k:Nat,p+(k:Int)<=(s.length:Int)→ae aI s p=k→((0:Int)<=p/\p<=p+(k:Int)/\p+(k:Int)<=(s.length:Int))/\True/\
   List.drop (Int.toNat p) (List.take (Int.toNat (p+(k:Int))) s)=cut s p (p+(ae aI s p:Int))/\s=s/\p+(k:Int)=p+(ae aI s p:Int)/\n=n/\True:=by
  intro k h1 h2
  refine ⟨⟨by omega,by omega,by omega⟩,trivial,?_,rfl,by omega,rfl,trivial⟩
  rw [h2]
  rfl
 refine ⟨⟨0,⟨by omega,by simp⟩,rfl,rfl,rfl,by simp,rfl,trivial⟩,?_⟩
 rintro k ⟨h1,h2⟩
 refine a6 (fun h=>?_) (fun h=>?_)
 ·replace h:=Xo h
  refine ⟨⟨by omega,h⟩,a6 (fun c=>?_) (fun c=>?_)⟩
  ·have e0:=bT (pr:=aI) (s:=s) (a:=p+(k:Int)) (by omega) h c
   rw [e0] at h2
   refine ⟨an (by omega) (by omega),k+1,⟨by omega,?_⟩,by omega,rfl,rfl,rfl,by omega,rfl,trivial⟩
   have e:p+((k+1:Nat):Int)=p+(k:Int)+1:=by omega
   rw [e]
   omega
  ·have e0:=fq (pr:=aI) (s:=s) (a:=p+(k:Int)) (by omega) h (Bool.eq_false_iff.2 c)
   rw [e0] at h2
   exact fin k h1 h2
 ·replace h:¬(p+(k:Int) < (s.length:Int)):=fun e=>h (Xd e)
  have e0:=gd (pr:=aI) (s:=s) (a:=p+(k:Int)) (by omega)
  rw [e0] at h2
  exact fin k h1 h2
theorem BC (s:Str) (ho:s.length<=4096) :
  let A:=(0:Int);let B:=(↑(List.length s):Int);let C:=(8:Nat);let D:=True;let E:=A=A/\A=A/\D;let F:=List.take (Int.toNat B) s;let G:=u5 s;let H:=(30:Int)=G.err;let I:=D/\A=G.err/\A=G.pos/\D;let J:=(140737488355328:Nat);(A<=B/\B*(↑C:Int)<=(140737488355328:Int))/\(∃(x:Nat × List Int),(x.1<=List.length s/\List.length x.2<=x.1/\cu s=fI s x.1)/\[]=x.2/\A=(↑x.1:Int)/\s=s/\(0:Nat)=List.length x.2/\E)/\∀(x:Nat × List Int),let K:=(↑x.1:Int);let L:=gU (List.drop (Int.toNat K) F);let M:=(↑L.1:Int);let N:=(↑L.2:Int);let O:=if decide (K<B)=true then D/\H/\K=G.pos/\D else I;let P:=inR IntKind.i64 M/\(List.length x.2=List.length x.2/\(List.length x.2+List.length [M])*C<=J)/\inR IntKind.i64 (K+N)/\∃(y:Nat × List Int),(y.1<=List.length s/\List.length y.2<=y.1/\cu s=fI s y.1)/\List.length s - y.1<List.length s - x.1/\x.2++[M]=y.2/\K+N=(↑y.1:Int)/\s=s/\List.length (x.2++[M])=List.length y.2/\E;x.1<=List.length s/\List.length x.2<=x.1/\cu s=fI s x.1→if decide (K<B)=true then (A<=K/\K<=B/\B<=B)/\if decide (M=(65533:Int))=true then if decide (N=(1:Int))=true then O else P else P else O:=by
 conv=>zeta
 refine ⟨⟨by omega,by omega⟩,⟨(0,[]),⟨Nat.zero_le _,Nat.le_refl _,rfl⟩,rfl,rfl,rfl,rfl,rfl,rfl,trivial⟩,?_⟩
 rintro ⟨k,xs⟩ ⟨h1,h2,h3⟩
 simp only [Int.toNat_natCast,List.take_length] at h1 h2 h3 ⊢
 refine a6 (fun h=>?_) (fun h=>?_)
 ·have hk:k < s.length:=by have:=Xo h;omega
  have hx:s.drop k≠[]:=by
   intro e
   have:=congrArg List.length e
   simp at this
   omega
  obtain ⟨g1,g2,g3,g4,g5⟩:=jp hx
  rw [List.length_drop] at g5
  refine ⟨⟨by omega,by omega,by omega⟩,a6 (fun c=>?_) (fun c=>?_)⟩
  ·replace c:=Xo c
   refine a6 (fun d=>?_) (fun d=>?_)
   ·replace d:=Xo d
    have hu:=g1.1 ⟨by omega,by omega⟩
    rw [nX hk hu] at h3
    rw [if_pos h]
    unfold u5
    rw [h3]
    exact ⟨trivial,rfl,rfl,trivial⟩
   ·have hd:¬((gU (s.drop k)).2:Int)=1:=fun e=>d (Xd e)
    have hu:ce (s.drop k)≠0:=by
     intro e
     have:=g1.2 e
     exact hd (by omega)
    have g6:=g2 hu
    have hs:=jS hk hu
    refine ⟨an (by omega) (by omega),⟨(by first | rfl | trivial),by simp only [List.length_singleton];omega⟩,an (by omega) (by omega),(k+(gU (s.drop k)).2,xs++[((gU (s.drop k)).1:Int)]),⟨by show k+_<=_;omega,by show (xs++[_]).length<=k+_;rw [List.length_append,List.length_singleton];omega,?_⟩,by show s.length - (k+_) < _;omega,(by first | rfl | trivial),by show (k:Int)+_=((k+_:Nat):Int);omega,(by first | rfl | trivial),(by first | rfl | trivial),(by first | rfl | trivial),(by first | rfl | trivial),trivial⟩
    show cu s=fI s (k+_)
    rw [h3,hs,g6]
  ·have hc:¬((gU (s.drop k)).1:Int)=65533:=fun e=>c (Xd e)
   have hu:ce (s.drop k)≠0:=by
    intro e
    have:=g1.2 e
    exact hc (by omega)
   have g6:=g2 hu
   have hs:=jS hk hu
   refine ⟨an (by omega) (by omega),⟨(by first | rfl | trivial),by simp only [List.length_singleton];omega⟩,an (by omega) (by omega),(k+(gU (s.drop k)).2,xs++[((gU (s.drop k)).1:Int)]),⟨by show k+_<=_;omega,by show (xs++[_]).length<=k+_;rw [List.length_append,List.length_singleton];omega,?_⟩,by show s.length - (k+_) < _;omega,(by first | rfl | trivial),by show (k:Int)+_=((k+_:Nat):Int);omega,(by first | rfl | trivial),(by first | rfl | trivial),(by first | rfl | trivial),(by first | rfl | trivial),trivial⟩
   show cu s=fI s (k+_)
   rw [h3,hs,g6]
 ·have hk:s.length<=k:=by
   have:¬((k:Int) < (s.length:Int)):=fun e=>h (Xd e)
   omega
  rw [nW hk] at h3
  rw [if_neg h]
  unfold u5
  rw [h3]
  exact ⟨trivial,rfl,rfl,trivial⟩
theorem yn (s:Str)  :
  if (!decide (s=[]))=true then ([48,49,50,51,52,53,54,55,56,57]:Str)=oU/\True/\decide (lS s=[])=bG s/\True else True/\false=bG s/\True:=by
 have e:∀l:Str,(l.all dL)=l.all fun c=>aK (bI c):=fun _=>rfl
 refine a6 (fun h=>?_) (fun h=>?_)
 ·refine ⟨rfl,trivial,?_,trivial⟩
  unfold bG
  rw [h,Bool.true_and,←e]
  exact Bool.eq_iff_iff.2 (decide_eq_true_iff.trans (sl s))
 ·refine ⟨trivial,?_,trivial⟩
  unfold bG
  rw [Bool.not_eq_true] at h
  rw [h,Bool.false_and]
end Go.AL.Seat
end
