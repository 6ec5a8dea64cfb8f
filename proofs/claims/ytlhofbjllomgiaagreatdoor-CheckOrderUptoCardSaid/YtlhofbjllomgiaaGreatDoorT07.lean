/- What the functions' conditions say, proved. Plain facts. The layer: Go code as conditions, and that they are sound. No condition. -/
import Derived.Test.YtlhofbjllomgiaaGreatDoorT06
import Derived.Below
import Derived.LoopIn
import Derived.LoopNIn
import Derived.OrdersIn
import Derived.OwnWalkIn
import Derived.RangeFuncIn
import Derived.RangeFuncLeaves
import Derived.RangeFuncSeq
import Derived.TacticsInMore
import Derived.Test.YtlhofbjllomgiaaGreatDoorProg
import Derived.WalkKit
set_option linter.all false
set_option maxRecDepth 100000
section
open Go Go.AL Go.Pd
namespace Go.AL.Seat
theorem DF(e:Envt)(o n:Str)(x:Shape)(hl:e.values.length<=1000000) :
  let A:=[AL.Bndg.mk (o) (n) (AL.Shape.mk (x.kind) (x.pkg) (x.name) (x.names) (x.parts))];(List.length e.values=List.length e.values/\(List.length e.values+List.length A)*(120:Nat)<=(140737488355328:Nat))/\True/\e.self=e.self/\e.types=e.types/\e.values++A=e.values++[AL.Bndg.mk (o) (n) (x)]/\e.own=e.own/\List.length (e.values++A)=List.length e.values+(1:Nat)/\List.length e.own=List.length e.own/\True:=by
 conv=>zeta
 have es:∀x:AL.Shape,AL.Shape.mk x.kind x.pkg x.name x.names x.parts=x:=fun x=>by cases x;rfl
 simp only[es,NZ,NL,Ou,P1,Oo,Oc];omega
theorem LF(e:Envt)(n:Str)(x:Shape)(hl:e.own.length<=1000000) :
  let A:=[AL.Bndg.mk ([]) (n) (AL.Shape.mk (x.kind) (x.pkg) (x.name) (x.names) (x.parts))];(List.length e.own=List.length e.own/\(List.length e.own+List.length A)*(120:Nat)<=(140737488355328:Nat))/\True/\e.self=e.self/\e.types=e.types/\e.values=e.values/\e.own++A=e.own++[AL.Bndg.mk ([]) (n) (x)]/\List.length e.values=List.length e.values/\List.length (e.own++A)=List.length e.own+(1:Nat)/\True:=by
 conv=>zeta
 have es:∀x:AL.Shape,AL.Shape.mk x.kind x.pkg x.name x.names x.parts=x:=fun x=>by cases x;rfl
 simp only[es,NZ,NL,Ou,P1,Oo,Oc];omega
theorem DG(n:Nat)(s:Shape)(hs:Wf (.st .shape) s)(ho:sz s<=n+1/\allS nmU s=true) :
  let A:=(140737488355328:Nat);let B:=(0:Int);let C:=s.parts=s.parts;let D:=(↑(List.length s.parts):Int);let E:=s.kind=s.kind;let F:=s.name=s.name;let G:=s.names=s.names;let H:=gJ UInt8=gJ UInt8;let I:=E/\s.pkg=s.pkg/\F/\G/\C/\B=B/\H/\H/\True;let J:=dfl (Ty.st SN.shape);List.length s.names*(16:Nat)<=A/\(∃(x:Nat),x<=List.length s.parts/\List.take x s.parts=[]/\B=(↑x:Int)/\s=s/\C/\D=D/\List.length (List.take x s.parts)=(0:Nat)/\I)/\∀(x:Nat),let K:=(↑x:Int);let L:=List.getD s.parts (Int.toNat K) J;let M:=List.take x s.parts;x<=List.length s.parts->if decide (K<D)=true then(B<=K/\K<D)/\(sz (L)<=n/\allS nmU (L)=true)/\(List.length M=List.length M/\(List.length M+List.length [L])*(88:Nat)<=A)/\inR IntKind.i64 (K+(1:Int))/\∃(y:Nat),y<=List.length s.parts/\List.length s.parts-y<List.length s.parts-x/\List.take x s.parts++[L]=List.take y s.parts/\K+(1:Int)=(↑y:Int)/\s=s/\C/\D=D/\List.length (List.take x s.parts++[L])=List.length (List.take y s.parts)/\I else True/\E/\s.pkg=s.pkg/\F/\G/\List.take x s.parts=s.parts/\True:=by
 conv=>zeta
 have ln:=hs.parts.len;obtain⟨o1,o3⟩:=ho;have hz:=iF s;have hll:=kU s.parts;rw[allS_eq,Nx,allL_all,NJ]at o3;have hn2:=o3.1;rw[nmU,Nx]at hn2;have hn:s.names.length<=1048576:=Xo hn2.1;have hp:s.parts.length<=1048576:=Xo hn2.2;simp only[NQ,P1,Oo,Oc];refine⟨by omega,⟨0,NU _,rfl,rfl,rfl⟩,?_⟩;intro k h1;apply aa<;>intro h
 ·have h:=Xo h;have hk:k<s.parts.length:=by omega
  have hmm:=getD_mem s.parts k (dfl (.st .shape)) hk;have hm:=eo hmm;have ht:=dU s.parts k (dfl (.st .shape)) hk;refine⟨by omega,⟨by omega,o3.2 _ hmm⟩,?_,aJ hk ln,k+1,by omega,by omega,ht.symm,by omega,by rw[ht]⟩;rw[OX,O4];omega
 ·have e:k=s.parts.length:=by have:¬((k:Int)<(s.parts.length:Int)):=fun e=>h (Xd e);omega
  rw[e,OR]
theorem Hc(o:Str)(l:List AL.Item)(N:Nat)(hl:Wf (.lst (.st .item)) l)(hN:∀x∈l,sz x.shape<=N)(ho:(l.length<=1048576/\∀x∈l,allS nmU x.shape=true)) :
  let A:=l=l;let B:=(↑(List.length l):Int);let C:=True;let D:=dfl (Ty.st SN.item);let E:=(1:Int);let F:=o;let G:=(140737488355328:Nat);let H:=((10:Int));(∃(x:Nat),let I:=List.take x l;x<=List.length l/\bc o I=[]/\(0:Int)=(↑x:Int)/\o=o/\A/\A/\B=B/\List.length (bc o I)=(0:Nat)/\C)/\∀(x:Nat),let I:=(↑x:Int);let J:=List.getD l (Int.toNat I) D;let K:=List.take x l;let L:=bc o K;let M:=List.length L=List.length L;let O:=J.name;let P:=[AL.Bndg.mk F O (AL.Shape.mk (J.shape.kind) (J.shape.pkg) (J.shape.name) (J.shape.names) (J.shape.parts))];let Q:=inR IntKind.i64 (I+E);let R:=[AL.Bndg.mk F O (AL.Shape.mk H F O ([]) ([]))];x<=List.length l->if decide (I<B)=true then((0:Int)<=I/\I<B)/\if decide (J.kind=E)=true then(sz J.shape<=N/\allS nmU J.shape=true)/\(M/\(List.length L+List.length P)*(120:Nat)<=G)/\Q/\∃(y:Nat),let S:=List.take y l;y<=List.length l/\List.length l-y<List.length l-x/\bc o K++P=bc o S/\I+E=(↑y:Int)/\o=o/\A/\A/\B=B/\List.length (bc o K++P)=List.length (bc o S)/\C else if decide (J.kind=(2:Int))=true then(M/\(List.length L+List.length R)*(120:Nat)<=G)/\Q/\∃(y:Nat),let S:=List.take y l;y<=List.length l/\List.length l-y<List.length l-x/\bc o K++R=bc o S/\I+E=(↑y:Int)/\o=o/\A/\A/\B=B/\List.length (bc o K++R)=List.length (bc o S)/\C else Q/\∃(y:Nat),let S:=List.take y l;y<=List.length l/\List.length l-y<List.length l-x/\bc o K=bc o S/\I+E=(↑y:Int)/\o=o/\A/\A/\B=B/\List.length L=List.length (bc o S)/\C else C/\bc o K=bc o l/\C:=by
 conv=>zeta
 have lc:=hl.len;obtain⟨o1,o2⟩:=ho;have es:∀x:AL.Shape,AL.Shape.mk x.kind x.pkg x.name x.names x.parts=x:=fun x=>by cases x;rfl
 simp only[NQ,P1,Oo,Oc,es];refine⟨⟨0,NU _,rfl,rfl,rfl⟩,?_⟩;intro k h1;apply aa<;>intro h
 ·replace h:=Xo h;have hk:k<l.length:=by omega
  have hl':=lh o (l.take k);rw[OX]at hl';have ht:=GB o l k (dfl (.st .item)) hk;have ho:=o2 _ (getD_mem l k (dfl (.st .item)) hk);have hN:=hN _ (getD_mem l k (dfl (.st .item)) hk);obtain⟨x,hx⟩:∃x,l.getD k (dfl (.st .item))=x:=⟨_,rfl⟩;simp only[hx]at ht ho hN⊢;refine⟨by omega,aa (fun e1=>?_) (fun e1=>?_)⟩
  ·have e1:=Xo e1;rw[NC e1]at ht;exact⟨⟨hN,ho⟩,by rw[O4];omega,aJ hk lc,k+1,by omega,by omega,ht.symm,by omega,by rw[ht]⟩
  ·have e1:¬x.kind=1:=fun e=>e1 (Xd e);rw[Ny e1]at ht;apply aa<;>intro e2
   ·have e2:=Xo e2;rw[NC e2]at ht;exact⟨by rw[O4];omega,aJ hk lc,k+1,by omega,by omega,ht.symm,by omega,by rw[ht];rfl⟩
   ·have e2:¬x.kind=2:=fun e=>e2 (Xd e);rw[Ny e2,OL]at ht;exact⟨aJ hk lc,k+1,by omega,by omega,ht.symm,by omega,by rw[ht]⟩
 ·have e:k=l.length:=by have:¬((k:Int)<(l.length:Int)):=fun e=>h (Xd e);omega
  rw[e,OR]
theorem AQ(l:List Bndg)(se:Str)(d:Dcl)(hl:Wf (.lst (.st .bind)) l)(hd:Wf (.st .decl) d)(ho:l.length<=1000000/\(d.kind=1∨d.kind=2)/\(aH d.shape l).2=0) :
  let A:=(120:Nat);let B:=(140737488355328:Nat);let C:=True;let D:=aH d.shape l;let E:=[gf d.name (if d.kind=(2:Int)then dN se d.name else D.1)];let F:=(0:Int);let G:=F=F/\C;let H:=List.length l=List.length l;let I:=d.name;let J:=[AL.Bndg.mk ([]) I (AL.Shape.mk ((10:Int)) (se) I ([]) ([]))];let K:=[AL.Bndg.mk ([]) I (AL.Shape.mk (D.1.kind) (D.1.pkg) (D.1.name) (D.1.names) (D.1.parts))];let L:=if(!decide (D.2=F))=true then C/\l++E=[]/\D.2=F/\C else if decide (d.kind=(2:Int))=true then(H/\(List.length l+List.length J)*A<=B)/\C/\l++J=l++E/\G else(H/\(List.length l+List.length K)*A<=B)/\C/\l++K=l++E/\G;List.length l*A<=B/\if(!decide (d.kind=(1:Int)))=true then if(!decide (d.kind=(2:Int)))=true then C/\l=l++E/\G else L else L:=by
 conv=>zeta
 obtain⟨o1,o2,o3⟩:=ho;have es:∀x:AL.Shape,AL.Shape.mk x.kind x.pkg x.name x.names x.parts=x:=fun x=>by cases x;rfl
 have o4:¬(!decide ((aH d.shape l).2=0))=true:=by rw[o3];decide
 have fin:∀y,(if d.kind=2 then dN se d.name else(aH d.shape l).1)=y->(l.length=l.length/\(l.length+[AL.Bndg.mk [] d.name y].length) *120<=140737488355328)/\True/\l++[AL.Bndg.mk [] d.name y]=l++[gf d.name (if d.kind=2 then dN se d.name else(aH d.shape l).1)]/\(0:Int)=0/\True:=fun y e=>by rw[e,O4];exact⟨⟨rfl,by omega⟩,(by repeat' (first|exact trivial|rfl|apply And.intro))⟩
 have go:if(!decide ((aH d.shape l).2=0))=true then True/\l++[gf d.name (if d.kind=2 then dN se d.name else(aH d.shape l).1)]=[]/\(aH d.shape l).2=0/\True else if decide (d.kind=2)=true then(l.length=l.length/\(l.length+[AL.Bndg.mk [] d.name (AL.Shape.mk 10 se d.name [] [])].length) *120<=140737488355328)/\True/\l++[AL.Bndg.mk [] d.name (AL.Shape.mk 10 se d.name [] [])]=l++[gf d.name (if d.kind=2 then dN se d.name else(aH d.shape l).1)]/\(0:Int)=0/\True else(l.length=l.length/\(l.length+[AL.Bndg.mk [] d.name (aH d.shape l).1].length) *120<=140737488355328)/\True/\l++[AL.Bndg.mk [] d.name (aH d.shape l).1]=l++[gf d.name (if d.kind=2 then dN se d.name else(aH d.shape l).1)]/\(0:Int)=0/\True:=by
  rw[Ny o4];refine aa (fun h=>fin _ ?_) (fun h=>fin _ ?_)
  ·rw[NC (Xo h)];rfl
  ·rw[Ny (fun e=>h (Xd e))]
 simp only[es,P1,Oo,Oc]at fin go⊢;refine⟨by omega,aa (fun h=>aa (fun h2=>?_) (fun _=>go)) (fun _=>go)⟩;have h:¬d.kind=1:=by simpa using h
 have h2:¬d.kind=2:=by simpa using h2
 exact absurd o2 (by omega)
theorem yi(c:Cst)(d:Dcl)(r:DcC)(hd:Wf (.st .decl) d)(ho:((d.kind=1∨d.kind=2∨d.kind=3)/\(d.kind=3->cn d.term=true)/\c.e.types.length<=1000000/\c.e.values.length<=1000000/\c.e.own.length<=1000000))(hr:jN d c=r) :
  let A:=(1000000:Nat);let B:=List.length c.e.values<=A;let C:=eG d.term c.e;let D:=(0:Int);let E:=True;let F:=C.2.err=r.f.err;let G:=C.2.pos=r.f.pos;let H:=c.e.self=r.c.e.self;let I:=c.e.types=r.c.e.types;let J:=c.e.values=r.c.e.values;let K:=c.e.own=r.c.e.own;let L:=List.length c.e.values=List.length r.c.e.values;let M:=List.length c.e.own=List.length r.c.e.own;let N:=H/\I/\J/\K/\L/\M/\c.m=r.c.m/\E;let O:=List.length c.e.values=List.length c.e.values/\List.length c.e.own=List.length c.e.own;let P:=aH d.shape c.e.types;let Q:=c.e.types++[gf d.name (if d.kind=(2:Int)then dN c.e.self d.name else P.1)]=r.c.e.types;if decide (d.kind=(3:Int))=true then(cn d.term=true/\B)/\if(!decide (C.2.err=D))=true then E/\F/\G/\N else(O/\B)/\E/\F/\G/\H/\I/\c.e.values++[AL.Bndg.mk ([]) (d.name) (C.1)]=r.c.e.values/\K/\List.length c.e.values+(1:Nat)=List.length r.c.e.values/\M/\cR c.m d.name {kind:=d.kind,name:=d.name,shape:=AL.Shape.mk (C.1.kind) (C.1.pkg) (C.1.name) (C.1.names) (C.1.parts):AL.Item}=r.c.m/\E else if(!decide (P.2=D))=true then E/\P.2=r.f.err/\d.pos=r.f.pos/\N else(List.length c.e.types<=A/\(d.kind=(1:Int)∨d.kind=(2:Int))/\P.2=D)/\if decide (d.kind=(2:Int))=true then(O/\List.length c.e.own<=A)/\E/\D=r.f.err/\D=r.f.pos/\H/\Q/\J/\c.e.own++[AL.Bndg.mk ([]) (d.name) (P.1)]=r.c.e.own/\L/\List.length c.e.own+(1:Nat)=List.length r.c.e.own/\cR c.m d.name {kind:=d.kind,name:=d.name,shape:=AL.Shape.mk (D) ([]) ([]) ([]) ([]):AL.Item}=r.c.m/\E else E/\D=r.f.err/\D=r.f.pos/\H/\Q/\J/\K/\L/\M/\cR c.m d.name {kind:=d.kind,name:=d.name,shape:=AL.Shape.mk (P.1.kind) (P.1.pkg) (P.1.name) (P.1.names) (P.1.parts):AL.Item}=r.c.m/\E:=by
 conv=>zeta
 obtain⟨o1,o2,o3,o4,o5⟩:=ho;subst hr;have es:∀x:AL.Shape,AL.Shape.mk x.kind x.pkg x.name x.names x.parts=x:=fun x=>by cases x;rfl
 simp only[es,P1,Oo,Oc];unfold jN;apply aa<;>intro h
 ·have h:=Xo h;rw[NC h];unfold Gs;refine⟨⟨o2 h,o4⟩,aa (fun g=>?_) (fun g=>?_)⟩
  ·have g:¬(eG d.term c.e).2.err=0:=by simpa using g
   rw[Ny g];exact(by repeat' (first|exact trivial|rfl|apply And.intro))
  ·have g:(eG d.term c.e).2.err=0:=by simpa using g
   rw[NC g];refine⟨o4,?_⟩;rw[h];simp only[bY,NZ,O4];exact(by repeat' (first|exact trivial|rfl|apply And.intro))
 ·have h:¬d.kind=3:=fun e=>h (Xd e);rw[Ny h];unfold Gt;have o1:d.kind=1∨d.kind=2:=by omega
  apply aa<;>intro g
  ·have g:¬(aH d.shape c.e.types).2=0:=by simpa using g
   rw[Ny g];exact(by repeat' (first|exact trivial|rfl|apply And.intro))
  ·have g:(aH d.shape c.e.types).2=0:=by simpa using g
   rw[NC g];refine⟨⟨o3,o1,g⟩,aa (fun k=>?_) (fun k=>?_)⟩
   ·have k:=Xo k;rw[NC k];simp only[NC k];refine⟨o5,?_⟩;rw[k];simp only[NZ,O4];exact(by repeat' (first|exact trivial|rfl|apply And.intro))
   ·have k:¬d.kind=2:=fun e=>k (Xd e);rw[Ny k];simp only[Ny k];exact(by repeat' (first|exact trivial|rfl|apply And.intro))
theorem JX(l:List AL.Item)  :
  True/\l=l/\True:=by
 repeat' (first|exact trivial|rfl|apply And.intro)
end Go.AL.Seat
end
section
open Go Go.AL Go.Proofs Go.Shelf Go.Pd
namespace Go.AL.Seat
variable [Tabs]
def nn:Nat->Bool:=fun _=>false
def cf(k:Nat->Bool)(l:Nat->List (Option Nat))(p r m:Nat->Bool)(s:Nat->List AV->List (Nat×SObj)->Option Ans):Cfg:=⟨tbl,s,k,l,p,r,m⟩
def a0:An:=⟨[],[],[]⟩
theorem g1(k:Nat->Bool)(l:Nat->List (Option Nat))(p r m:Nat->Bool){s:Nat->List AV->List (Nat×SObj)->Option Ans}(hS:bM Tryz.prog s)(a:An){f:Nat}{fn:Func}(hf:Tryz.prog.funcs[f]?=some fn)
 {args:List AV}{S:List (Nat×SObj)}{A:Ans}{Q:Prop}(q:Q)(h:fwp (cf k l p r m s) a fn args S A=Q:=by kernel_rfl):al Tryz.prog f args S A:=Io (C:=cf k l p r m s) mixed uk hS hf q h
theorem g0{s:Nat->List AV->List (Nat×SObj)->Option Ans}(hS:bM Tryz.prog s)(a:An){f:Nat}{fn:Func}(hf:Tryz.prog.funcs[f]?=some fn)
 {args:List AV}{S:List (Nat×SObj)}{A:Ans}{Q:Prop}(q:Q)(h:fwp (cf nn (fun _=>[]) nn nn nn s) a fn args S A=Q:=by kernel_rfl):al Tryz.prog f args S A:=Io (C:=cf nn (fun _=>[]) nn nn nn s) mixed uk hS hf q h
theorem sc{f:Nat}{g:Pat}{l:List (Nat×Pat)}(h:ah Tryz.prog f g)(hl:bM Tryz.prog (fY l)):bM Tryz.prog (fY ((f,g)::l)):=tD h hl
theorem sn:bM Tryz.prog (fY []):=wa
theorem ee{f:Nat}{fn:Func}(h:Tryz.prog.funcs[f]?=some fn)(e:(fn.body.isNone || (fn.name == "runtime.NumGoroutine"))=false:=by kernel_rfl):Enters Tryz.prog f:=Enters.mk' h e
variable [SeatLaid]
theorem qj:ah Tryz.prog 84 (p1 (.int .u8) fun c=>.ret (.bool (dK c))):=
 bB (ee Tryz.func84) fun c _ _=>g0 sn a0 Tryz.func84 (Ju c)
theorem qk:ah Tryz.prog 92 (p1 (.int .u8) fun c=>.ret (.bool (dV c))):=
 bB (ee Tryz.func92) fun c _ _=>g0 sn a0 Tryz.func92 (Jv c)
theorem Hd:ah Tryz.prog 159 (p1 (.int .u8) fun c=>.ret (.bool (iJ c))):=
 bB (ee Tryz.func159) fun c _ _=>g0 sn a0 Tryz.func159 (Jw c)
theorem AR:ah Tryz.prog 135 (p1 (.int .u8) fun c=>.ret (.bool (iE c))):=
 bB (ee Tryz.func135) fun c _ _=>g0 (sc qj (sc qk (sc Hd sn))) a0 Tryz.func135 (Lj c)
theorem DH:ah Tryz.prog 83 (pf .str 84 fun s=>.ret (.bool (dL dK s))):=
 lr (ee Tryz.func83) fun s hs _=>g0 (sc qj (sc qk (sc AR sn))) ⟨[(4,fun S0=>⟨Nat,fun k=>k<=s.length/\dL dK s=(s.drop k).all fun c=>iE (bI c),fun k=>[(22,.int .i64 k)],fun _=>[],fun k=>s.length-k⟩)],[],[]⟩ Tryz.func83 (GD s hs)
theorem DI:ah Tryz.prog 83 (pf .str 92 fun s=>.ret (.bool (dL dV s))):=
 lr (ee Tryz.func83) fun s hs _=>g0 (sc qj (sc qk (sc AR sn))) ⟨[(4,fun S0=>⟨Nat,fun k=>k<=s.length/\dL dV s=(s.drop k).all fun c=>iE (bI c),fun k=>[(22,.int .i64 k)],fun _=>[],fun k=>s.length-k⟩)],[],[]⟩ Tryz.func83 (GF s hs)
theorem JY:ah Tryz.prog 85 (p1 .str fun s=>.ret (.bool (zG s))):=
 bB (ee Tryz.func85) fun s _ _=>g0 sn a0 Tryz.func85 (Lk s)
theorem jm:ah Tryz.prog 47 (p1 .str fun s=>.ret (.bool (aX s))):=
 bB (ee Tryz.func47) fun s _ _=>g0 (sc DH (sc JY sn)) a0 Tryz.func47 (Ll s)
theorem kr:ah Tryz.prog 52 (p1 .str fun s=>.ret (.bool (eF s))):=
 bB (ee Tryz.func52) fun s _ _=>g0 (sc DI sn) a0 Tryz.func52 (Jx s)
theorem uA:ah Tryz.prog 214 (p2 (.lst .str) .str fun a v=>.ret (.int .i64 (cw a v 0))):=
 cb (ee Tryz.func214) fun a v ha _ _=>g0 sn ⟨[(2,fun S0=>⟨Nat,fun k=>k<=a.length/\cw a v 0=cw (a.drop k) v k,fun k=>[(8,.int .i64 k)],fun _=>[],fun k=>a.length-k⟩)],[],[]⟩ Tryz.func214 (GG a v ha)
theorem He:ah Tryz.prog 120 (p1 .str fun s=>.ret (.bool (nR s))):=
 bB (ee Tryz.func120) fun s _ _=>g0 sn a0 Tryz.func120 (Jy s)
theorem ou:ah Tryz.prog 94 (p1 (.lst .str) fun a=>⟨none,none,.fn 146 [.ptr 1 0],[(1,.box (.lst .str a none))]⟩):=
 bB (ee Tryz.func94) fun a _ _=>g0 sn a0 Tryz.func94 (GH a)
theorem Hf:ah Tryz.prog 119 (p1 (.st .shape) fun s=>⟨some (s.parts.length *16<=140737488355328),none,.bool (dE s),[]⟩):=
 bB (ee Tryz.func119) fun s hs ho=>g0 (sc jm (sc ou (sc (nX) (sc (mb) sn)))) ⟨[(4,fun S0=>⟨Nat,fun k=>k<=s.names.length/\s.names.length=s.parts.length/\dE s=(((s.names.drop k).all aX)&&decide s.names.Nodup),fun k=>[(16,.int .i64 k)],fun _=>[],fun k=>s.names.length-k⟩)],[],[]⟩ Tryz.func119 (Jz s hs (ho _ rfl))
theorem JZ:ah Tryz.prog 66 (p1 (.st .shape) fun s=>⟨some (s.parts.length *16<=140737488355328),none,.bool (aS s),[]⟩):=
 bB (ee Tryz.func66) fun s hs ho=>g0 (sc Hf (sc kr (sc jm (sc He sn)))) a0 Tryz.func66 (Lm s hs (ho _ rfl))
theorem AT:ah Tryz.prog 31 (p1 (.st .shape) fun s=>.ret (.bool (!decide (s.kind=9)))):=
 bB (ee Tryz.func31) fun s _ _=>g0 sn a0 Tryz.func31 (Dp s)
theorem uB:Enters Tryz.prog 30:=ee Tryz.func30
theorem vp(n:Nat)(s:AL.Shape)(hs:Wf (.st .shape) s)(hn:sz s<=n+1)(hb:n<=1000000)(hA:ah Tryz.prog 30 (pf (.st .shape) 66 fun s=>⟨some (sz s<=n),none,.bool (allS aS s),[]⟩)):al Tryz.prog 30 [.st .shape s,.fn 66 []] [] (.ret (.bool (allS aS s))):=
 g0 (sc JZ (sc (hA) sn)) ⟨[(4,fun S0=>⟨Nat,fun k=>k<=s.parts.length/\allS aS s=allL aS (s.parts.drop k),fun k=>[(14,.int .i64 k)],fun _=>[],fun k=>s.parts.length-k⟩)],[],[]⟩ Tryz.func30 (Dq n s hs hn hb)
theorem AU:∀n:Nat,n<=1000000->ah Tryz.prog 30 (pf (.st .shape) 66 fun s=>⟨some (sz s<=n),none,.bool (allS aS s),[]⟩):=by
 intro n
 induction n with
 |zero=>exact fun _=>lr uB fun a hs ho=>absurd (ho _ rfl) (by have:=fe a;omega)
 |succ n ih=>exact fun hb=>lr uB fun a hs ho=>vp n a hs (ho _ rfl) (by omega) (ih (by omega))
theorem po:Enters Tryz.prog 30:=ee Tryz.func30
theorem rB(n:Nat)(s:AL.Shape)(hs:Wf (.st .shape) s)(hn:sz s<=n+1)(hb:n<=1000000)(hA:ah Tryz.prog 30 (pf (.st .shape) 31 fun s=>⟨some (sz s<=n),none,.bool (allS (fun s=>!decide (s.kind=9)) s),[]⟩)):al Tryz.prog 30 [.st .shape s,.fn 31 []] [] (.ret (.bool (allS (fun s=>!decide (s.kind=9)) s))):=
 g0 (sc AT (sc (hA) sn)) ⟨[(4,fun S0=>⟨Nat,fun k=>k<=s.parts.length/\allS (fun s=>!decide (s.kind=9)) s=allL (fun s=>!decide (s.kind=9)) (s.parts.drop k),fun k=>[(14,.int .i64 k)],fun _=>[],fun k=>s.parts.length-k⟩)],[],[]⟩ Tryz.func30 (yh n s hs hn hb)
theorem vq:∀n:Nat,n<=1000000->ah Tryz.prog 30 (pf (.st .shape) 31 fun s=>⟨some (sz s<=n),none,.bool (allS (fun s=>!decide (s.kind=9)) s),[]⟩):=by
 intro n
 induction n with
 |zero=>exact fun _=>lr po fun a hs ho=>absurd (ho _ rfl) (by have:=fe a;omega)
 |succ n ih=>exact fun hb=>lr po fun a hs ho=>rB n a hs (ho _ rfl) (by omega) (ih (by omega))
theorem wE:Enters Tryz.prog 150:=ee Tryz.func150
theorem yj(n:Nat)(s:AL.Shape)(hs:Wf (.st .shape) s)(hn:sz s<=n+1)(ho:allS eJ s=true)(hb:n<=1000000)(hA:ah Tryz.prog 150 (p1 (.st .shape) fun s=>⟨some (sz s<=n/\allS eJ s=true),none,.st .shape (sortedS s),[]⟩)):al Tryz.prog 150 [.st .shape s] [] (.ret (.st .shape (sortedS s))):=
 g0 (sc (xZ) (sc (hA) sn)) ⟨[(4,fun S0=>⟨Nat,fun k=>k<=s.parts.length,fun k=>[(21,.int .i64 k)],fun k=>[(18,.box (.row (.int .i64) (cC k++List.replicate (s.parts.length-k) 0)))],fun k=>s.parts.length-k⟩),(11,fun S0=>⟨Nat,fun k=>k<=s.parts.length,fun k=>[(38,.int .i64 k)],fun k=>[(3,.box (.agg [.int .i64 s.kind,.str s.pkg,.str s.name,.lst .str (if s.names=[]then[]else(bA s|>.take k).map (ca s.names)) (some 701),.lst (.st .shape) ((bA s|>.take k).map fun i=>(sortedL s.parts).getD i.toNat pZ) (some 702)])),(18,.box (.row (.int .i64) (bA s))),(701,.tail .str (if s.names=[]then[]else(bA s|>.take k).map (ca s.names)).length),(702,.tail (.st .shape) k)],fun k=>s.parts.length-k⟩)],[],[]⟩ Tryz.func150 (GI n s hs hn ho hb)
theorem DJ:∀n:Nat,n<=1000000->ah Tryz.prog 150 (p1 (.st .shape) fun s=>⟨some (sz s<=n/\allS eJ s=true),none,.st .shape (sortedS s),[]⟩):=by
 intro n
 induction n with
 |zero=>exact fun _=>bB wE fun a hs ho=>absurd (ho _ rfl).1 (by have:=fe a;omega)
 |succ n ih=>exact fun hb=>bB wE fun a hs ho=>yj n a hs (ho _ rfl).1 (ho _ rfl).2 (by omega) (ih (by omega))
theorem K0:ah Tryz.prog 118 (xJ 191):=
 CI (ee Tryz.func118) fun c hc=>g0 sn a0 Tryz.func118 (Ln c hc)
theorem Fa:Enters Tryz.prog 117:=ee Tryz.func117
theorem DK(n:Nat)(s:AL.Shape)(l c:Int)(hs:Wf (.st .shape) s)(hn:sz s<=n+1)(hc:0<=c/\c<=400/\1<=l/\l<=c+1)(hA:ah Tryz.prog 117 (rQ 191 118 n)):al Tryz.prog 117 [.st .shape s,.int .i64 l,.fn 118 [.ptr 900 0]] [(900,.box (.int .i64 c))] (It 191 s l c (sz s<=n+1)):=
 g0 (sc K0 (sc (hA) sn)) ⟨[(4,fun S0=>⟨Nat×Int,fun x=>x.1<=s.parts.length/\c+1+(szL (s.parts.take x.1):Int)<=400/\deepL (s.parts.drop x.1) (l+1) x.2=deepS s l,fun x=>[(7,.int .i64 x.2),(16,.int .i64 x.1)],fun x=>[(900,.box (.int .i64 (c+1+(szL (s.parts.take x.1):Int))))],fun x=>s.parts.length-x.1⟩)],[],[]⟩ Tryz.func117 (Lo n s l c hs hn hc)
theorem K1:∀n:Nat,ah Tryz.prog 117 (rQ 191 118 n):=by
 intro n
 induction n with
 |zero=>exact tJ Fa fun s l c hs hn hc=>absurd hn (by have:=fe s;omega)
 |succ n ih=>exact tJ Fa fun s l c hs hn hc=>DK n s l c hs hn hc ih
theorem AW(s:AL.Shape)(hs:Wf (.st .shape) s) :al Tryz.prog 65 [.st .shape s] [] (.ret (.tup [.int .i64 (if sz s<=400 then(sz s:Int)else 401),.int .i64 (if sz s<=400 then deepS s 1 else 0),.bool (decide (sz s<=400))])):=
 fwpR_sound (C:=⟨tbl,_,fun _=>false,fun _=>[],fun _=>false,fun _=>false,fun _=>false⟩) (ann:=⟨[],[],[]⟩) (annC:=⟨[],[],[]⟩) mixed uk (tD (K1 (sz s)) (wa)) Tryz.func65 Tryz.func116 (enters_of Tryz.func116 (by kernel_rfl) rfl) (@Eq.mpr _ _ (by kernel_rfl) (JA s hs))
theorem Hg:ah Tryz.prog 65 (p1 (.st .shape) fun s=>.ret (.tup [.int .i64 (if sz s<=400 then(sz s:Int)else 401),.int .i64 (if sz s<=400 then deepS s 1 else 0),.bool (decide (sz s<=400))])):=
 bB (ee Tryz.func65) fun s hs _=>AW s hs
theorem gh:ah Tryz.prog 29 (p1 (.st .shape) fun s=>.ret (.int .i64 (ay s))):=
 bB (ee Tryz.func29) fun s _ _=>g0 (sc (Hg) (sc (AU 400 (by decide)) sn)) a0 Tryz.func29 (JB s)
theorem uC:ah Tryz.prog 12 (p1 (.st .shape) fun s=>.ret (.bool (bS s))):=
 bB (ee Tryz.func12) fun s _ _=>g0 (sc gh (sc (vq 400 (by decide)) sn)) a0 Tryz.func12 (GJ s)
theorem mv:ah Tryz.prog 103 (p1 (.st .shape) fun s=>.ret (.st .shape (bw s))):=
 bB (ee Tryz.func103) fun s _ _=>g0 (sc gh (sc (DJ 400 (by decide)) sn)) a0 Tryz.func103 (Lp s)
theorem Fb:Enters Tryz.prog 19:=ee Tryz.func19
theorem DL(n:Nat)(s:AL.Shape)(m:Int)(hs:Wf (.st .shape) s)(ho:sz s<=n+1/\0<=m/\m<=1000000)(hA:ah Tryz.prog 19 (p2 (.st .shape) (.int .i64) fun s m=>⟨some (sz s<=n/\0<=m/\m<=1000000),none,.int .i64 (sizeF s m),[]⟩)):al Tryz.prog 19 [.st .shape s,.int .i64 m] [] (.ret (.int .i64 (sizeF s m))):=
 g0 (sc (hA) sn) ⟨[(3,fun S0=>⟨Nat×Int,fun x=>x.1<=s.parts.length/\1<=x.2/\x.2<=m+1/\sizeL (s.parts.drop x.1) x.2 m=sizeF s m,fun x=>[(5,.int .i64 x.2),(6,.int .i64 x.1)],fun _=>[],fun x=>s.parts.length-x.1⟩)],[],[]⟩ Tryz.func19 (Lq n s m hs ho)
theorem AX:∀n:Nat,ah Tryz.prog 19 (p2 (.st .shape) (.int .i64) fun s m=>⟨some (sz s<=n/\0<=m/\m<=1000000),none,.int .i64 (sizeF s m),[]⟩):=by
 intro n
 induction n with
 |zero=>exact cb Fb fun a m _ _ ho=>absurd (ho _ rfl).1 (by have:=fe a;omega)
 |succ n ih=>exact cb Fb fun a m ha _ ho=>DL n a m ha (ho _ rfl) ih
theorem wF:Enters Tryz.prog 28:=ee Tryz.func28
theorem yk(n:Nat)(a b:Shape)(ha:Wf (.st .shape) a)(hb:Wf (.st .shape) b)(hn:sz a<=n+1)(hA:ah Tryz.prog 28 (p2 (.st .shape) (.st .shape) fun a b=>⟨some (sz a<=n),none,.bool (eqS a b),[]⟩)):al Tryz.prog 28 [.st .shape a,.st .shape b] [] (.ret (.bool (eqS a b))):=
 g0 (sc (hA) sn) ⟨[(4,fun S0=>⟨Nat,fun k=>k<=a.names.length/\a.names.length=b.names.length/\a.parts.length=b.parts.length/\eqS a b=(decide (a.names.drop k=b.names.drop k)&&eqL a.parts b.parts),fun k=>[(5,.int .i64 k)],fun _=>[],fun k=>a.names.length-k⟩),(9,fun S0=>⟨Nat,fun k=>k<=a.parts.length/\a.parts.length=b.parts.length/\eqS a b=eqL (a.parts.drop k) (b.parts.drop k),fun k=>[(6,.int .i64 k)],fun _=>[],fun k=>a.parts.length-k⟩)],[],[]⟩ Tryz.func28 (GK n a b ha hb hn)
theorem DM:∀n:Nat,ah Tryz.prog 28 (p2 (.st .shape) (.st .shape) fun a b=>⟨some (sz a<=n),none,.bool (eqS a b),[]⟩):=by
 intro n
 induction n with
 |zero=>exact cb wF fun a b _ _ ho=>absurd (ho _ rfl) (by have:=fe a;omega)
 |succ n ih=>exact cb wF fun a b ha hb ho=>yk n a b ha hb (ho _ rfl) ih
theorem wG:Enters Tryz.prog 142:=ee Tryz.func142
theorem yl(n:Nat)(t:Trm)(m:Int)(hs:Wf (.st .term) t)(hz:szT t<=n+1)(h0:0<=m)(h1:m<=1000000)(hA:ah Tryz.prog 142 (p2 (.st .term) (.int .i64) fun t m=>⟨some (szT t<=n/\0<=m/\m<=1000000),none,.tup [.int .i64 (countT t m).1,.int .i64 (countT t m).2],[]⟩)):al Tryz.prog 142 [.st .term t,.int .i64 m] [] (⟨some (szT t<=n+1/\0<=m/\m<=1000000),none,.tup [.int .i64 (countT t m).1,.int .i64 (countT t m).2],[]⟩):=
 g0 (sc (hA) sn) ⟨[(3,fun S0=>⟨Nat×Int×Int,fun y=>y.1<=t.parts.length/\1<=y.2.1/\y.2.1<=m+1/\0<=y.2.2/\y.2.2+1<=y.2.1/\countL (t.parts.drop y.1) m y.2.1 y.2.2=countL t.parts m 1 0,fun y=>[(6,.int .i64 y.2.1),(7,.int .i64 y.2.2),(15,.int .i64 y.1)],fun _=>[],fun y=>t.parts.length-y.1⟩)],[],[]⟩ Tryz.func142 (GL n t m hs hz h0 h1)
theorem uD:∀n:Nat,ah Tryz.prog 142 (p2 (.st .term) (.int .i64) fun t m=>⟨some (szT t<=n/\0<=m/\m<=1000000),none,.tup [.int .i64 (countT t m).1,.int .i64 (countT t m).2],[]⟩)
 |0=>cb wG fun t m hs _ ho=>absurd (ho _ rfl).1 (by have:=jE t;omega)
 |n+1=>cb wG fun t m hs _ ho=>yl n t m hs (ho _ rfl).1 (ho _ rfl).2.1 (ho _ rfl).2.2 (uD n)
theorem AY:ah Tryz.prog 276 (pcl .str 47 fun x=>⟨none,none,.bool (!aX x),[]⟩):=
 xK (ee Tryz.func276) fun x _ ho=>g0 (sc jm sn) a0 Tryz.func276 (Dr x)
theorem AZ:ah Tryz.prog 302 (pfc (.lst .str) 276 47 fun l=>⟨none,none,.int .i64 (bj aX l 0),[]⟩):=
 ma (ee Tryz.func302) fun l hl ho=>g0 (sc AY sn) ⟨[(2,fun S0=>⟨Nat,fun k=>k<=l.length/\bj aX (l.drop k) k=bj aX l 0,fun k=>[(8,.int .i64 k)],fun _=>[],fun k=>l.length-k⟩)],[],[]⟩ Tryz.func302 (Ds l hl)
theorem Ba:ah Tryz.prog 275 (pfc (.lst .str) 276 47 fun l=>⟨none,none,.bool (!l.all aX),[]⟩):=
 ma (ee Tryz.func275) fun l _ ho=>g0 (sc AZ sn) a0 Tryz.func275 (Dt l)
theorem wH:ah Tryz.prog 238 (pf (.lst .str) 47 fun l=>⟨none,none,.bool (l.all aX),[]⟩):=
 lr (ee Tryz.func238) fun l _ ho=>g0 (sc Ba sn) a0 Tryz.func238 (JC l)
theorem Hh:ah Tryz.prog 237 (p1 (.lst .str) fun l=>⟨some (l.length *16<=140737488355328),none,.bool (l.all aX&&decide l.Nodup),[]⟩):=
 bB (ee Tryz.func237) fun l _ ho=>g0 (sc ou (sc (nX) (sc wH (sc (mb) sn)))) a0 Tryz.func237 (JD l (ho _ rfl))
theorem DN:Enters Tryz.prog 272:=ee Tryz.func272
theorem vr(n:Nat)(x:Shape) (ho:sz x<=n)(hA:ah Tryz.prog 273 (p1 (.st .shape) fun s=>⟨some (sz s<=n),none,.bool (allS aQ s),[]⟩)):al Tryz.prog 272 [.st .shape x,.ptr 900 0] [(900,.box (.fn 273 []))] (⟨some (sz x<=n),none,.bool (!(allS aQ) x),[]⟩):=
 g0 (sc (hA) sn) a0 Tryz.func272 (Du n x ho)
theorem Bb(n:Nat)(hA:ah Tryz.prog 273 (p1 (.st .shape) fun s=>⟨some (sz s<=n),none,.bool (allS aQ s),[]⟩)):ah Tryz.prog 272 (pcl (.st .shape) 273 fun x=>⟨some (sz x<=n),none,.bool (!(allS aQ) x),[]⟩):=
 xK DN fun x _ ho=>vr n x (ho _ rfl) hA
theorem DO:Enters Tryz.prog 187:=ee Tryz.func187
theorem vt(n:Nat)(l:List AL.Shape) (hl:Wf (.lst (.st .shape)) l)(ho:∀x∈l,sz x<=n)(hA:ah Tryz.prog 273 (p1 (.st .shape) fun s=>⟨some (sz s<=n),none,.bool (allS aQ s),[]⟩)):al Tryz.prog 187 [.lst (.st .shape) l none,.fn 272 [.ptr 900 0]] [(900,.box (.fn 273 []))] (⟨some (∀x∈l,sz x<=n),none,.int .i64 (bj (allS aQ) l 0),[]⟩):=
 g0 (sc ((Bb n hA)) sn) ⟨[(2,fun S0=>⟨Nat,fun k=>k<=l.length/\bj (allS aQ) (l.drop k) k=bj (allS aQ) l 0,fun k=>[(8,.int .i64 k)],fun _=>[],fun k=>l.length-k⟩)],[],[]⟩ Tryz.func187 (Dv n l hl ho)
theorem Bc(n:Nat)(hA:ah Tryz.prog 273 (p1 (.st .shape) fun s=>⟨some (sz s<=n),none,.bool (allS aQ s),[]⟩)):ah Tryz.prog 187 (pfc (.lst (.st .shape)) 272 273 fun l=>⟨some (∀x∈l,sz x<=n),none,.int .i64 (bj (allS aQ) l 0),[]⟩):=
 ma DO fun l hl ho=>vt n l hl (ho _ rfl) hA
theorem DQ:Enters Tryz.prog 140:=ee Tryz.func140
theorem vu(n:Nat)(l:List AL.Shape) (ho:∀x∈l,sz x<=n)(hA:ah Tryz.prog 273 (p1 (.st .shape) fun s=>⟨some (sz s<=n),none,.bool (allS aQ s),[]⟩)):al Tryz.prog 140 [.lst (.st .shape) l none,.fn 272 [.ptr 900 0]] [(900,.box (.fn 273 []))] (⟨some (∀x∈l,sz x<=n),none,.bool (!l.all (allS aQ)),[]⟩):=
 g0 (sc ((Bc n hA)) sn) a0 Tryz.func140 (Dw n l ho)
theorem Bd(n:Nat)(hA:ah Tryz.prog 273 (p1 (.st .shape) fun s=>⟨some (sz s<=n),none,.bool (allS aQ s),[]⟩)):ah Tryz.prog 140 (pfc (.lst (.st .shape)) 272 273 fun l=>⟨some (∀x∈l,sz x<=n),none,.bool (!l.all (allS aQ)),[]⟩):=
 ma DQ fun l _ ho=>vu n l (ho _ rfl) hA
theorem K2:Enters Tryz.prog 234:=ee Tryz.func234
theorem Be(n:Nat)(l:List AL.Shape) (ho:∀x∈l,sz x<=n)(hA:ah Tryz.prog 273 (p1 (.st .shape) fun s=>⟨some (sz s<=n),none,.bool (allS aQ s),[]⟩)):al Tryz.prog 234 [.lst (.st .shape) l none,.fn 273 []] [] (⟨some (∀x∈l,sz x<=n),none,.bool (l.all (allS aQ)),[]⟩):=
 g0 (sc ((Bd n hA)) sn) a0 Tryz.func234 (JE n l ho)
theorem Hi(n:Nat)(hA:ah Tryz.prog 273 (p1 (.st .shape) fun s=>⟨some (sz s<=n),none,.bool (allS aQ s),[]⟩)):ah Tryz.prog 234 (pf (.lst (.st .shape)) 273 fun l=>⟨some (∀x∈l,sz x<=n),none,.bool (l.all (allS aQ)),[]⟩):=
 lr K2 fun l _ ho=>Be n l (ho _ rfl) hA
theorem Fc:Enters Tryz.prog 273:=ee Tryz.func273
theorem DR(n:Nat)(s:AL.Shape)(ho:sz s<=n+1)(hE:ah Tryz.prog 234 (pf (.lst (.st .shape)) 273 fun l=>⟨some (∀x∈l,sz x<=n),none,.bool (l.all (allS aQ)),[]⟩)):al Tryz.prog 273 [.st .shape s] [] (⟨some (sz s<=n+1),none,.bool (allS aQ s),[]⟩):=
 g0 (sc (hE) sn) a0 Tryz.func273 (Lr n s ho)
theorem Bf:∀n:Nat,ah Tryz.prog 273 (p1 (.st .shape) fun s=>⟨some (sz s<=n),none,.bool (allS aQ s),[]⟩)
 |0=>bB Fc fun s _ ho=>absurd (ho _ rfl) (by have:=fe s;omega)
 |n+1=>bB Fc fun s _ ho=>DR n s (ho _ rfl) (Hi n (Bf n))
theorem DS:ah Tryz.prog 235 (p1 (.st .shape) fun s=>.ret (.bool (decide (ay s=0)&&allS aQ s))):=
 bB (ee Tryz.func235) fun s _ _=>g0 (sc gh (sc (Bf 400) sn)) a0 Tryz.func235 (GM s)
theorem LG:ah Tryz.prog 233 (p1 (.st .term) fun t=>.ret (.agg [.int .i64 (t.names.length:Int),.int .i64 (t.vars.length:Int),.int .i64 (t.shapes.length:Int),.int .i64 (t.parts.length:Int)])):=
 bB (ee Tryz.func233) fun t _ _=>g0 sn a0 Tryz.func233 (MJ t)
theorem Hj:ah Tryz.prog 236 (p1 .str fun s=>.ret (.bool (tU s))):=
 bB (ee Tryz.func236) fun s hs _=>g0 (sc (G2) sn) ⟨[(2,fun S0=>⟨Nat,fun k=>k<=s.length/\(s.all jj)=(s.drop k).all jj,fun k=>[(8,.int .i64 k)],fun _=>[],fun k=>s.length-k⟩)],[],[]⟩ Tryz.func236 (JF s hs)
theorem ym:ah Tryz.prog 272 (pcl (.st .shape) 235 fun x=>⟨none,none,.bool (!cY x),[]⟩):=
 xK (ee Tryz.func272) fun x _ ho=>g0 (sc DS sn) a0 Tryz.func272 (AH x)
theorem yn:ah Tryz.prog 187 (pfc (.lst (.st .shape)) 272 235 fun l=>⟨none,none,.int .i64 (bj cY l 0),[]⟩):=
 ma (ee Tryz.func187) fun l hl ho=>g0 (sc ym sn) ⟨[(2,fun S0=>⟨Nat,fun k=>k<=l.length/\bj cY (l.drop k) k=bj cY l 0,fun k=>[(8,.int .i64 k)],fun _=>[],fun k=>l.length-k⟩)],[],[]⟩ Tryz.func187 (AI l hl)
theorem yo:ah Tryz.prog 140 (pfc (.lst (.st .shape)) 272 235 fun l=>⟨none,none,.bool (!l.all cY),[]⟩):=
 ma (ee Tryz.func140) fun l _ ho=>g0 (sc yn sn) a0 Tryz.func140 (AJ l)
theorem DT:ah Tryz.prog 234 (pf (.lst (.st .shape)) 235 fun l=>⟨none,none,.bool (l.all cY),[]⟩):=
 lr (ee Tryz.func234) fun l _ ho=>g0 (sc yo sn) a0 Tryz.func234 (GN l)
theorem Hk:ah Tryz.prog 188 (p1 (.st .term) fun t=>⟨some (t.names.length<=8796093022208),none,.bool (aq t),[]⟩):=
 bB (ee Tryz.func188) fun t ht ho=>g0 (sc LG (sc DT (sc Hj (sc jm (sc Hh (sc wH (sc kr sn))))))) ⟨[],[],[(2,fun S0=>⟨[(34,.bool (!qK t))],[]⟩)]⟩ Tryz.func188 (JG t ht (ho _ rfl))
theorem Bg:Enters Tryz.prog 240:=ee Tryz.func240
theorem uE(n:Nat)(x:Trm) (ho:szT x<=n/\cn x=true)(hA:ah Tryz.prog 143 (p1 (.st .term) fun t=>⟨some (szT t<=n/\cn t=true),none,.bool (allT aq t),[]⟩)):al Tryz.prog 240 [.st .term x,.ptr 900 0] [(900,.box (.fn 143 []))] (⟨some (szT x<=n/\cn x=true),none,.bool (!(allT aq) x),[]⟩):=
 g0 (sc (hA) sn) a0 Tryz.func240 (AK n x ho)
theorem yp(n:Nat)(hA:ah Tryz.prog 143 (p1 (.st .term) fun t=>⟨some (szT t<=n/\cn t=true),none,.bool (allT aq t),[]⟩)):ah Tryz.prog 240 (pcl (.st .term) 143 fun x=>⟨some (szT x<=n/\cn x=true),none,.bool (!(allT aq) x),[]⟩):=
 xK Bg fun x _ ho=>uE n x (ho _ rfl) hA
theorem Bh:Enters Tryz.prog 277:=ee Tryz.func277
theorem uF(n:Nat)(l:List Trm) (hl:Wf (.lst (.st .term)) l)(ho:∀x∈l,szT x<=n/\cn x=true)(hA:ah Tryz.prog 143 (p1 (.st .term) fun t=>⟨some (szT t<=n/\cn t=true),none,.bool (allT aq t),[]⟩)):al Tryz.prog 277 [.lst (.st .term) l none,.fn 240 [.ptr 900 0]] [(900,.box (.fn 143 []))] (⟨some (∀x∈l,szT x<=n/\cn x=true),none,.int .i64 (bj (allT aq) l 0),[]⟩):=
 g0 (sc ((yp n hA)) sn) ⟨[(2,fun S0=>⟨Nat,fun k=>k<=l.length/\bj (allT aq) (l.drop k) k=bj (allT aq) l 0,fun k=>[(8,.int .i64 k)],fun _=>[],fun k=>l.length-k⟩)],[],[]⟩ Tryz.func277 (AM n l hl ho)
theorem yq(n:Nat)(hA:ah Tryz.prog 143 (p1 (.st .term) fun t=>⟨some (szT t<=n/\cn t=true),none,.bool (allT aq t),[]⟩)):ah Tryz.prog 277 (pfc (.lst (.st .term)) 240 143 fun l=>⟨some (∀x∈l,szT x<=n/\cn x=true),none,.int .i64 (bj (allT aq) l 0),[]⟩):=
 ma Bh fun l hl ho=>uF n l hl (ho _ rfl) hA
theorem Bi:Enters Tryz.prog 239:=ee Tryz.func239
theorem uG(n:Nat)(l:List Trm) (ho:∀x∈l,szT x<=n/\cn x=true)(hA:ah Tryz.prog 143 (p1 (.st .term) fun t=>⟨some (szT t<=n/\cn t=true),none,.bool (allT aq t),[]⟩)):al Tryz.prog 239 [.lst (.st .term) l none,.fn 240 [.ptr 900 0]] [(900,.box (.fn 143 []))] (⟨some (∀x∈l,szT x<=n/\cn x=true),none,.bool (!l.all (allT aq)),[]⟩):=
 g0 (sc ((yq n hA)) sn) a0 Tryz.func239 (AN n l ho)
theorem yr(n:Nat)(hA:ah Tryz.prog 143 (p1 (.st .term) fun t=>⟨some (szT t<=n/\cn t=true),none,.bool (allT aq t),[]⟩)):ah Tryz.prog 239 (pfc (.lst (.st .term)) 240 143 fun l=>⟨some (∀x∈l,szT x<=n/\cn x=true),none,.bool (!l.all (allT aq)),[]⟩):=
 ma Bi fun l _ ho=>uG n l (ho _ rfl) hA
theorem Hl:Enters Tryz.prog 189:=ee Tryz.func189
theorem yt(n:Nat)(l:List Trm) (ho:∀x∈l,szT x<=n/\cn x=true)(hA:ah Tryz.prog 143 (p1 (.st .term) fun t=>⟨some (szT t<=n/\cn t=true),none,.bool (allT aq t),[]⟩)):al Tryz.prog 189 [.lst (.st .term) l none,.fn 143 []] [] (⟨some (∀x∈l,szT x<=n/\cn x=true),none,.bool (l.all (allT aq)),[]⟩):=
 g0 (sc ((yr n hA)) sn) a0 Tryz.func189 (GO n l ho)
theorem DU(n:Nat)(hA:ah Tryz.prog 143 (p1 (.st .term) fun t=>⟨some (szT t<=n/\cn t=true),none,.bool (allT aq t),[]⟩)):ah Tryz.prog 189 (pf (.lst (.st .term)) 143 fun l=>⟨some (∀x∈l,szT x<=n/\cn x=true),none,.bool (l.all (allT aq)),[]⟩):=
 lr Hl fun l _ ho=>yt n l (ho _ rfl) hA
theorem wI:Enters Tryz.prog 143:=ee Tryz.func143
theorem yu(n:Nat)(t:Trm)(ho:szT t<=n+1/\cn t=true)(hE:ah Tryz.prog 189 (pf (.lst (.st .term)) 143 fun l=>⟨some (∀x∈l,szT x<=n/\cn x=true),none,.bool (l.all (allT aq)),[]⟩)):al Tryz.prog 143 [.st .term t] [] (⟨some (szT t<=n+1/\cn t=true),none,.bool (allT aq t),[]⟩):=
 g0 (sc Hk (sc (hE) sn)) a0 Tryz.func143 (GP n t ho)
theorem uH:∀n:Nat,ah Tryz.prog 143 (p1 (.st .term) fun t=>⟨some (szT t<=n/\cn t=true),none,.bool (allT aq t),[]⟩)
 |0=>bB wI fun t _ ho=>absurd (ho _ rfl).1 (by have:=jE t;omega)
 |n+1=>bB wI fun t _ ho=>yu n t (ho _ rfl) (DU n (uH n))
theorem yw(x:Trm)(ho:cn x=true) :al Tryz.prog 91 [.st .term x] [] (⟨some (cn x=true),none,.int .i64 (dx x),[]⟩):=
 g0 (sc (uD (szT x)) (sc (uH (szT x)) sn)) a0 Tryz.func91 (GQ x ho)
theorem uI:ah Tryz.prog 91 (p1 (.st .term) fun t=>⟨some (cn t=true),none,.int .i64 (dx t),[]⟩):=
 bB (ee Tryz.func91) fun t _ ho=>yw t (ho _ rfl)
theorem Bj:Enters Tryz.prog 18:=ee Tryz.func18
theorem Bk(n:Nat)(s:Trm)(m:Int)(hs:Wf (.st .term) s)(ho:szT s<=n+1/\0<=m/\m<=1000000)(hA:ah Tryz.prog 18 (p2 (.st .term) (.int .i64) fun s m=>⟨some (szT s<=n/\0<=m/\m<=1000000),none,.int .i64 (fg s m),[]⟩)):al Tryz.prog 18 [.st .term s,.int .i64 m] [] (.ret (.int .i64 (fg s m))):=
 g0 (sc (hA) sn) ⟨[(3,fun S0=>⟨Nat×Int,fun x=>x.1<=s.parts.length/\1<=x.2/\x.2<=m+1/\sizeTL (s.parts.drop x.1) x.2 m=fg s m,fun x=>[(5,.int .i64 x.2),(6,.int .i64 x.1)],fun _=>[],fun x=>s.parts.length-x.1⟩)],[],[]⟩ Tryz.func18 (JH n s m hs ho)
theorem Hm:∀n:Nat,ah Tryz.prog 18 (p2 (.st .term) (.int .i64) fun s m=>⟨some (szT s<=n/\0<=m/\m<=1000000),none,.int .i64 (fg s m),[]⟩):=by
 intro n
 induction n with
 |zero=>exact cb Bj fun a m _ _ ho=>absurd (ho _ rfl).1 (by have:=jE a;omega)
 |succ n ih=>exact cb Bj fun a m ha _ ho=>Bk n a m ha (ho _ rfl) ih
theorem r8:ah Tryz.prog 137 (p1 .str fun s=>.ret (.bool (cO s))):=
 bB (ee Tryz.func137) fun s _ _=>g0 (sc (zT) sn) a0 Tryz.func137 (Dx s)
theorem Hn:ah Tryz.prog 87 (p1 .str fun s=>.ret (.bool (gK s))):=
 bB (ee Tryz.func87) fun s hs _=>g0 (sc r8 sn) ⟨[(4,fun S0=>⟨Nat,fun k=>k<=s.length/\(s.all fun c=>jo (bI c))=(s.drop k).all fun c=>jo (bI c),fun k=>[(22,.int .i64 k)],fun _=>[],fun k=>s.length-k⟩)],[],[]⟩ Tryz.func87 (JI s hs)
theorem uJ:ah Tryz.prog 48 (p1 (.st .version) fun v=>.ret (.int .i64 (ep v))):=
 bB (ee Tryz.func48) fun v hv _=>g0 (sc (qa) (sc Hn sn)) ⟨[(2,fun S0=>⟨Nat,fun k=>k<=3/\([v.major,v.minor,v.patch].take k).all ry=true,fun k=>[(15,.int .i64 k)],fun _=>[],fun k=>3-k⟩),(11,fun S0=>⟨Nat,fun k=>k<=(splitB 46 v.pre).length/\((splitB 46 v.pre).take k).all gK=true,fun k=>[(37,.int .i64 k)],fun _=>[],fun k=>(splitB 46 v.pre).length-k⟩)],[],[]⟩ Tryz.func48 (GR v hv)
theorem uK:ah Tryz.prog 104 (p1 (.lst (.st .bind)) fun l=>⟨some (l.length *120<=140737488355328),none,.lst (.st .bind) l (some 5),[(5,.tail (.st .bind) l.length)]⟩):=
 bB (ee Tryz.func104) fun l hl ho=>g0 sn a0 Tryz.func104 (GS l hl (ho _ rfl))
theorem Bl:ah Tryz.prog 195 (p2 (.st .env) (.lst (.st .bind)) fun e l=>⟨some (e.values.length<=1000000000/\l.length<=1000),none,.st .env (bY e l),[]⟩):=
 cb (ee Tryz.func195) fun e l he hl ho=>g0 (sc uK sn) a0 Tryz.func195 (Ls e l he hl (ho _ rfl))
theorem DV:ah Tryz.prog 315 (p3 (.st .shape) (.st .shape) .bool fun a b f=>.ret (.bool (decide (f=decide (a.kind=6))))):=
 EG (ee Tryz.func315) fun a b f _ _ _ _=>g0 sn a0 Tryz.func315 (GU a b f)
theorem Ho:ah Tryz.prog 305 (p0 ⟨none,none,.ptr 2 0,[(2,.box (.agg [.fn 315 []]))]⟩):=
 IT (ee Tryz.func305) (g0 sn a0 Tryz.func305 (JJ))
theorem wJ:ah Tryz.prog 316 (p2 (.st .shape) .str fun s m=>⟨some (aS s=true),none,.pt .shape (bR s m),[]⟩):=
 cb (ee Tryz.func316) fun s m hs _ ho=>g0 (sc uA sn) a0 Tryz.func316 (JK s m hs (ho _ rfl))
theorem DW:ah Tryz.prog 317 (CU fun m s=>⟨some (aS s=true),none,.bool (bR s m).isNone,[]⟩):=
 Gb (ee Tryz.func317) fun m s ho=>g0 (sc wJ sn) a0 Tryz.func317 (GV m s (ho _ rfl))
theorem Hp:ah Tryz.prog 304 (p2 (.st .shape) (.st .shape) fun a b=>.ret (.bool (decide (ay a=0)&&decide (ay b=0)))):=
 cb (ee Tryz.func304) fun a b _ _ _=>g0 (sc gh sn) a0 Tryz.func304 (JL a b)
theorem K3:ah Tryz.prog 302 (p9 317 fun l s=>⟨some (aS s=true),none,.int .i64 (bj (fun m=>(bR s m).isSome) l 0),[]⟩):=
 qM (ee Tryz.func302) fun l s hl ho=>g0 (sc DW sn) ⟨[(2,fun S0=>⟨Nat,fun k=>k<=l.length/\bj (fun m=>(bR s m).isSome) (l.drop k) k=bj (fun m=>(bR s m).isSome) l 0,fun k=>[(8,.int .i64 k)],fun _=>[],fun k=>l.length-k⟩)],[],[]⟩ Tryz.func302 (Lt l s hl (ho _ rfl))
theorem K4:ah Tryz.prog 275 (p9 317 fun l s=>⟨some (aS s=true),none,.bool (!l.all (fun m=>(bR s m).isSome)),[]⟩):=
 qM (ee Tryz.func275) fun l s _ ho=>g0 (sc K3 sn) a0 Tryz.func275 (Lu l s (ho _ rfl))
theorem Bm:Enters Tryz.prog 306:=ee Tryz.func306
def Nv(n:Nat):=xP 315 fun a b=>⟨some (sz a+sz b<=n/\allS aS a=true/\allS aS b=true),none,.bool (cJ n a b),[]⟩
theorem Bn(n:Nat)(a b:Shape)(ha:Wf (.st .shape) a)(hb:Wf (.st .shape) b)(hn:sz a+sz b<=n+1)(oa:allS aS a=true)(ob:allS aS b=true)(hA:ah Tryz.prog 306 (Nv n)):al Tryz.prog 306 [.ptr 900 0,.st .shape a,.st .shape b] [(900,.box (.agg [.fn 315 []]))] (⟨some (sz a+sz b<=n+1/\allS aS a=true/\allS aS b=true),none,.bool (cJ (n+1) a b),[]⟩):=
 g0 (sc DV (sc wJ (sc K4 (sc (hA) sn)))) ⟨[(7,fun S0=>⟨Nat,fun k=>k<=a.names.length/\iO (cJ n) (decide (a.kind=7)) b (a.names.drop k) (a.parts.drop k)=iO (cJ n) (decide (a.kind=7)) b a.names a.parts,fun k=>[(54,.int .i64 k)],fun _=>[],fun k=>a.names.length-k⟩),(17,fun S0=>⟨Nat,fun k=>k<=a.parts.length/\cJ (n+1) a b=ny (cJ n) (decide (a.kind=8)) (a.parts.drop k) (b.parts.drop k),fun k=>[(117,.int .i64 k)],fun _=>[],fun k=>a.parts.length-k⟩)],[],[(5,fun S0=>⟨[(42,.bool (decide (a.kind=6)||decide (a.kind=7)))],[]⟩)]⟩ Tryz.func306 (JM n a b ha hb hn oa ob)
theorem wK:∀n:Nat,ah Tryz.prog 306 (Nv n)
 |0=>wk Bm fun a b ha hb ho=>absurd (fe a) (by have:=(ho _ rfl).1;omega)
 |n+1=>wk Bm fun a b ha hb ho=>Bn n a b ha hb (ho _ rfl).1 (ho _ rfl).2.1 (ho _ rfl).2.2 (wK n)
theorem K5:ah Tryz.prog 281 (p2 (.st .shape) (.st .shape) fun a b=>.ret (.bool (p7 a b))):=
 cb (ee Tryz.func281) fun a b ha hb _=>g0 (sc Hp (sc Ho (sc (wK 800) sn))) a0 Tryz.func281 (Lv a b ha hb)
theorem DX(k:Nam)(v:Shape)  :al Tryz.prog 149 [.ptr 900 0,.st .nm k,.st .shape v] [(900,.box (.agg [.nilm]))] (⟨none,none,.tup [],[(900,.box (.map 12)),(12,.map (.st .nm) (.st .shape) (cR ([]:List (Nam×Shape)) k v))]⟩):=
 g0 sn a0 Tryz.func149 (Lw k v)
theorem Bp:ah Tryz.prog 149 (CV fun m k v=>match m with|none=>⟨none,none,.tup [],[(900,.box (.map 12)),(12,.map (.st .nm) (.st .shape) (cR ([]:List (Nam×Shape)) k v))]⟩|some m=>⟨none,none,.tup [],[(901,.map (.st .nm) (.st .shape) (cR m k v))]⟩):=
 Gc (ee Tryz.func149) (fun k v=>DX k v) fun m k v=>g0 sn a0 Tryz.func149 (Lx m k v)
theorem DY(k:Nam)  :al Tryz.prog 148 [.ptr 900 0,.st .nm k] [(900,.box (.agg [.nilm]))] (.ret (.tup [.st .shape ((dX [] k.pkg k.name).getD aK),.bool (dX [] k.pkg k.name).isSome])):=
 g0 sn a0 Tryz.func148 (Ly k)
theorem Bq:ah Tryz.prog 148 (CW fun m k=>.ret (.tup [.st .shape ((dX (m.getD []) k.pkg k.name).getD aK),.bool (dX (m.getD []) k.pkg k.name).isSome])):=
 Gd (ee Tryz.func148) (fun k=>DY k) fun m k=>g0 sn a0 Tryz.func148 (Lz m k)
def Nu(n:Nat):=pa fun m s=>⟨some (sz s<=n/\n<=400/\allS aS s=true),none,.tup [.st .shape ((fillS (dX (m.getD [])) s).getD aK),.bool (fillS (dX (m.getD [])) s).isSome],[]⟩
theorem Br(n:Nat)(s:AL.Shape)(hs:Wf (.st .shape) s)(hn:sz s<=n+1)(h4:n+1<=400)(os:allS aS s=true)(hA:ah Tryz.prog 101 (Nu n)):al Tryz.prog 101 [.st .shape s,.ptr 900 0] [(900,.box (.agg [.nilm]))] (⟨some (sz s<=(n+1)/\(n+1)<=400/\allS aS s=true),none,.tup [.st .shape ((fillS (dX []) s).getD aK),.bool (fillS (dX []) s).isSome],[]⟩):=
 g0 (sc Bq (sc (hA) (sc (qf) sn))) ⟨[(5,fun S0=>⟨Nat×List AL.Shape,fun x=>x.1<=s.parts.length/\x.2.length=x.1/\fillL (dX []) s.parts=(fillL (dX []) (s.parts.drop x.1)).map (x.2++ ·),fun x=>[(30,.int .i64 x.1),(6,.lst (.st .shape) x.2 (some 26))],fun x=>[(26,.tail (.st .shape) x.2.length)],fun x=>s.parts.length-x.1⟩)],[],[]⟩ Tryz.func101 (JN n s hs hn h4 os)
theorem Bt:Enters Tryz.prog 101:=ee Tryz.func101
theorem Bu(n:Nat)(m:List (Nam×Shape))(s:AL.Shape)(hs:Wf (.st .shape) s)(hn:sz s<=n+1)(h4:n+1<=400)(os:allS aS s=true)(hA:ah Tryz.prog 101 (Nu n)):al Tryz.prog 101 [.st .shape s,.ptr 900 0] [(900,.box (.map 901)),(901,.map (.st .nm) (.st .shape) m)] (⟨some (sz s<=(n+1)/\(n+1)<=400/\allS aS s=true),none,.tup [.st .shape ((fillS (dX m) s).getD aK),.bool (fillS (dX m) s).isSome],[]⟩):=
 g0 (sc Bq (sc (hA) (sc (qf) sn))) ⟨[(5,fun S0=>⟨Nat×List AL.Shape,fun x=>x.1<=s.parts.length/\x.2.length=x.1/\fillL (dX m) s.parts=(fillL (dX m) (s.parts.drop x.1)).map (x.2++ ·),fun x=>[(30,.int .i64 x.1),(6,.lst (.st .shape) x.2 (some 26))],fun x=>[(26,.tail (.st .shape) x.2.length)],fun x=>s.parts.length-x.1⟩)],[],[]⟩ Tryz.func101 (JO n m s hs hn h4 os)
theorem mW:∀n:Nat,ah Tryz.prog 101 (Nu n)
 |0=>ua Bt (fun s hs ho=>absurd (fe s) (by have:=(ho _ rfl).1;omega)) (fun m s hs ho=>absurd (fe s) (by have:=(ho _ rfl).1;omega))
 |n+1=>ua Bt (fun s hs ho=>Br n s hs (ho _ rfl).1 (ho _ rfl).2.1 (ho _ rfl).2.2 (mW n)) (fun m s hs ho=>Bu n m s hs (ho _ rfl).1 (ho _ rfl).2.1 (ho _ rfl).2.2 (mW n))
theorem yy   :al Tryz.prog 102 [.lst (.st .bind) [] none] [] (⟨none,none,.ptr 7 0,[(7,.box (.agg [.nilm]))]⟩):=
 g0 (sc Bp sn) ⟨[(3,fun S0=>⟨Nat,fun _=>True,fun _=>[(10,.int .i64 0)],fun _=>[],fun _=>0⟩)],[],[]⟩ Tryz.func102 (GW)
theorem uL:ah Tryz.prog 102 (ub ⟨none,none,.ptr 7 0,[(7,.box (.agg [.nilm]))]⟩ fun b r=>⟨none,none,.ptr 7 0,[(7,.box (.map 701)),(701,.map (.st .nm) (.st .shape) (mf (b::r)))]⟩):=
 Aa (ee Tryz.func102) yy fun b r hl=>g0 (sc Bp sn) ⟨[(3,fun S0=>⟨Nat×List (Nam×Shape),fun x=>x.1<=(b::r).length/\qN ((b::r).drop x.1) x.2=mf (b::r),fun x=>[(10,.int .i64 x.1)],fun x=>[(7,.box (.map 701)),(701,.map (.st .nm) (.st .shape) x.2)],fun x=>(b::r).length-x.1⟩)],[(200003,[1,13022,701])],[]⟩ Tryz.func102 (GX b r hl)
theorem uM(s:AL.Shape)(hs:Wf (.st .shape) s) :al Tryz.prog 59 [.st .shape s,.lst (.st .bind) [] none] [] (.ret (.tup [.st .shape (aH s []).1,.int .i64 (aH s []).2])):=
 g0 (sc gh (sc uL (sc (mW 400) (sc mv sn)))) a0 Tryz.func59 (AO s hs)
theorem mw:ah Tryz.prog 59 (p2 (.st .shape) (.lst (.st .bind)) fun s l=>.ret (.tup [.st .shape (aH s l).1,.int .i64 (aH s l).2])):=
 cb (ee Tryz.func59) fun s l hs hl _=>match l,hl with|[],_=>uM s hs|b::r,hl=>g0 (sc gh (sc uL (sc (mW 400) (sc mv sn)))) a0 Tryz.func59 (Dy s b r hs hl)
theorem yz:ah Tryz.prog 96 (p1 (.int .i64) fun k=>.ret (.st .shape (ofK k))):=
 bB (ee Tryz.func96) fun k _ _=>g0 sn a0 Tryz.func96 (MK k)
theorem fm:ah Tryz.prog 99 (p2 (.int .i64) (.int .i64) fun e a=>.ret (.agg [.int .i64 e,.int .i64 a])):=
 cb (ee Tryz.func99) fun e a _ _ _=>g0 sn a0 Tryz.func99 (GY e a)
theorem Hq:ah Tryz.prog 192 (p3 (.lst (.st .bind)) .str .str fun l o m=>.ret (.tup [.st .shape ((aC l o m).elim aK bw),.bool (aC l o m).isSome])):=
 EG (ee Tryz.func192) fun l o m hl _ _ _=>g0 (sc mv sn) ⟨[(2,fun S0=>⟨Nat,fun k=>k<=l.length/\aC l o m=aC (l.take k) o m,fun k=>[(8,.int .i64 ((k:Int)-1))],fun _=>[],fun k=>k⟩)],[],[]⟩ Tryz.func192 (JP l o m hl)
theorem wL:Enters Tryz.prog 100:=ee Tryz.func100
theorem yA(n:Nat)(t:Trm)(e:Envt)(ht:Wf (.st .term) t)(he:Wf (.st .env) e)(hz:szT t<=n+1)(hf:allT aq t=true)(hv:e.values.length+4096 *szT t<=100000000)(hP:ah Tryz.prog 147 (p2 (.st .term) (.st .env) fun t e=>⟨some (szT t<=n+1/\allT aq t=true/\e.values.length+4096 *szT t<=100000000),none,.tup [.st .shape (b6 (ag n) t e).1,.agg [.int .i64 (b6 (ag n) t e).2.err,.int .i64 (b6 (ag n) t e).2.pos]],[]⟩)):al Tryz.prog 100 [.st .term t,.st .env e] [] (⟨some (szT t<=n+1/\allT aq t=true/\e.values.length+4096 *szT t<=100000000),none,.tup [.st .shape (ag (n+1) t e).1,.agg [.int .i64 (ag (n+1) t e).2.err,.int .i64 (ag (n+1) t e).2.pos]],[]⟩):=
 g0 (sc (hP) (sc gh (sc mv (sc fm sn)))) a0 Tryz.func100 (GZ n t e ht he hz hf hv)
theorem K6:Enters Tryz.prog 250:=ee Tryz.func250
theorem Bv(n:Nat)(t:Trm)(w:Shape)(e:Envt)(ht:Wf (.st .term) t)(hw:Wf (.st .shape) w)(he:Wf (.st .env) e)(hz:szT t<=n)(hf:allT aq t=true)(hv:e.values.length+4096 *szT t<=100000000)(hA:ah Tryz.prog 100 (p2 (.st .term) (.st .env) fun t e=>⟨some (szT t<=n/\allT aq t=true/\e.values.length+4096 *szT t<=100000000),none,.tup [.st .shape (ag n t e).1,.agg [.int .i64 (ag n t e).2.err,.int .i64 (ag n t e).2.pos]],[]⟩)):al Tryz.prog 250 [.st .term t,.st .shape w,.st .env e] [] (⟨some (szT t<=n/\allT aq t=true/\e.values.length+4096 *szT t<=100000000),none,.agg [.int .i64 (aU (ag n) t w e).err,.int .i64 (aU (ag n) t w e).pos],[]⟩):=
 g0 (sc (hA) (sc K5 (sc fm sn))) a0 Tryz.func250 (JQ n t w e ht hw he hz hf hv)
theorem Hr(n:Nat)(hA:ah Tryz.prog 100 (p2 (.st .term) (.st .env) fun t e=>⟨some (szT t<=n/\allT aq t=true/\e.values.length+4096 *szT t<=100000000),none,.tup [.st .shape (ag n t e).1,.agg [.int .i64 (ag n t e).2.err,.int .i64 (ag n t e).2.pos]],[]⟩)):ah Tryz.prog 250 (p3 (.st .term) (.st .shape) (.st .env) fun t w e=>⟨some (szT t<=n/\allT aq t=true/\e.values.length+4096 *szT t<=100000000),none,.agg [.int .i64 (aU (ag n) t w e).err,.int .i64 (aU (ag n) t w e).pos],[]⟩):=
 EG K6 fun t w e ht hw he ho=>Bv n t w e ht hw he (ho _ rfl).1 (ho _ rfl).2.1 (ho _ rfl).2.2 hA
theorem Hs:Enters Tryz.prog 194:=ee Tryz.func194
theorem yB(n:Nat)(t:Trm)(e:Envt)(ht:Wf (.st .term) t)(he:Wf (.st .env) e)(hp:0<t.parts.length)(hz:szT t<=n+1)(hf:allT aq t=true)(hv:e.values.length+4096 *szT t<=100000000)(hA:ah Tryz.prog 100 (p2 (.st .term) (.st .env) fun t e=>⟨some (szT t<=n/\allT aq t=true/\e.values.length+4096 *szT t<=100000000),none,.tup [.st .shape (ag n t e).1,.agg [.int .i64 (ag n t e).2.err,.int .i64 (ag n t e).2.pos]],[]⟩)):al Tryz.prog 194 [.st .term t,.st .env e] [] (⟨some (0<t.parts.length/\szT t<=n+1/\allT aq t=true/\e.values.length+4096 *szT t<=100000000),none,.tup [.st .shape (gY (ag n) t e).1,.agg [.int .i64 (gY (ag n) t e).2.err,.int .i64 (gY (ag n) t e).2.pos]],[]⟩):=
 g0 (sc (hA) (sc uA (sc fm sn))) a0 Tryz.func194 (H0 n t e ht he hp hz hf hv)
theorem DZ(n:Nat)(hA:ah Tryz.prog 100 (p2 (.st .term) (.st .env) fun t e=>⟨some (szT t<=n/\allT aq t=true/\e.values.length+4096 *szT t<=100000000),none,.tup [.st .shape (ag n t e).1,.agg [.int .i64 (ag n t e).2.err,.int .i64 (ag n t e).2.pos]],[]⟩)):ah Tryz.prog 194 (p2 (.st .term) (.st .env) fun t e=>⟨some (0<t.parts.length/\szT t<=n+1/\allT aq t=true/\e.values.length+4096 *szT t<=100000000),none,.tup [.st .shape (gY (ag n) t e).1,.agg [.int .i64 (gY (ag n) t e).2.err,.int .i64 (gY (ag n) t e).2.pos]],[]⟩):=
 cb Hs fun t e ht he ho=>yB n t e ht he (ho _ rfl).1 (ho _ rfl).2.1 (ho _ rfl).2.2.1 (ho _ rfl).2.2.2 hA
theorem E0:ah Tryz.prog 251 (p2 (.st .term) (.st .env) fun t e=>⟨some (t.shapes.length<=1000000),none,.tup [.lst (.st .shape) (ar e.types t.pos t.shapes).1 (some 702),.agg [.int .i64 (ar e.types t.pos t.shapes).2.err,.int .i64 (ar e.types t.pos t.shapes).2.pos]],[(702,.tail (.st .shape) (ar e.types t.pos t.shapes).1.length)]⟩):=
 cb (ee Tryz.func251) fun t e ht he ho=>g0 (sc mw (sc fm sn)) ⟨[(3,fun S0=>⟨Nat×List AL.Shape,fun x=>x.1<=t.shapes.length/\x.2.length=x.1/\((ar e.types t.pos (t.shapes.drop x.1)).2.err=0->ar e.types t.pos t.shapes=(x.2++(ar e.types t.pos (t.shapes.drop x.1)).1,cu))/\(¬(ar e.types t.pos (t.shapes.drop x.1)).2.err=0->ar e.types t.pos t.shapes=ar e.types t.pos (t.shapes.drop x.1)),fun x=>[(14,.int .i64 x.1),(6,.lst (.st .shape) x.2 (some 701))],fun x=>[(701,.tail (.st .shape) x.2.length)],fun x=>t.shapes.length-x.1⟩)],[(300010,[701,702])],[]⟩ Tryz.func251 (H2 t e ht he (ho _ rfl))
theorem K7:Enters Tryz.prog 193:=ee Tryz.func193
theorem Bw(n:Nat)(t:Trm)(e:Envt)(ht:Wf (.st .term) t)(he:Wf (.st .env) e)(hp:0<t.parts.length)(hz:szT t<=n+1)(hf:allT aq t=true)(hv:e.values.length+4096 *szT t<=100000000)(hA:ah Tryz.prog 100 (p2 (.st .term) (.st .env) fun t e=>⟨some (szT t<=n/\allT aq t=true/\e.values.length+4096 *szT t<=100000000),none,.tup [.st .shape (ag n t e).1,.agg [.int .i64 (ag n t e).2.err,.int .i64 (ag n t e).2.pos]],[]⟩))(hF:ah Tryz.prog 250 (p3 (.st .term) (.st .shape) (.st .env) fun t w e=>⟨some (szT t<=n/\allT aq t=true/\e.values.length+4096 *szT t<=100000000),none,.agg [.int .i64 (aU (ag n) t w e).err,.int .i64 (aU (ag n) t w e).pos],[]⟩)):al Tryz.prog 193 [.st .term t,.st .env e] [] (⟨some (0<t.parts.length/\szT t<=n+1/\allT aq t=true/\e.values.length+4096 *szT t<=100000000),none,.tup [.st .shape (fI (ag n) t e).1,.agg [.int .i64 (fI (ag n) t e).2.err,.int .i64 (fI (ag n) t e).2.pos]],[]⟩):=
 g0 (sc (hA) (sc (hF) (sc yz (sc fm sn)))) ⟨[(8,fun S0=>⟨Nat,fun k=>k+1<=t.parts.length/\((ag n (t.parts.getD 0 aT) e).1.kind=4->dw (ag n) e (ofK 4) (t.parts.drop 1)=dw (ag n) e (ofK 4) (t.parts.drop (k+1)))/\(¬(ag n (t.parts.getD 0 aT) e).1.kind=4->gg (ag n) e (t.parts.drop 1) (ag n (t.parts.getD 0 aT) e).1.parts=gg (ag n) e (t.parts.drop (k+1)) ((ag n (t.parts.getD 0 aT) e).1.parts.drop k)),fun k=>[(54,.int .i64 k)],fun _=>[],fun k=>t.parts.length-k⟩)],[],[(5,fun S0=>⟨[(45,.bool (!decide ((ag n (t.parts.getD 0 aT) e).1.kind=4)&&(!decide ((ag n (t.parts.getD 0 aT) e).1.kind=8)||!decide ((ag n (t.parts.getD 0 aT) e).1.parts.length=t.parts.length))))],[]⟩)]⟩ Tryz.func193 (JR n t e ht he hp hz hf hv)
theorem Ht(n:Nat)(hA:ah Tryz.prog 100 (p2 (.st .term) (.st .env) fun t e=>⟨some (szT t<=n/\allT aq t=true/\e.values.length+4096 *szT t<=100000000),none,.tup [.st .shape (ag n t e).1,.agg [.int .i64 (ag n t e).2.err,.int .i64 (ag n t e).2.pos]],[]⟩))(hF:ah Tryz.prog 250 (p3 (.st .term) (.st .shape) (.st .env) fun t w e=>⟨some (szT t<=n/\allT aq t=true/\e.values.length+4096 *szT t<=100000000),none,.agg [.int .i64 (aU (ag n) t w e).err,.int .i64 (aU (ag n) t w e).pos],[]⟩)):ah Tryz.prog 193 (p2 (.st .term) (.st .env) fun t e=>⟨some (0<t.parts.length/\szT t<=n+1/\allT aq t=true/\e.values.length+4096 *szT t<=100000000),none,.tup [.st .shape (fI (ag n) t e).1,.agg [.int .i64 (fI (ag n) t e).2.err,.int .i64 (fI (ag n) t e).2.pos]],[]⟩):=
 cb K7 fun t e ht he ho=>Bw n t e ht he (ho _ rfl).1 (ho _ rfl).2.1 (ho _ rfl).2.2.1 (ho _ rfl).2.2.2 hA hF
theorem LH:Enters Tryz.prog 196:=ee Tryz.func196
theorem E1(n:Nat)(t:Trm)(e:Envt)(ht:Wf (.st .term) t)(he:Wf (.st .env) e)(hp:0<t.parts.length)(hz:szT t<=n+1)(hf:allT aq t=true)(hv:e.values.length+4096 *szT t<=100000000)(hF:ah Tryz.prog 250 (p3 (.st .term) (.st .shape) (.st .env) fun t w e=>⟨some (szT t<=n/\allT aq t=true/\e.values.length+4096 *szT t<=100000000),none,.agg [.int .i64 (aU (ag n) t w e).err,.int .i64 (aU (ag n) t w e).pos],[]⟩)):al Tryz.prog 196 [.st .term t,.st .env e] [] (⟨some (0<t.parts.length/\szT t<=n+1/\allT aq t=true/\e.values.length+4096 *szT t<=100000000),none,.tup [.st .shape (nY (ag n) t e).1,.agg [.int .i64 (nY (ag n) t e).2.err,.int .i64 (nY (ag n) t e).2.pos]],[]⟩):=
 g0 (sc (hF) (sc mv (sc fm sn))) ⟨[(4,fun S0=>⟨Nat×Option Shape,fun x=>x.1<=e.own.length/\(x.2=none->df e.own t.name=df (e.own.take x.1) t.name)/\(∀s,x.2=some s->df e.own t.name=some s),fun x=>[(8,.int .i64 ((x.1:Int)-1)),(7,.bool x.2.isSome)],fun x=>[(6,.box (.st .shape (x.2.elim aK bw)))],fun x=>x.1⟩)],[],[]⟩ Tryz.func196 (LB n t e ht he hp hz hf hv)
theorem K8(n:Nat)(hF:ah Tryz.prog 250 (p3 (.st .term) (.st .shape) (.st .env) fun t w e=>⟨some (szT t<=n/\allT aq t=true/\e.values.length+4096 *szT t<=100000000),none,.agg [.int .i64 (aU (ag n) t w e).err,.int .i64 (aU (ag n) t w e).pos],[]⟩)):ah Tryz.prog 196 (p2 (.st .term) (.st .env) fun t e=>⟨some (0<t.parts.length/\szT t<=n+1/\allT aq t=true/\e.values.length+4096 *szT t<=100000000),none,.tup [.st .shape (nY (ag n) t e).1,.agg [.int .i64 (nY (ag n) t e).2.err,.int .i64 (nY (ag n) t e).2.pos]],[]⟩):=
 cb LH fun t e ht he ho=>E1 n t e ht he (ho _ rfl).1 (ho _ rfl).2.1 (ho _ rfl).2.2.1 (ho _ rfl).2.2.2 hF
theorem Hu:Enters Tryz.prog 197:=ee Tryz.func197
theorem yC(n:Nat)(t:Trm)(e:Envt)(ht:Wf (.st .term) t)(he:Wf (.st .env) e)(hk:t.kind=6∨t.kind=11∨t.kind=12∨t.kind=13∨t.kind=15)(hz:szT t<=n+1)(hf:allT aq t=true)(hv:e.values.length+4096 *szT t<=100000000)(hA:ah Tryz.prog 100 (p2 (.st .term) (.st .env) fun t e=>⟨some (szT t<=n/\allT aq t=true/\e.values.length+4096 *szT t<=100000000),none,.tup [.st .shape (ag n t e).1,.agg [.int .i64 (ag n t e).2.err,.int .i64 (ag n t e).2.pos]],[]⟩))(hF:ah Tryz.prog 250 (p3 (.st .term) (.st .shape) (.st .env) fun t w e=>⟨some (szT t<=n/\allT aq t=true/\e.values.length+4096 *szT t<=100000000),none,.agg [.int .i64 (aU (ag n) t w e).err,.int .i64 (aU (ag n) t w e).pos],[]⟩)):al Tryz.prog 197 [.st .term t,.st .env e] [] (⟨some ((t.kind=6∨t.kind=11∨t.kind=12∨t.kind=13∨t.kind=15)/\szT t<=n+1/\allT aq t=true/\e.values.length+4096 *szT t<=100000000),none,.tup [.st .shape (cG (ag n) t e).1,.agg [.int .i64 (cG (ag n) t e).2.err,.int .i64 (cG (ag n) t e).2.pos]],[]⟩):=
 g0 (sc (hA) (sc (hF) (sc E0 (sc yz (sc Bl sn))))) ⟨[(8,fun S0=>⟨Nat×Envt,fun x=>x.1<=t.names.length/\x.2.values.length=e.values.length+x.1/\bY x.2 (fh (t.names.drop x.1) ((ar e.types t.pos t.shapes).1.drop x.1))=bY e (fh t.names (ar e.types t.pos t.shapes).1),fun x=>[(42,.int .i64 x.1)],fun x=>[(3,.box (.st .env x.2))],fun x=>t.names.length-x.1⟩),(16,fun S0=>⟨Nat,fun k=>k<=t.parts.length/\dw (ag n) e ((ar e.types t.pos t.shapes).1.getD 0 aK) (t.parts.drop k)=dw (ag n) e ((ar e.types t.pos t.shapes).1.getD 0 aK) t.parts,fun k=>[(77,.int .i64 k)],fun _=>[],fun k=>t.parts.length-k⟩),(37,fun S0=>⟨Nat×Flt,fun x=>x.1+1<=t.parts.length/\x.2.err=0/\x.2.pos=0/\gH (ag n) e ((ar e.types t.pos t.shapes).1.getD ((ar e.types t.pos t.shapes).1.length-1) aK) (t.parts.drop (x.1+1)) (t.vars.drop x.1) ((ar e.types t.pos t.shapes).1.drop x.1)=gH (ag n) e ((ar e.types t.pos t.shapes).1.getD ((ar e.types t.pos t.shapes).1.length-1) aK) (t.parts.drop 1) t.vars (ar e.types t.pos t.shapes).1,fun x=>[(180,.int .i64 x.1)],fun x=>[(7,.box (.agg [.int .i64 x.2.err,.int .i64 x.2.pos]))],fun x=>t.parts.length-x.1⟩)],[],[]⟩ Tryz.func197 (H3 n t e ht he hk hz hf hv)
theorem E2(n:Nat)(hA:ah Tryz.prog 100 (p2 (.st .term) (.st .env) fun t e=>⟨some (szT t<=n/\allT aq t=true/\e.values.length+4096 *szT t<=100000000),none,.tup [.st .shape (ag n t e).1,.agg [.int .i64 (ag n t e).2.err,.int .i64 (ag n t e).2.pos]],[]⟩))(hF:ah Tryz.prog 250 (p3 (.st .term) (.st .shape) (.st .env) fun t w e=>⟨some (szT t<=n/\allT aq t=true/\e.values.length+4096 *szT t<=100000000),none,.agg [.int .i64 (aU (ag n) t w e).err,.int .i64 (aU (ag n) t w e).pos],[]⟩)):ah Tryz.prog 197 (p2 (.st .term) (.st .env) fun t e=>⟨some ((t.kind=6∨t.kind=11∨t.kind=12∨t.kind=13∨t.kind=15)/\szT t<=n+1/\allT aq t=true/\e.values.length+4096 *szT t<=100000000),none,.tup [.st .shape (cG (ag n) t e).1,.agg [.int .i64 (cG (ag n) t e).2.err,.int .i64 (cG (ag n) t e).2.pos]],[]⟩):=
 cb Hu fun t e ht he ho=>yC n t e ht he (ho _ rfl).1 (ho _ rfl).2.1 (ho _ rfl).2.2.1 (ho _ rfl).2.2.2 hA hF
theorem Hv:Enters Tryz.prog 147:=ee Tryz.func147
theorem yD(n:Nat)(t:Trm)(e:Envt)(ht:Wf (.st .term) t)(he:Wf (.st .env) e)(hz:szT t<=n+1)(hf:allT aq t=true)(hv:e.values.length+4096 *szT t<=100000000)(hA:ah Tryz.prog 100 (p2 (.st .term) (.st .env) fun t e=>⟨some (szT t<=n/\allT aq t=true/\e.values.length+4096 *szT t<=100000000),none,.tup [.st .shape (ag n t e).1,.agg [.int .i64 (ag n t e).2.err,.int .i64 (ag n t e).2.pos]],[]⟩))(hF:ah Tryz.prog 250 (p3 (.st .term) (.st .shape) (.st .env) fun t w e=>⟨some (szT t<=n/\allT aq t=true/\e.values.length+4096 *szT t<=100000000),none,.agg [.int .i64 (aU (ag n) t w e).err,.int .i64 (aU (ag n) t w e).pos],[]⟩)):al Tryz.prog 147 [.st .term t,.st .env e] [] (⟨some (szT t<=n+1/\allT aq t=true/\e.values.length+4096 *szT t<=100000000),none,.tup [.st .shape (b6 (ag n) t e).1,.agg [.int .i64 (b6 (ag n) t e).2.err,.int .i64 (b6 (ag n) t e).2.pos]],[]⟩):=
 g0 (sc (hA) (sc yz (sc fm (sc Hq (sc Bl (sc ((Ht n hA hF)) (sc ((DZ n hA)) (sc ((K8 n hF)) (sc ((E2 n hA hF)) sn))))))))) ⟨[(19,fun S0=>⟨Nat×List AL.Shape,fun x=>x.1<=t.parts.length/\x.2.length=x.1/\cZ (ag n) e t.parts=(x.2++(cZ (ag n) e (t.parts.drop x.1)).1,(cZ (ag n) e (t.parts.drop x.1)).2),fun x=>[(67,.int .i64 x.1)],fun x=>[(8,.box (.agg [.int .i64 6,.str [],.str [],.lst .str t.names none,.lst (.st .shape) x.2 (some 701)])),(701,.tail (.st .shape) x.2.length)],fun x=>t.parts.length-x.1⟩)],[],[(7,fun S0=>⟨[(27,.bool (decide (t.kind=3)||decide (t.kind=4)))],[]⟩)]⟩ Tryz.func147 (H4 n t e ht he hz hf hv)
theorem wM:∀n:Nat,ah Tryz.prog 100 (p2 (.st .term) (.st .env) fun t e=>⟨some (szT t<=n/\allT aq t=true/\e.values.length+4096 *szT t<=100000000),none,.tup [.st .shape (ag n t e).1,.agg [.int .i64 (ag n t e).2.err,.int .i64 (ag n t e).2.pos]],[]⟩)
 |0=>cb wL fun t e ht he ho=>absurd (jE t) (by have:=(ho _ rfl).1;omega)
 |n+1=>
  have hA:=wM n;have hF:=Hr n hA
  cb wL fun t e ht he ho=>yA n t e ht he (ho _ rfl).1 (ho _ rfl).2.1 (ho _ rfl).2.2 (cb Hv fun t e ht he ho=>yD n t e ht he (ho _ rfl).1 (ho _ rfl).2.1 (ho _ rfl).2.2 hA hF)
theorem Hw:ah Tryz.prog 58 (p2 (.st .term) (.st .env) fun t e=>⟨some (cn t=true/\e.values.length<=1000000),none,.tup [.st .shape (eG t e).1,.agg [.int .i64 (eG t e).2.err,.int .i64 (eG t e).2.pos]],[]⟩):=
 cb (ee Tryz.func58) fun t e ht he ho=>g0 (sc uI (sc fm (sc ((wM (szT t))) sn))) a0 Tryz.func58 (JS t e ht he (ho _ rfl))
theorem E3:ah Tryz.prog 202 (p2 .str (.int .u8) fun s c=>⟨some (c=48),none,.str (dt s),[]⟩):=
 cb (ee Tryz.func202) fun s c hs _ ho=>g0 sn ⟨[(1,fun S0=>⟨Nat,fun k=>k<=s.length/\dt s=dt (s.drop k),fun k=>[(0,.str (s.drop k))],fun _=>[],fun k=>s.length-k⟩)],[],[]⟩ Tryz.func202 (H5 s c hs (ho _ rfl))
theorem yE:ah Tryz.prog 232 (p2 .str .str fun s t=>⟨some (t=[48]),none,.str (dt s),[]⟩):=
 cb (ee Tryz.func232) fun s t _ _ ho=>g0 (sc E3 sn) a0 Tryz.func232 (AP s t (ho _ rfl))
theorem K9:ah Tryz.prog 185 (p1 (.int .i64) fun a=>.ret (.bool false)):=
 bB (ee Tryz.func185) fun a _ _=>g0 sn a0 Tryz.func185 (LC a)
theorem uN:ah Tryz.prog 138 (p2 (.int .i64) (.int .i64) fun a b=>.ret (.int .i64 (cmpI a b))):=
 cb (ee Tryz.func138) fun a b _ _ _=>g0 (sc K9 sn) a0 Tryz.func138 (H6 a b)
theorem Fe:ah Tryz.prog 41 (p1 (.lst (.int .i64)) fun l=>.ret (.int .i64 (orI l))):=
 bB (ee Tryz.func41) fun l hl _=>g0 sn ⟨[(3,fun S0=>⟨Nat,fun k=>k<=l.length/\orI l=orI (l.drop k),fun k=>[(8,.int .i64 k)],fun _=>[],fun k=>l.length-k⟩)],[],[]⟩ Tryz.func41 (ML l hl)
theorem Bx:ah Tryz.prog 186 (p2 .str .str fun a b=>.ret (.int .i64 (G7 a b))):=
 cb (ee Tryz.func186) fun a b _ _ _=>g0 (sc yE (sc uN (sc (qW) (sc Fe sn)))) a0 Tryz.func186 (Dz a b)
theorem E4:ah Tryz.prog 139 (p2 .str .str fun a b=>.ret (.int .i64 (mX a b))):=
 cb (ee Tryz.func139) fun a b _ _ _=>g0 (sc r8 (sc Bx (sc (qW) sn))) a0 Tryz.func139 (H7 a b)
theorem Ka:ah Tryz.prog 89 (p2 (.st .version) (.st .version) fun a b=>⟨some (a.pre.length<=4096/\b.pre.length<=4096),none,.int .i64 (mc a b),[]⟩):=
 cb (ee Tryz.func89) fun a b _ _ ho=>g1 nn (fun _=>[]) nn nn (fun d=>Nat.beq d 17||Nat.beq d 22||Nat.beq d 27||Nat.beq d 29||Nat.beq d 43||Nat.beq d 46||Nat.beq d 63) (sc uN (sc Fe (sc E4 (sc (qa) sn)))) ⟨[(12,fun S0=>⟨Nat,fun k=>k<=(splitB 46 a.pre).length/\k<=(splitB 46 b.pre).length/\kZ (splitB 46 a.pre) (splitB 46 b.pre)=kZ ((splitB 46 a.pre).drop k) ((splitB 46 b.pre).drop k),fun k=>[(52,.int .i64 k)],fun _=>[],fun k=>(splitB 46 a.pre).length-k⟩)],[],[]⟩ Tryz.func89 (LD a b (ho _ rfl))
theorem Hx:ah Tryz.prog 88 (p1 (.int .i64) fun n=>.ret (.str (tX n))):=
 bB (ee Tryz.func88) fun n _ _=>g0 sn a0 Tryz.func88 (JT n)
theorem E5:ah Tryz.prog 49 (p1 (.lst (.st .bound)) fun l=>.ret (.int .i64 (mY l))):=
 bB (ee Tryz.func49) fun l hl _=>g0 (sc Hx (sc uJ sn)) ⟨[(4,fun S0=>⟨Nat,fun k=>k<=l.length/\l.all me=(l.drop k).all me,fun k=>[(10,.int .i64 k)],fun _=>[],fun k=>l.length-k⟩)],[],[]⟩ Tryz.func49 (H8 l hl)
theorem E6:ah Tryz.prog 50 (p2 (.st .version) (.lst (.st .bound)) fun v l=>⟨some (v.pre.length<=4096/\∀b∈l,b.v.pre.length<=4096),none,.bool (dW v l),[]⟩):=
 cb (ee Tryz.func50) fun v l _ hl ho=>g0 (sc Ka sn) ⟨[(2,fun S0=>⟨Nat,fun k=>k<=l.length/\dW v l=dW v (l.drop k),fun k=>[(10,.int .i64 k)],fun _=>[],fun k=>l.length-k⟩)],[],[]⟩ Tryz.func50 (H9 v l hl (ho _ rfl))
theorem E7:Enters Tryz.prog 141:=ee Tryz.func141
theorem vw(n:Nat)(x:Shape)(ho:sz x<=n)(hA:ah Tryz.prog 90 (p1 (.st .shape) fun s=>⟨some (sz s<=n),none,.bool (allS aQ s),[]⟩)):al Tryz.prog 141 [.st .shape x] [] (⟨some (sz x<=n),none,.bool (!allS aQ x),[]⟩):=
 g0 (sc (hA) sn) a0 Tryz.func141 (DA n x ho)
theorem By(n:Nat)(hA:ah Tryz.prog 90 (p1 (.st .shape) fun s=>⟨some (sz s<=n),none,.bool (allS aQ s),[]⟩)):ah Tryz.prog 141 (p1 (.st .shape) fun x=>⟨some (sz x<=n),none,.bool (!allS aQ x),[]⟩):=
 bB E7 fun x _ ho=>vw n x (ho _ rfl) hA
theorem E8:Enters Tryz.prog 187:=ee Tryz.func187
theorem vz(n:Nat)(l:List AL.Shape)(hl:Wf (.lst (.st .shape)) l)(ho:∀x∈l,sz x<=n)(hA:ah Tryz.prog 90 (p1 (.st .shape) fun s=>⟨some (sz s<=n),none,.bool (allS aQ s),[]⟩)):al Tryz.prog 187 [.lst (.st .shape) l none,.fn 141 []] [] (⟨some (∀x∈l,sz x<=n),none,.int .i64 (bj (allS aQ) l 0),[]⟩):=
 g0 (sc (By n hA) sn) ⟨[(2,fun S0=>⟨Nat,fun k=>k<=l.length/\bj (allS aQ) (l.drop k) k=bj (allS aQ) l 0,fun k=>[(8,.int .i64 k)],fun _=>[],fun k=>l.length-k⟩)],[],[]⟩ Tryz.func187 (DB n l hl ho)
theorem Bz(n:Nat)(hA:ah Tryz.prog 90 (p1 (.st .shape) fun s=>⟨some (sz s<=n),none,.bool (allS aQ s),[]⟩)):ah Tryz.prog 187 (pf (.lst (.st .shape)) 141 fun l=>⟨some (∀x∈l,sz x<=n),none,.int .i64 (bj (allS aQ) l 0),[]⟩):=
 lr E8 fun l hl ho=>vz n l hl (ho _ rfl) hA
theorem E9:Enters Tryz.prog 140:=ee Tryz.func140
theorem vA(n:Nat)(l:List AL.Shape)(hl:Wf (.lst (.st .shape)) l)(ho:∀x∈l,sz x<=n)(hA:ah Tryz.prog 90 (p1 (.st .shape) fun s=>⟨some (sz s<=n),none,.bool (allS aQ s),[]⟩)):al Tryz.prog 140 [.lst (.st .shape) l none,.fn 141 []] [] (⟨some (∀x∈l,sz x<=n),none,.bool (!l.all (allS aQ)),[]⟩):=
 g0 (sc (Bz n hA) sn) a0 Tryz.func140 (DC n l hl ho)
theorem BA(n:Nat)(hA:ah Tryz.prog 90 (p1 (.st .shape) fun s=>⟨some (sz s<=n),none,.bool (allS aQ s),[]⟩)):ah Tryz.prog 140 (pf (.lst (.st .shape)) 141 fun l=>⟨some (∀x∈l,sz x<=n),none,.bool (!l.all (allS aQ)),[]⟩):=
 lr E9 fun l hl ho=>vA n l hl (ho _ rfl) hA
theorem BB:Enters Tryz.prog 90:=ee Tryz.func90
theorem BC(n:Nat)(s:AL.Shape)(ho:sz s<=n+1)(hE:ah Tryz.prog 140 (pf (.lst (.st .shape)) 141 fun l=>⟨some (∀x∈l,sz x<=n),none,.bool (!l.all (allS aQ)),[]⟩)):al Tryz.prog 90 [.st .shape s] [] (⟨some (sz s<=n+1),none,.bool (allS aQ s),[]⟩):=
 g0 (sc (hE) sn) a0 Tryz.func90 (JU n s ho)
theorem wN:∀n:Nat,ah Tryz.prog 90 (p1 (.st .shape) fun s=>⟨some (sz s<=n),none,.bool (allS aQ s),[]⟩)
 |0=>bB BB fun s _ ho=>absurd (fe s) (by have:=ho _ rfl;omega)
 |n+1=>bB BB fun s _ ho=>BC n s (ho _ rfl) (BA n (wN n))
theorem Ea:ah Tryz.prog 53 (p1 (.lst .str) fun l=>⟨some (l.length *16<=140737488355328),none,.bool (decide l.Nodup),[]⟩):=
 bB (ee Tryz.func53) fun l _ ho=>g0 (sc ou (sc (nX) (sc (mb) sn))) a0 Tryz.func53 (Ha l (ho _ rfl))
theorem Hy:ah Tryz.prog 51 (p1 (.st .decl) fun d=>⟨some (dy d=true),none,.bool (iP d),[]⟩):=
 bB (ee Tryz.func51) fun d _ ho=>g0 (sc kr (sc jm (sc gh (sc (wN 400) (sc uI sn))))) ⟨[],[],[(1,fun S0=>⟨[(3,.bool (noS d.shape))],[]⟩),(3,fun S0=>⟨[(5,.bool (noT d.term))],[]⟩)]⟩ Tryz.func51 (JV d (ho _ rfl))
theorem Eb:ah Tryz.prog 21 (p1 (.st .modu) fun m=>⟨some (m.decls.all dy=true/\m.decls.length<=1000000),none,.int .i64 (cH m),[]⟩):=
 bB (ee Tryz.func21) fun m hm ho=>g0 (sc jm (sc kr (sc uJ (sc E5 (sc E6 (sc Hy (sc Ea sn))))))) ⟨[(5,fun S0=>⟨Nat,fun k=>k<=m.imports.length/\m.imports.all o9=(m.imports.drop k).all o9,fun k=>[(3,.lst .str (m.name::(m.imports.take k).map (·.name)) (some 34)),(38,.int .i64 k)],fun k=>[(34,.tail .str (m.name::(m.imports.take k).map (·.name)).length)],fun k=>m.imports.length-k⟩),(13,fun S0=>⟨Nat,fun k=>k<=m.decls.length/\m.decls.all mZ=(m.decls.drop k).all mZ,fun k=>[(6,.lst .str (lu++(m.decls.take k).map (·.name)) (some 77)),(81,.int .i64 k)],fun k=>[(77,.tail .str (lu++(m.decls.take k).map (·.name)).length)],fun k=>m.decls.length-k⟩),(20,fun S0=>⟨Nat,fun k=>k<=m.exports.length/\m.exports.all mj=(m.exports.drop k).all mj,fun k=>[(102,.int .i64 k)],fun _=>[],fun k=>m.exports.length-k⟩)],[],[]⟩ Tryz.func21 (Hb m hm (ho _ rfl))
theorem vB(l:List Depd)(N:Nat)(hl:Wf (.lst (.st .dep)) l)(hN:∀d∈l,∀x∈d.items,sz x.shape<=N) :al Tryz.prog 7 [.lst (.st .dep) l none] [] (.ret (.bool (iG l 0 0))):=
 g0 (sc (AX N) sn) ⟨[(3,fun S0=>⟨Nat×Int,fun x=>x.1<=l.length/\0<=x.2/\x.2<=4000/\iG (l.drop x.1) x.2 x.1=iG l 0 0,fun x=>[(3,.int .i64 x.2),(4,.int .i64 x.1)],fun _=>[],fun x=>l.length-x.1⟩),(8,fun S0=>yR S0 4 fun j=>⟨Nat×Int,fun x=>x.1<=(l.getD j.toNat (dfl (.st .dep))).items.length/\0<=x.2/\x.2<=4000/\D7 l j.toNat x.1 x.2=iG l 0 0,fun x=>[(3,.int .i64 x.2),(5,.int .i64 x.1)],fun _=>[],fun x=>(l.getD j.toNat (dfl (.st .dep))).items.length-x.1⟩)],[],[]⟩ Tryz.func7 (DD l N hl hN)
theorem BD:ah Tryz.prog 7 (p1 (.lst (.st .dep)) fun l=>.ret (.bool (iG l 0 0))):=
 bB (ee Tryz.func7) fun l hl _=>vB l (szD l) hl (J1 l)
theorem BE(a b:List AL.Item)(N:Nat)(ha:Wf (.lst (.st .item)) a)(hb:Wf (.lst (.st .item)) b)(hN:∀x∈a,sz x.shape<=N) :al Tryz.prog 10 [.lst (.st .item) a none,.lst (.st .item) b none] [] (.ret (.bool (kj a b))):=
 g0 (sc (DM N) sn) ⟨[(4,fun S0=>⟨Nat,fun k=>k<=a.length/\a.length=b.length/\kj a b=kj (a.drop k) (b.drop k),fun k=>[(5,.int .i64 k)],fun _=>[],fun k=>a.length-k⟩)],[],[]⟩ Tryz.func10 (JW a b N ha hb hN)
theorem Hz:ah Tryz.prog 10 (p2 (.lst (.st .item)) (.lst (.st .item)) fun a b=>.ret (.bool (kj a b))):=
 cb (ee Tryz.func10) fun a b ha hb _=>BE a b (szI a) ha hb (xU a)
theorem vC(se:Str)(ty va:List Bndg)(o n:Str)(x:Shape)(hl:va.length<=1000000) :al Tryz.prog 57 [.ptr 900 0,.str o,.str n,.st .shape x] (sc1 se ty va) (⟨some (va.length<=1000000),none,.tup [],[(900,.box (.agg [.str se,.lst (.st .bind) ty (some 901),.lst (.st .bind) (va++[AL.Bndg.mk o n x]) (some 902),.nils])),(902,.tail (.st .bind) (va.length+1))]⟩):=
 g0 sn a0 Tryz.func57 (DE se ty va o n x hl)
theorem rf:ah Tryz.prog 57 (Le (fun se ty va o n x=>⟨some (va.length<=1000000),none,.tup [],[(900,.box (.agg [.str se,.lst (.st .bind) ty (some 901),.lst (.st .bind) (va++[AL.Bndg.mk o n x]) (some 902),.nils])),(902,.tail (.st .bind) (va.length+1))]⟩) fun e o n x=>⟨some (e.values.length<=1000000),none,.tup [],[(900,.box (.agg [.str e.self,.lst (.st .bind) e.types none,.lst (.st .bind) (e.values++[AL.Bndg.mk o n x]) (some 901),.lst (.st .bind) e.own (some 902)])),(901,.tail (.st .bind) (e.values.length+1))]⟩):=
 Lf (ee Tryz.func57) (fun se ty va o n x ho=>vC se ty va o n x (ho _ rfl)) fun e o n x ho=>g0 sn a0 Tryz.func57 (DF e o n x (ho _ rfl))
theorem Kb:ah Tryz.prog 61 (MG fun e n x=>⟨some (e.own.length<=1000000),none,.tup [],[(900,.box (.agg [.str e.self,.lst (.st .bind) e.types none,.lst (.st .bind) e.values (some 901),.lst (.st .bind) (e.own++[AL.Bndg.mk [] n x]) (some 902)])),(902,.tail (.st .bind) (e.own.length+1))]⟩):=
 Lg (ee Tryz.func61) fun e n x ho=>g0 sn a0 Tryz.func61 (LF e n x (ho _ rfl))
theorem uO:Enters Tryz.prog 97:=ee Tryz.func97
theorem vD(n:Nat)(s:AL.Shape)(hs:Wf (.st .shape) s)(ho:sz s<=n+1/\allS nmU s=true)(hA:ah Tryz.prog 97 (p1 (.st .shape) fun s=>⟨some (sz s<=n/\allS nmU s=true),none,.st .shape s,[]⟩)):al Tryz.prog 97 [.st .shape s] [] (⟨some (sz s<=n+1/\allS nmU s=true),none,.st .shape s,[]⟩):=
 g0 (sc (qf) (sc (hA) sn)) ⟨[(4,fun S0=>⟨Nat,fun k=>k<=s.parts.length,fun k=>[(3,.lst (.st .shape) (s.parts.take k) (some 701)),(13,.int .i64 k)],fun k=>[(701,.tail (.st .shape) (s.parts.take k).length)],fun k=>s.parts.length-k⟩)],[],[]⟩ Tryz.func97 (DG n s hs ho)
theorem rh:∀n:Nat,ah Tryz.prog 97 (p1 (.st .shape) fun s=>⟨some (sz s<=n/\allS nmU s=true),none,.st .shape s,[]⟩)
 |0=>bB uO fun s hs ho=>absurd (fe s) (by have:=(ho _ rfl).1;omega)
 |n+1=>bB uO fun s hs ho=>vD n s hs (ho _ rfl) (rh n)
theorem yF(o:Str)(l:List AL.Item)(N:Nat)(hl:Wf (.lst (.st .item)) l)(hN:∀x∈l,sz x.shape<=N)(ho:(l.length<=1048576/\∀x∈l,allS nmU x.shape=true)) :al Tryz.prog 55 [.str o,.lst (.st .item) l none] [] (⟨some (l.length<=1048576/\∀x∈l,allS nmU x.shape=true),none,.lst (.st .bind) (bc o l) none,[]⟩):=
 g0 (sc (rh N) sn) ⟨[(3,fun S0=>⟨Nat,fun k=>k<=l.length,fun k=>[(5,.lst (.st .bind) (bc o (l.take k)) (some 701)),(10,.int .i64 k)],fun k=>[(701,.tail (.st .bind) (bc o (l.take k)).length)],fun k=>l.length-k⟩)],[],[]⟩ Tryz.func55 (Hc o l N hl hN ho)
theorem Ec:ah Tryz.prog 55 (p2 .str (.lst (.st .item)) fun o l=>⟨some (l.length<=1048576/\∀x∈l,allS nmU x.shape=true),none,.lst (.st .bind) (bc o l) none,[]⟩):=
 cb (ee Tryz.func55) fun o l _ hl ho=>yF o l (szI l) hl (xU l) (ho _ rfl)
theorem yG:ah Tryz.prog 60 (p3 (.lst (.st .bind)) .str (.st .decl) fun l se d=>⟨some (l.length<=1000000/\(d.kind=1∨d.kind=2)/\(aH d.shape l).2=0),none,.tup [.lst (.st .bind) (l++[gf d.name (if d.kind=2 then dN se d.name else(aH d.shape l).1)]) none,.int .i64 0],[]⟩):=
 EG (ee Tryz.func60) fun l se d hl _ hd ho=>g0 (sc uK (sc (mw) sn)) a0 Tryz.func60 (AQ l se d hl hd (ho _ rfl))
theorem rC(c:Cst)(d:Dcl)(r:DcC)(hd:Wf (.st .decl) d)(ho:((d.kind=1∨d.kind=2∨d.kind=3)/\(d.kind=3->cn d.term=true)/\c.e.types.length<=1000000/\c.e.values.length<=1000000/\c.e.own.length<=1000000))(hr:jN d c=r) :al Tryz.prog 24 [.ptr 900 0,.st .decl d] (ck2 c) (⟨some ((d.kind=1∨d.kind=2∨d.kind=3)/\(d.kind=3->cn d.term=true)/\c.e.types.length<=1000000/\c.e.values.length<=1000000/\c.e.own.length<=1000000),none,.st .fault r.f,ck2 r.c⟩):=
 g1 nn (fun f=>if Nat.beq f 57||Nat.beq f 61 then[some 1004]else[]) nn nn nn (sc (Hw) (sc (mw) (sc rf (sc yG (sc Kb sn))))) a0 Tryz.func24 (yi c d r hd ho hr)
theorem vE:ah Tryz.prog 24 (Js fun c d=>⟨some ((d.kind=1∨d.kind=2∨d.kind=3)/\(d.kind=3->cn d.term=true)/\c.e.types.length<=1000000/\c.e.values.length<=1000000/\c.e.own.length<=1000000),none,.st .fault (jN d c).f,ck2 (jN d c).c⟩):=
 Jt (ee Tryz.func24) fun c d hd ho=>rC c d _ hd (ho _ rfl) rfl
theorem HA:ah Tryz.prog 56 (p1 (.lst (.st .item)) fun l=>⟨none,none,.fn 98 [.ptr 1 0],[(1,.box (.lst (.st .item) l none))]⟩):=
 bB (ee Tryz.func56) fun l _ _=>g0 sn a0 Tryz.func56 (JX l)
end Go.AL.Seat
end
noncomputable section
namespace Go.AL.Seat
open Go Go.AL Go.Proofs Go.Shelf Go.Pd
variable [Tabs]
def MM(t:Str):Bool:=!t.isEmpty&&decide (t.length<=15)&&t.all fun c=>decide (48<=c.toNat)&&decide (c.toNat<=57)
theorem LI{t:Str}(h:MM t=true):qG t:=by unfold MM at h;simp only[Nx,NI,NA,NJ]at h;exact⟨fun e=>(by rw[e]at h;exact absurd h.1.1 (by decide)),h.1.2,h.2⟩
def ri:List (Nat×Pat):=
 [(201,p1 .str fun s=>.ret (.tup [.int .i32 ((kX s).1:Int),.int .i64 ((kX s).2:Int)])),
  (211,p2 .str (.int .u8) fun a c=>.ret (.int .i64 (Iw a c))),
  (161,q2 .str .str (fun _ b=>decide (b=rv)) fun a _=>.str (nt a)),
  (209,q2 .str .str (fun a b=>decide (b=[45])&&decide (a.length<4294967281)) fun a _=>.tup [.str (jL a),.str (nW a),.bool (q8 a)]),
  (86,q2 .str .str (fun a b=>decide (b=[46])&&decide (a.length<4294967281)) fun a _=>.lst .str (splitB 46 a) none),
  (213,q2 .str .str (fun _ b=>decide (b.length=1)) fun a b=>.bool (decide (b.getD 0 0∈a))),
  (210,q1 .str MM fun t=>.tup [.int .i64 (nq t),.nilif]),
  (47,p1 .str fun s=>.ret (.bool (aX s))),(52,p1 .str fun s=>.ret (.bool (eF s)))]
theorem pq[SeatLaid]:bM Tryz.prog (fY ri):=
 sc tT (sc vg (sc (F0 zT fun _ _ h=>Xo h)
  (sc (F0 KR fun _ _ h=>by rw[Nx]at h;exact⟨Xo h.1,Xo h.2⟩)
  (sc (F0 qa fun _ _ h=>by rw[Nx]at h;exact⟨Xo h.1,Xo h.2⟩)
  (sc (F0 xN fun _ _ h=>Xo h) (sc (Nk ID fun _ h=>LI h)
  (sc jm (sc kr sn))))))))
end Go.AL.Seat
end
noncomputable section
namespace Go.AL.Seat
open Go Go.AL Go.Proofs
variable [Tabs]
def rl:List (Nat×TR):=[(34,⟨.strct true [(0,32),(1,3)],2,16,[.int .i64 0,.int .i64 0],some (.st .fault)⟩),(3,r2),(9,r9),(47,⟨.strct false [(0,3),(1,9),(2,9),(3,24),(4,45)],5,88,[.int .i64 0,.str [],.str [],.nils,.nils],some (.st .shape)⟩),(26,⟨.strct false [(0,9),(1,22),(2,23),(3,24),(4,3)],5,96,[.str [],.nils,.nils,.nils,.int .i64 0],some (.st .modu)⟩),(155,⟨.slice 3,1,24,[.nils],some (.lst (.int .i64))⟩),(121,⟨.strct false [(0,9),(1,9),(2,47)],7,120,[.str [],.str [],.int .i64 0,.str [],.str [],.nils,.nils],some (.st .bind)⟩),(32,r2),(45,⟨.slice 47,1,24,[.nils],some (.lst (.st .shape))⟩),(49,⟨.strct false [(0,3),(1,9),(2,47)],7,112,[.int .i64 0,.str [],.int .i64 0,.str [],.str [],.nils,.nils],some (.st .item)⟩),(31,⟨.slice 49,1,24,[.nils],some (.lst (.st .item))⟩),(24,⟨.slice 9,1,24,[.nils],some (.lst .str)⟩),(43,⟨.strct false [(0,9),(1,31)],2,40,[.str [],.nils],some (.st .dep)⟩),(63,⟨.strct false [(0,3),(1,9),(2,9),(3,3),(4,24),(5,24),(6,45),(7,61),(8,3)],9,152,[.int .i64 0,.str [],.str [],.int .i64 0,.nils,.nils,.nils,.nils,.int .i64 0],some (.st .term)⟩),(38,⟨.strct true [(0,3),(1,3),(2,3),(3,9)],4,40,[.int .i64 0,.int .i64 0,.int .i64 0,.str []],some (.st .version)⟩),(27,⟨.slice 43,1,24,[.nils],some (.lst (.st .dep))⟩),(71,⟨.slice 121,1,24,[.nils],some (.lst (.st .bind))⟩),(120,⟨.strct false [(0,9),(1,9),(2,47)],7,120,[.str [],.str [],.int .i64 0,.str [],.str [],.nils,.nils],none⟩),(33,⟨.strct true [(0,32),(1,3)],2,16,[.int .i64 0,.int .i64 0],none⟩),(25,⟨.strct false [(0,9),(1,22),(2,23),(3,24),(4,3)],5,96,[.str [],.nils,.nils,.nils,.int .i64 0],none⟩),(22,⟨.slice 41,1,24,[.nils],some (.lst (.st .imp))⟩),(23,⟨.slice 65,1,24,[.nils],some (.lst (.st .decl))⟩),(65,⟨.strct false [(0,3),(1,9),(2,47),(7,63),(16,3)],17,272,[.int .i64 0,.str [],.int .i64 0,.str [],.str [],.nils,.nils,.int .i64 0,.str [],.str [],.int .i64 0,.nils,.nils,.nils,.nils,.int .i64 0,.int .i64 0],some (.st .decl)⟩),(64,⟨.strct false [(0,3),(1,9),(2,47),(7,63),(16,3)],17,272,[.int .i64 0,.str [],.int .i64 0,.str [],.str [],.nils,.nils,.int .i64 0,.str [],.str [],.int .i64 0,.nils,.nils,.nils,.nils,.int .i64 0,.int .i64 0],none⟩),(62,⟨.strct false [(0,3),(1,9),(2,9),(3,3),(4,24),(5,24),(6,45),(7,61),(8,3)],9,152,[.int .i64 0,.str [],.str [],.int .i64 0,.nils,.nils,.nils,.nils,.int .i64 0],none⟩),(61,⟨.slice 63,1,24,[.nils],some (.lst (.st .term))⟩),(41,⟨.strct false [(0,9),(1,38),(5,39),(6,3)],7,88,[.str [],.int .i64 0,.int .i64 0,.int .i64 0,.str [],.nils,.int .i64 0],some (.st .imp)⟩),(40,⟨.strct false [(0,9),(1,38),(5,39),(6,3)],7,88,[.str [],.int .i64 0,.int .i64 0,.int .i64 0,.str [],.nils,.int .i64 0],none⟩),(39,⟨.slice 59,1,24,[.nils],some (.lst (.st .bound))⟩),(59,⟨.strct true [(0,3),(1,38)],5,48,[.int .i64 0,.int .i64 0,.int .i64 0,.int .i64 0,.str []],some (.st .bound)⟩),(58,⟨.strct true [(0,3),(1,38)],5,48,[.int .i64 0,.int .i64 0,.int .i64 0,.int .i64 0,.str []],none⟩),(37,⟨.strct true [(0,3),(1,3),(2,3),(3,9)],4,40,[.int .i64 0,.int .i64 0,.int .i64 0,.str []],none⟩),(42,⟨.strct false [(0,9),(1,31)],2,40,[.str [],.nils],none⟩),(48,⟨.strct false [(0,3),(1,9),(2,47)],7,112,[.int .i64 0,.str [],.int .i64 0,.str [],.str [],.nils,.nils],none⟩),(46,⟨.strct false [(0,3),(1,9),(2,9),(3,24),(4,45)],5,88,[.int .i64 0,.str [],.str [],.nils,.nils],none⟩)]
theorem BF:aZ Tryz.prog rl:=.cons tk (.cons tk (.cons tk (.cons tk (.cons tk (.cons tk (.cons tk (.cons tk (.cons tk (.cons tk (.cons tk (.cons tk (.cons tk (.cons tk (.cons tk (.cons tk (.cons tk (.cons tk (.cons tk (.cons tk (.cons tk (.cons tk (.cons tk (.cons tk (.cons tk (.cons tk (.cons tk (.cons tk (.cons tk (.cons tk (.cons tk (.cons tk (.cons tk (.cons tk (.cons tk (.nil)))))))))))))))))))))))))))))))))))
end Go.AL.Seat
end
noncomputable section
namespace Go.AL.Seat
open Go Go.AL Go.Proofs
set_option maxRecDepth 1000000
variable [Tabs]
def Kc(f:Nat):List (Option Nat):=if Nat.beq f 121||Nat.beq f 122 then[some 2]else if Nat.beq f 68||(Nat.beq f 69||(Nat.beq f 73||(Nat.beq f 74||(Nat.beq f 75||Nat.beq f 126))))then[some 4]else if Nat.beq f 57||Nat.beq f 61 then[some 1004]else[]
def Kd(f:Nat):Bool:=false
def uP:List (Nat×FB):=(8,aV rl Tryz.f8 2367 [] (fun _=>false) (fun _=>false) (fun _=>false) false)::(22,aV rl Tryz.f22 15 [] (fun _=>false) (fun _=>false) (fun _=>false) true)::(20,aV rl Tryz.f20 268567539 [] (fun _=>false) (fun _=>false) (fun _=>false) false)::(54,aV rl Tryz.f54 1965 [] (fun _=>false) (fun _=>false) (fun d=>Nat.beq d 16) false)::(96,aV rl Tryz.f96 5 [] (fun _=>false) (fun _=>false) (fun _=>false) false)::[]
theorem rn:au Tryz.prog uP:=au.cons Tryz.func8 (by kernel_rfl) (au.cons Tryz.func22 (by kernel_rfl) (au.cons Tryz.func20 (by kernel_rfl) (au.cons Tryz.func54 (by kernel_rfl) (au.cons Tryz.func96 (by kernel_rfl) (au.nil)))))
end Go.AL.Seat
end
noncomputable section
namespace Go.AL.Seat
open Go Go.AL Go.Proofs
variable [Tabs]
def ax:List (Nat×TR):=[(3,r2),(9,r9),(63,⟨.strct false [(0,3),(1,9),(2,9),(3,3),(4,24),(5,24),(6,45),(7,61),(8,3)],9,152,[.int .i64 0,.str [],.str [],.int .i64 0,.nils,.nils,.nils,.nils,.int .i64 0],some (.st .term)⟩),(47,⟨.strct false [(0,3),(1,9),(2,9),(3,24),(4,45)],5,88,[.int .i64 0,.str [],.str [],.nils,.nils],some (.st .shape)⟩),(149,⟨.strct true [(0,3),(1,9),(2,3)],3,32,[.int .i64 0,.str [],.int .i64 0],some (.st .token)⟩),(24,⟨.slice 9,1,24,[.nils],some (.lst .str)⟩),(253,⟨.strct false [(0,251)],4,48,[.nils,.int .i64 0,.int .i64 0,.int .i64 0],some (.st .par)⟩),(248,⟨.ptr 253,1,8,[.nilp],none⟩),(5,r5),(300,Lb),(38,⟨.strct true [(0,3),(1,3),(2,3),(3,9)],4,40,[.int .i64 0,.int .i64 0,.int .i64 0,.str []],some (.st .version)⟩),(34,⟨.strct true [(0,32),(1,3)],2,16,[.int .i64 0,.int .i64 0],some (.st .fault)⟩),(146,L7),(45,⟨.slice 47,1,24,[.nils],some (.lst (.st .shape))⟩),(4,⟨.bool,1,1,[.bool false],some .bool⟩),(198,La),(61,⟨.slice 63,1,24,[.nils],some (.lst (.st .term))⟩),(196,L9),(32,r2),(251,⟨.strct false [(0,139),(1,3),(2,34)],4,48,[.nils,.int .i64 0,.int .i64 0,.int .i64 0],some (.st .par)⟩),(139,⟨.slice 149,1,24,[.nils],some (.lst (.st .token))⟩),(26,⟨.strct false [(0,9),(1,22),(2,23),(3,24),(4,3)],5,96,[.str [],.nils,.nils,.nils,.int .i64 0],some (.st .modu)⟩),(155,⟨.slice 3,1,24,[.nils],some (.lst (.int .i64))⟩),(194,⟨.ptr 198,1,8,[.nilp],none⟩),(144,Gp),(65,⟨.strct false [(0,3),(1,9),(2,47),(7,63),(16,3)],17,272,[.int .i64 0,.str [],.int .i64 0,.str [],.str [],.nils,.nils,.int .i64 0,.str [],.str [],.int .i64 0,.nils,.nils,.nils,.nils,.int .i64 0,.int .i64 0],some (.st .decl)⟩),(39,⟨.slice 59,1,24,[.nils],some (.lst (.st .bound))⟩),(41,⟨.strct false [(0,9),(1,38),(5,39),(6,3)],7,88,[.str [],.int .i64 0,.int .i64 0,.int .i64 0,.str [],.nils,.int .i64 0],some (.st .imp)⟩),(1,r1),(59,⟨.strct true [(0,3),(1,38)],5,48,[.int .i64 0,.int .i64 0,.int .i64 0,.int .i64 0,.str []],some (.st .bound)⟩),(22,⟨.slice 41,1,24,[.nils],some (.lst (.st .imp))⟩),(288,⟨.slice 5,1,24,[.nils],some (.lst (.int .u8))⟩),(247,⟨.map 9 3,1,8,[.nilm],none⟩),(147,r1),(23,⟨.slice 65,1,24,[.nils],some (.lst (.st .decl))⟩),(283,⟨.arr 3 3,3,24,[.int .i64 0,.int .i64 0,.int .i64 0],none⟩),(21,r21),(191,L8),(219,r1),(50,r1),(113,r1),(20,r20),(190,L8),(299,Lb),(250,Gp),(252,⟨.strct false [(0,251)],4,48,[.nils,.int .i64 0,.int .i64 0,.int .i64 0],none⟩),(58,⟨.strct true [(0,3),(1,38)],5,48,[.int .i64 0,.int .i64 0,.int .i64 0,.int .i64 0,.str []],none⟩),(46,⟨.strct false [(0,3),(1,9),(2,9),(3,24),(4,45)],5,88,[.int .i64 0,.str [],.str [],.nils,.nils],none⟩),(62,⟨.strct false [(0,3),(1,9),(2,9),(3,3),(4,24),(5,24),(6,45),(7,61),(8,3)],9,152,[.int .i64 0,.str [],.str [],.int .i64 0,.nils,.nils,.nils,.nils,.int .i64 0],none⟩),(64,⟨.strct false [(0,3),(1,9),(2,47),(7,63),(16,3)],17,272,[.int .i64 0,.str [],.int .i64 0,.str [],.str [],.nils,.nils,.int .i64 0,.str [],.str [],.int .i64 0,.nils,.nils,.nils,.nils,.int .i64 0,.int .i64 0],none⟩),(37,⟨.strct true [(0,3),(1,3),(2,3),(3,9)],4,40,[.int .i64 0,.int .i64 0,.int .i64 0,.str []],none⟩),(40,⟨.strct false [(0,9),(1,38),(5,39),(6,3)],7,88,[.str [],.int .i64 0,.int .i64 0,.int .i64 0,.str [],.nils,.int .i64 0],none⟩),(197,La),(195,L9),(148,⟨.strct true [(0,3),(1,9),(2,3)],3,32,[.int .i64 0,.str [],.int .i64 0],none⟩),(145,L7),(143,Gp),(33,⟨.strct true [(0,32),(1,3)],2,16,[.int .i64 0,.int .i64 0],none⟩),(25,⟨.strct false [(0,9),(1,22),(2,23),(3,24),(4,3)],5,96,[.str [],.nils,.nils,.nils,.int .i64 0],none⟩)]
theorem pw:aZ Tryz.prog ax:=.cons tk (.cons tk (.cons tk (.cons tk (.cons tk (.cons tk (.cons tk (.cons tk (.cons tk (.cons tk (.cons tk (.cons tk (.cons tk (.cons tk (.cons tk (.cons tk (.cons tk (.cons tk (.cons tk (.cons tk (.cons tk (.cons tk (.cons tk (.cons tk (.cons tk (.cons tk (.cons tk (.cons tk (.cons tk (.cons tk (.cons tk (.cons tk (.cons tk (.cons tk (.cons tk (.cons tk (.cons tk (.cons tk (.cons tk (.cons tk (.cons tk (.cons tk (.cons tk (.cons tk (.cons tk (.cons tk (.cons tk (.cons tk (.cons tk (.cons tk (.cons tk (.cons tk (.cons tk (.cons tk (.cons tk (.cons tk (.cons tk (.cons tk (.cons tk (.nil)))))))))))))))))))))))))))))))))))))))))))))))))))))))))))
end Go.AL.Seat
end
noncomputable section
namespace Go.AL.Seat
open Go Go.AL Go.Proofs
set_option maxRecDepth 1000000
variable [Tabs]
def yH(f:Nat):List (Option Nat):=if Nat.beq f 121||Nat.beq f 122 then[some 2]else if Nat.beq f 68||(Nat.beq f 69||(Nat.beq f 73||(Nat.beq f 74||(Nat.beq f 75||Nat.beq f 126))))then[some 4]else if Nat.beq f 57||Nat.beq f 61 then[some 1004]else[]
def yI(f:Nat):Bool:=false
def my:List (Nat×FB):=(32,aV ax Tryz.f32 288511851128455421 [] (fun _=>false) (fun _=>false) (fun _=>false) false)::(67,aV ax Tryz.f67 77975715369647181664879229 [] (fun _=>false) (fun _=>false) (fun _=>false) false)::(68,aV ax Tryz.f68 259 [] (fun _=>false) (fun _=>false) (fun _=>false) false)::(69,aV ax Tryz.f69 65587 [] (fun _=>false) (fun _=>false) (fun _=>false) false)::(70,aV ax Tryz.f70 19380592045697041145266237 [] (fun _=>false) (fun _=>false) (fun _=>false) false)::(71,aV ax Tryz.f71 38685626517024445242019965 [] (fun _=>false) (fun _=>false) (fun _=>false) false)::(72,aV ax Tryz.f72 1180591655902890688517 [] (fun _=>false) (fun _=>false) (fun _=>false) false)::(73,aV ax Tryz.f73 5 [] (fun _=>false) (fun _=>false) (fun _=>false) false)::(74,aV ax Tryz.f74 263 [] (fun _=>false) (fun _=>false) (fun _=>false) false)::(75,aV ax Tryz.f75 5 [] (fun _=>false) (fun _=>false) (fun _=>false) false)::(121,aV ax Tryz.f121 65555 [] (fun _=>false) (fun _=>false) (fun _=>false) false)::(122,aV ax Tryz.f122 4294967347 [] (fun _=>false) (fun _=>false) (fun _=>false) false)::(123,aV ax Tryz.f123 5 [] (fun _=>false) (fun _=>false) (fun _=>false) false)::(124,aV ax Tryz.f124 8388935 [] (fun _=>false) (fun _=>false) (fun _=>false) false)::(125,aV ax Tryz.f125 87112288527988523651034566703108870643455 [] (fun _=>false) (fun _=>false) (fun d=>Nat.beq d 21) false)::(126,aV ax Tryz.f126 67108915 [] (fun _=>false) (fun _=>false) (fun _=>false) false)::(127,aV ax Tryz.f127 19 [] (fun _=>false) (fun _=>false) (fun _=>false) false)::(128,aV ax Tryz.f128 8388807 [] (fun _=>false) (fun _=>false) (fun _=>false) false)::(129,aV ax Tryz.f129 13 [] (fun _=>false) (fun _=>false) (fun _=>false) false)::(130,aV ax Tryz.f130 2361185498182472704253 [] (fun _=>false) (fun _=>false) (fun _=>false) false)::(50,aV ax Tryz.f50 659706875863 [] (fun _=>false) (fun _=>false) (fun _=>false) false)::(131,aV ax Tryz.f131 9016029707634675 [] (fun _=>false) (fun _=>false) (fun _=>false) false)::(132,aV ax Tryz.f132 134250995 [] (fun _=>false) (fun _=>false) (fun _=>false) false)::(156,aV ax Tryz.f156 549890048253 [] (fun _=>false) (fun _=>false) (fun _=>false) false)::(157,aV ax Tryz.f157 71 [] (fun _=>false) (fun _=>false) (fun _=>false) false)::(158,aV ax Tryz.f158 79 [] (fun _=>false) (fun _=>false) (fun _=>false) false)::(84,aV ax Tryz.f84 5 [] (fun _=>false) (fun _=>false) (fun _=>false) false)::(92,aV ax Tryz.f92 5 [] (fun _=>false) (fun _=>false) (fun _=>false) false)::(135,aV ax Tryz.f135 5 [] (fun _=>false) (fun _=>false) (fun _=>false) false)::(85,aV ax Tryz.f85 29 [] (fun _=>false) (fun _=>false) (fun _=>false) false)::(159,aV ax Tryz.f159 5 [] (fun _=>false) (fun _=>false) (fun _=>false) false)::(160,aV ax Tryz.f160 5 [] (fun _=>false) (fun _=>false) (fun _=>false) false)::(162,aV ax Tryz.f162 151115799509488183025661 [] (fun _=>false) (fun _=>false) (fun _=>false) false)::(163,aV ax Tryz.f163 618970019647202533975261693 [] (fun _=>false) (fun _=>false) (fun _=>false) false)::(164,aV ax Tryz.f164 29 [] (fun _=>false) (fun _=>false) (fun _=>false) false)::(165,aV ax Tryz.f165 19 [] (fun _=>false) (fun _=>false) (fun _=>false) false)::(166,aV ax Tryz.f166 66483 [] (fun _=>false) (fun _=>false) (fun _=>false) false)::(167,aV ax Tryz.f167 4195343 [] (fun _=>false) (fun _=>false) (fun _=>false) false)::(89,aV ax Tryz.f89 36909250894291276799 [] (fun _=>false) (fun _=>false) (fun d=>Nat.beq d 17||Nat.beq d 22||Nat.beq d 27||Nat.beq d 29||Nat.beq d 43||Nat.beq d 46||Nat.beq d 63) false)::(168,aV ax Tryz.f168 33816627 [] (fun _=>false) (fun _=>false) (fun _=>false) false)::(169,aV ax Tryz.f169 5 [] (fun _=>false) (fun _=>false) (fun _=>false) false)::(170,aV ax Tryz.f170 268439557 [] (fun _=>false) (fun _=>false) (fun _=>false) false)::(171,aV ax Tryz.f171 81129648086015544455969055506495 [] (fun _=>false) (fun _=>false) (fun _=>false) false)::(91,aV ax Tryz.f91 74783 [] (fun _=>false) (fun _=>false) (fun _=>false) false)::(172,aV ax Tryz.f172 263 [] (fun _=>false) (fun _=>false) (fun _=>false) false)::(173,aV ax Tryz.f173 2228285 [] (fun _=>false) (fun _=>false) (fun _=>false) false)::(137,aV ax Tryz.f137 5 [] (fun _=>false) (fun _=>false) (fun _=>false) false)::(48,aV ax Tryz.f48 9316337836119 [] (fun _=>false) (fun _=>false) (fun _=>false) false)::(212,aV ax Tryz.f212 5 [] (fun _=>false) (fun _=>false) (fun _=>false) false)::(214,aV ax Tryz.f214 66483 [] (fun _=>false) (fun _=>false) (fun _=>false) false)::(138,aV ax Tryz.f138 604275 [] (fun _=>false) (fun _=>false) (fun _=>false) false)::(41,aV ax Tryz.f41 17389 [] (fun _=>false) (fun _=>false) (fun _=>false) false)::(139,aV ax Tryz.f139 2623603 [] (fun _=>false) (fun _=>false) (fun _=>false) false)::(215,aV ax Tryz.f215 3 [] (fun d=>Nat.beq d 8) (fun _=>false) (fun _=>false) false)::(216,aV ax Tryz.f216 7 [] (fun d=>Nat.beq d 15) (fun _=>false) (fun _=>false) false)::(218,aV ax Tryz.f218 275 [] (fun _=>false) (fun _=>false) (fun _=>false) false)::(217,aV ax Tryz.f217 131 [] (fun _=>false) (fun _=>false) (fun _=>false) false)::(220,aV ax Tryz.f220 7 [] (fun _=>false) (fun _=>false) (fun _=>false) false)::(219,aV ax Tryz.f219 271375 [] (fun _=>false) (fun _=>false) (fun _=>false) false)::(222,aV ax Tryz.f222 32819 [] (fun _=>false) (fun _=>false) (fun _=>false) false)::(223,aV ax Tryz.f223 15 [] (fun _=>false) (fun _=>false) (fun _=>false) false)::(224,aV ax Tryz.f224 17180524607 [] (fun _=>false) (fun _=>false) (fun _=>false) false)::(142,aV ax Tryz.f142 2223863 [] (fun _=>false) (fun _=>false) (fun _=>false) false)::(143,aV ax Tryz.f143 7 [] (fun _=>false) (fun _=>false) (fun _=>false) false)::(225,aV ax Tryz.f225 324677087359430077278579446644799 [] (fun d=>Nat.beq d 129) (fun _=>false) (fun _=>false) false)::(29,aV ax Tryz.f29 299063 [] (fun _=>false) (fun _=>false) (fun _=>false) false)::(87,aV ax Tryz.f87 18014398524686365 [] (fun _=>false) (fun _=>false) (fun _=>false) false)::(185,aV ax Tryz.f185 5 [] (fun _=>false) (fun _=>false) (fun _=>false) false)::(186,aV ax Tryz.f186 19 [] (fun _=>false) (fun _=>false) (fun _=>false) false)::(261,aV ax Tryz.f261 51 [] (fun _=>false) (fun _=>false) (fun _=>false) false)::(221,aV ax Tryz.f221 65587 [] (fun _=>false) (fun _=>false) (fun _=>false) false)::(262,aV ax Tryz.f262 23945973599159813139139346461134680183357916012085311 [] (fun _=>false) (fun _=>false) (fun _=>false) false)::(263,aV ax Tryz.f263 3 [] (fun d=>Nat.beq d 8) (fun _=>false) (fun _=>false) false)::(188,aV ax Tryz.f188 3537148372723500476506894142080440715070649430595550180525943565456506895 [] (fun _=>false) (fun _=>false) (fun _=>false) false)::(189,aV ax Tryz.f189 27 [] (fun _=>false) (fun _=>false) (fun _=>false) false)::(264,aV ax Tryz.f264 7 [] (fun d=>Nat.beq d 21) (fun _=>false) (fun _=>false) false)::(266,aV ax Tryz.f266 149971 [] (fun _=>false) (fun _=>false) (fun _=>false) false)::(267,aV ax Tryz.f267 3 [] (fun d=>Nat.beq d 8) (fun _=>false) (fun _=>false) false)::(65,aV ax Tryz.f65 31 [] (fun _=>false) (fun _=>false) (fun _=>false) false)::(30,aV ax Tryz.f30 2159703 [] (fun _=>false) (fun _=>false) (fun _=>false) false)::(66,aV ax Tryz.f66 10141204803006463002229839257615 [] (fun _=>false) (fun _=>false) (fun _=>false) false)::(298,aV ax Tryz.f298 3 [] (fun d=>Nat.beq d 23) (fun _=>false) (fun _=>false) false)::(299,aV ax Tryz.f299 13 [] (fun _=>false) (fun _=>false) (fun _=>false) false)::(233,aV ax Tryz.f233 7 [] (fun _=>false) (fun _=>false) (fun _=>false) false)::(234,aV ax Tryz.f234 27 [] (fun _=>false) (fun _=>false) (fun _=>false) false)::(235,aV ax Tryz.f235 7 [] (fun _=>false) (fun _=>false) (fun _=>false) false)::(236,aV ax Tryz.f236 2098133 [] (fun _=>false) (fun _=>false) (fun _=>false) false)::(237,aV ax Tryz.f237 13 [] (fun _=>false) (fun _=>false) (fun _=>false) false)::(238,aV ax Tryz.f238 27 [] (fun _=>false) (fun _=>false) (fun _=>false) false)::(240,aV ax Tryz.f240 15 [] (fun _=>false) (fun _=>false) (fun _=>false) false)::(239,aV ax Tryz.f239 19 [] (fun _=>false) (fun _=>false) (fun _=>false) false)::(265,aV ax Tryz.f265 5 [] (fun _=>false) (fun _=>false) (fun _=>false) false)::(116,aV ax Tryz.f116 33071 [] (fun _=>false) (fun _=>false) (fun _=>false) false)::(118,aV ax Tryz.f118 17 [] (fun _=>false) (fun _=>false) (fun _=>false) false)::(117,aV ax Tryz.f117 246479 [] (fun _=>false) (fun _=>false) (fun _=>false) false)::(119,aV ax Tryz.f119 4444215 [] (fun _=>false) (fun _=>false) (fun _=>false) false)::(120,aV ax Tryz.f120 5 [] (fun _=>false) (fun _=>false) (fun _=>false) false)::(272,aV ax Tryz.f272 15 [] (fun _=>false) (fun _=>false) (fun _=>false) false)::(140,aV ax Tryz.f140 19 [] (fun _=>false) (fun _=>false) (fun _=>false) false)::(273,aV ax Tryz.f273 7 [] (fun _=>false) (fun _=>false) (fun _=>false) false)::(94,aV ax Tryz.f94 7 [] (fun _=>false) (fun _=>false) (fun _=>false) false)::(276,aV ax Tryz.f276 11 [] (fun _=>false) (fun _=>false) (fun _=>false) false)::(275,aV ax Tryz.f275 19 [] (fun _=>false) (fun _=>false) (fun _=>false) false)::(277,aV ax Tryz.f277 66483 [] (fun _=>false) (fun _=>false) (fun _=>false) false)::(187,aV ax Tryz.f187 66483 [] (fun _=>false) (fun _=>false) (fun _=>false) false)::(146,aV ax Tryz.f146 16883 [] (fun _=>false) (fun _=>false) (fun _=>false) false)::(302,aV ax Tryz.f302 66483 [] (fun _=>false) (fun _=>false) (fun _=>false) false)::[]
theorem jH:au Tryz.prog my:=au.cons Tryz.func32 (by kernel_rfl) (au.cons Tryz.func67 (by kernel_rfl) (au.cons Tryz.func68 (by kernel_rfl) (au.cons Tryz.func69 (by kernel_rfl) (au.cons Tryz.func70 (by kernel_rfl) (au.cons Tryz.func71 (by kernel_rfl) (au.cons Tryz.func72 (by kernel_rfl) (au.cons Tryz.func73 (by kernel_rfl) (au.cons Tryz.func74 (by kernel_rfl) (au.cons Tryz.func75 (by kernel_rfl) (au.cons Tryz.func121 (by kernel_rfl) (au.cons Tryz.func122 (by kernel_rfl) (au.cons Tryz.func123 (by kernel_rfl) (au.cons Tryz.func124 (by kernel_rfl) (au.cons Tryz.func125 (by kernel_rfl) (au.cons Tryz.func126 (by kernel_rfl) (au.cons Tryz.func127 (by kernel_rfl) (au.cons Tryz.func128 (by kernel_rfl) (au.cons Tryz.func129 (by kernel_rfl) (au.cons Tryz.func130 (by kernel_rfl) (au.cons Tryz.func50 (by kernel_rfl) (au.cons Tryz.func131 (by kernel_rfl) (au.cons Tryz.func132 (by kernel_rfl) (au.cons Tryz.func156 (by kernel_rfl) (au.cons Tryz.func157 (by kernel_rfl) (au.cons Tryz.func158 (by kernel_rfl) (au.cons Tryz.func84 (by kernel_rfl) (au.cons Tryz.func92 (by kernel_rfl) (au.cons Tryz.func135 (by kernel_rfl) (au.cons Tryz.func85 (by kernel_rfl) (au.cons Tryz.func159 (by kernel_rfl) (au.cons Tryz.func160 (by kernel_rfl) (au.cons Tryz.func162 (by kernel_rfl) (au.cons Tryz.func163 (by kernel_rfl) (au.cons Tryz.func164 (by kernel_rfl) (au.cons Tryz.func165 (by kernel_rfl) (au.cons Tryz.func166 (by kernel_rfl) (au.cons Tryz.func167 (by kernel_rfl) (au.cons Tryz.func89 (by kernel_rfl) (au.cons Tryz.func168 (by kernel_rfl) (au.cons Tryz.func169 (by kernel_rfl) (au.cons Tryz.func170 (by kernel_rfl) (au.cons Tryz.func171 (by kernel_rfl) (au.cons Tryz.func91 (by kernel_rfl) (au.cons Tryz.func172 (by kernel_rfl) (au.cons Tryz.func173 (by kernel_rfl) (au.cons Tryz.func137 (by kernel_rfl) (au.cons Tryz.func48 (by kernel_rfl) (au.cons Tryz.func212 (by kernel_rfl) (au.cons Tryz.func214 (by kernel_rfl) (au.cons Tryz.func138 (by kernel_rfl) (au.cons Tryz.func41 (by kernel_rfl) (au.cons Tryz.func139 (by kernel_rfl) (au.cons Tryz.func215 (by kernel_rfl) (au.cons Tryz.func216 (by kernel_rfl) (au.cons Tryz.func218 (by kernel_rfl) (au.cons Tryz.func217 (by kernel_rfl) (au.cons Tryz.func220 (by kernel_rfl) (au.cons Tryz.func219 (by kernel_rfl) (au.cons Tryz.func222 (by kernel_rfl) (au.cons Tryz.func223 (by kernel_rfl) (au.cons Tryz.func224 (by kernel_rfl) (au.cons Tryz.func142 (by kernel_rfl) (au.cons Tryz.func143 (by kernel_rfl) (au.cons Tryz.func225 (by kernel_rfl) (au.cons Tryz.func29 (by kernel_rfl) (au.cons Tryz.func87 (by kernel_rfl) (au.cons Tryz.func185 (by kernel_rfl) (au.cons Tryz.func186 (by kernel_rfl) (au.cons Tryz.func261 (by kernel_rfl) (au.cons Tryz.func221 (by kernel_rfl) (au.cons Tryz.func262 (by kernel_rfl) (au.cons Tryz.func263 (by kernel_rfl) (au.cons Tryz.func188 (by kernel_rfl) (au.cons Tryz.func189 (by kernel_rfl) (au.cons Tryz.func264 (by kernel_rfl) (au.cons Tryz.func266 (by kernel_rfl) (au.cons Tryz.func267 (by kernel_rfl) (au.cons Tryz.func65 (by kernel_rfl) (au.cons Tryz.func30 (by kernel_rfl) (au.cons Tryz.func66 (by kernel_rfl) (au.cons Tryz.func298 (by kernel_rfl) (au.cons Tryz.func299 (by kernel_rfl) (au.cons Tryz.func233 (by kernel_rfl) (au.cons Tryz.func234 (by kernel_rfl) (au.cons Tryz.func235 (by kernel_rfl) (au.cons Tryz.func236 (by kernel_rfl) (au.cons Tryz.func237 (by kernel_rfl) (au.cons Tryz.func238 (by kernel_rfl) (au.cons Tryz.func240 (by kernel_rfl) (au.cons Tryz.func239 (by kernel_rfl) (au.cons Tryz.func265 (by kernel_rfl) (au.cons Tryz.func116 (by kernel_rfl) (au.cons Tryz.func118 (by kernel_rfl) (au.cons Tryz.func117 (by kernel_rfl) (au.cons Tryz.func119 (by kernel_rfl) (au.cons Tryz.func120 (by kernel_rfl) (au.cons Tryz.func272 (by kernel_rfl) (au.cons Tryz.func140 (by kernel_rfl) (au.cons Tryz.func273 (by kernel_rfl) (au.cons Tryz.func94 (by kernel_rfl) (au.cons Tryz.func276 (by kernel_rfl) (au.cons Tryz.func275 (by kernel_rfl) (au.cons Tryz.func277 (by kernel_rfl) (au.cons Tryz.func187 (by kernel_rfl) (au.cons Tryz.func146 (by kernel_rfl) (au.cons Tryz.func302 (by kernel_rfl) (au.nil)))))))))))))))))))))))))))))))))))))))))))))))))))))))))))))))))))))))))))))))))))))))))))))))))))))))))))
end Go.AL.Seat
end
noncomputable section
namespace Go.AL.Seat
open Go Go.AL Go.Proofs Go.Pd
set_option maxRecDepth 1000000
def HB:Str:=[109,111,100,117,108,101,32,112,32,105,109,112,111,114,116,32,113,32,112,105,110,32,49,46,48,46,48,32,114,97,110,103,101,32,42,32,108,101,116,32,102,32,61,32,113,47,103,40,49,41,32,101,120,112,111,114,116,32,40,102,41]
def HC:Str:=[109,111,100,117,108,101,32,112,32,101,120,112,111,114,116,32,40,102,41]
def MN:AV:=(.tup [(.lst (.st .token) [⟨5,[109,111,100,117,108,101],0⟩,⟨1,[112],7⟩,⟨5,[105,109,112,111,114,116],9⟩,⟨1,[113],16⟩,⟨5,[112,105,110],18⟩,⟨7,[49,46,48,46,48],22⟩,⟨5,[114,97,110,103,101],28⟩,⟨6,[42],34⟩,⟨5,[108,101,116],36⟩,⟨1,[102],40⟩,⟨6,[61],42⟩,⟨1,[113],44⟩,⟨6,[47],45⟩,⟨1,[103],46⟩,⟨6,[40],47⟩,⟨3,[49],48⟩,⟨6,[41],49⟩,⟨5,[101,120,112,111,114,116],51⟩,⟨6,[40],58⟩,⟨1,[102],59⟩,⟨6,[41],60⟩,⟨0,[],61⟩] none),(.agg [(.int .i64 0),(.int .i64 0)])])
def MO:AV:=(.tup [(.lst (.st .token) [⟨5,[109,111,100,117,108,101],0⟩,⟨1,[112],7⟩,⟨5,[101,120,112,111,114,116],9⟩,⟨6,[40],16⟩,⟨1,[102],17⟩,⟨6,[41],18⟩,⟨0,[],19⟩] none),(.agg [(.int .i64 0),(.int .i64 0)])])
variable [Tabs] [SeatLaid]
theorem Nn:al Tryz.prog 67 [.str HB] [] (.ret MN):=iZ (n:=100) mixed pw pq jH (by kernel_rfl:vk ax my yI yH 5000 (fY ri) 100 67 [.str HB] []=some ⟨none,none,MN,[]⟩)
theorem No:al Tryz.prog 67 [.str HC] [] (.ret MO):=iZ (n:=100) mixed pw pq jH (by kernel_rfl:vk ax my yI yH 5000 (fY ri) 100 67 [.str HC] []=some ⟨none,none,MO,[]⟩)
def Ed:List (Nat×Pat):=(67,wx [.str HB] MN)::(67,wx [.str HC] MO)::ri
theorem wO:bM Tryz.prog (fY Ed):=sc (rU (ee Tryz.func67) Nn) (sc (rU (ee Tryz.func67) No) pq)
end Go.AL.Seat
end
noncomputable section
namespace Go.AL.Seat
open Go Go.AL Go.Proofs Go.Pd
set_option maxRecDepth 1000000
def MP:AV:=(.tup [(.agg [(.str [112]),(.lst (.st .imp) [⟨[113],⟨1,0,0,[]⟩,[],9⟩] none),(.lst (.st .decl) [⟨3,[102],⟨0,[],[],[],[]⟩,⟨7,[],[],0,[],[],[],[⟨5,[113],[103],0,[],[],[],[],44⟩,⟨1,[],[],1,[],[],[],[],48⟩],44⟩,36⟩] none),(.lst .str [[102]] none),(.int .i64 51)]),(.agg [(.int .i64 0),(.int .i64 0)])])
def MQ:AV:=(.tup [(.agg [(.str [112]),.nils,.nils,(.lst .str [[102]] none),(.int .i64 9)]),(.agg [(.int .i64 0),(.int .i64 0)])])
variable [Tabs] [SeatLaid]
theorem Np:al Tryz.prog 32 [.str HB] [] (.ret MP):=iZ (n:=100) mixed pw wO jH (by kernel_rfl:vk ax my yI yH 5000 (fY Ed) 100 32 [.str HB] []=some ⟨none,none,MP,[]⟩)
theorem Nq:al Tryz.prog 32 [.str HC] [] (.ret MQ):=iZ (n:=100) mixed pw wO jH (by kernel_rfl:vk ax my yI yH 5000 (fY Ed) 100 32 [.str HC] []=some ⟨none,none,MQ,[]⟩)
end Go.AL.Seat
end
noncomputable section
namespace Go.AL
variable [Tabs]
section
variable {P:Program} {ops:Array Oper} {Q:Exit->Act->World->Prop}
theorem Ke{l n:Nat}{f:FuncId}{args:Array Value}{w:World}{R:Ending->World->Prop}(h:CallsIn Fence.wide n P f args w R):CallsIn (Fence.wide.inRound l) n P f args w R:=h
theorem LJ{l n i:Nat}{K K':Act->World->Prop}{a:Act}{w:World}(hd:∀o∈ops.toList,∀c,o.op≠.defer c)(hL:¬LetsOut Q)(hK:∀a w,K a w->K' a w)
 (h:wpOp P ops Q i K a w):wpOpIn (Fence.wide.inRound l) n P ops Q i K' a w:=by
 unfold wpOp at h;unfold wpOpIn
 cases ho:ops[i]? with
 |none=>simp only[ho]at h⊢;exact hK _ _ h
 |some o=>
  have hm:o∈ops.toList:=NW (by rw[NO];exact ho);simp only[ho]at h⊢;split
  ·rename_i hw;simp only[hw,Ov]at h;rcases h with h|h
   case inr=>exact absurd h.2 hL
   refine⟨fun _ _=>trivial,?_⟩;rw[Oper.semAt_eq _ _ _ (hd o hm)];unfold Oper.wp at h;have hn:∀q:Prop,((Fence.wide.inRound l).depth.isSome=true->q):=fun q h=>by cases h
   generalize (execOp a.eval o).run P w=r at h⊢
   cases r with
   |ok x w'=>
    cases x<;>simp only[Oper.upon,Oper.uponIn]at h⊢<;>
     first
      |exact hK _ _ h
      |exact⟨hn _,Ke ((callsIn_wide.2 h).mono fun e w'' he=>by cases e<;>first|exact hK _ _ he|exact he)⟩
      |exact⟨hn _,fun c cs hr=>let ⟨v,w',q,st⟩:=h c cs;⟨v,w',hK _ _ q,stepsIn_wide.2 st⟩⟩
      |exact h.elim
   |halt x w'=>cases x<;>simp only[Oper.upon,Oper.uponIn]at h⊢<;>exact h
  ·rename_i hw;simp only[hw]at h;exact⟨fun _ _=>trivial,hK _ _ h⟩
theorem BG{l n:Nat}(hd:∀o∈ops.toList,∀c,o.op≠.defer c)(hL:¬LetsOut Q):∀(fuel:Nat)(listed:Array Bool)(a:Act)(w:World),
  wpAny P .any ops Q fuel listed a w->wpAnyIn (Fence.wide.inRound l) n P .any ops Q fuel listed a w
 |0,listed,a,w,h=>h
 |fuel+1,listed,a,w,h=>⟨h.1,fun i hi=>LJ hd hL (fun a w=>BG hd hL fuel _ a w) (h.2 i hi)⟩
end
section
variable {P:Program} {C:Cfg} {F:Fr} {ops:Array Oper}
theorem LK{F:Fr}{Q:SX->St->Prop}:¬LetsOut (QL F Q):=fun⟨a,w,x,s,Ω,h,_⟩=>by
 cases x<;>first|(obtain⟨v,h,_⟩:=h;cases h)|cases h
theorem HD(hm:P.follows .mixedOrders=true)(hT:aZ P C.tbl)(hS:bM P C.spec)(keep:List Nat){id l n:Nat}{s:St}{Q:SX->St->Prop}{a:Act}{Ω:Om}
 (hdst:∀(o:Oper),o∈ops.toList->∀d,o.dst=some d->d<F.n)(hd:∀o∈ops.toList,∀c,o.op≠.defer c)
 (h:kA C keep ops true s Q)(hh:Holds F s.abs a Ω):(Code.region id ops true).wpIn (Fence.wide.inRound l) n P (QL F Q) a Ω.w:=by
 refine wpIn_region_any hm (BG hd LK _ _ _ _ ?_);unfold kA at h
 have key:∀s' fs,(fw (trim keep s') fun s'=>if true=true then(if dC ops.toList fs=true then Q .normal s' else False)else Q .normal s')->
   dC ops.toList fs=true/\Q .normal (trim keep s'):=by
  intro s' fs hk;simp only[cQ,Ov]at hk;rcases Pr (dC ops.toList fs=true)with k|k
  ·rw[NC k]at hk;exact⟨k,hk⟩
  ·rw[Ny k]at hk;exact hk.elim
 refine tq hT hS hdst h (fun s' fs hk=>let ⟨s2,h2⟩:=mM _ hk;(key s2 fs h2).1) hh (fun s' fs a' Ω' hk h'=>
   let ⟨s2,Ω2,g1,g2,g3⟩:=nI h' hk
   ⟨.normal,trim keep s2,Ω2,rfl,g1,g2.trim keep,(key s2 fs g3).2⟩)
  (fun pv s' a' Ω' v hk h' hv=>?_)
 simp only[cQ,forceV_eq]at hk;exact⟨.pan pv,s',Ω',⟨v,rfl,hv⟩,rfl,h',hk⟩
end
theorem bh.blkW{Ω:Om}{own:Nat->Nat->Prop}{id:Nat}{ob:SObj}(hs:bh Ω own id ob){b o:Nat}{c:CObj}(hc:Ω.e id=some c)(hb:occ c b o):b<Ω.w.heap.size:=by
  cases ob with
  |box x=>
   obtain⟨b',off,he,hh⟩:=hs;rw[he]at hc;simp only[Xs]at hc;subst hc;obtain⟨rfl,h1,h2⟩:=hb;have hj:o-off<(ae x).length:=by omega
   obtain⟨_,_,_,v,hv,_⟩:=hh (o-off) _ (Nw hj);exact aL hv
  |tail τ n=>obtain⟨base,cap,he,_,_,_,hb'⟩:=hs;rw[he]at hc;simp only[Xs]at hc;subst hc;obtain⟨_,vs,ty,fz,hh,_⟩:=hb' b hb;exact aM hh
  |map κ τ m=>obtain⟨r,he,_,es,clock,hh,_⟩:=hs;rw[he]at hc;simp only[Xs]at hc;subst hc;have:b=r:=hb;subst this;exact aM hh
  |bld t u l=>obtain⟨b0,g,he,_,hh⟩:=hs;rw[he]at hc;simp only[Xs]at hc;subst hc;exact hh.lt hb
  |tailp τ n x=>
   obtain⟨b0,cap,he,_,_,_,⟨vs,ty,fz,hh,_⟩,_⟩:=hs;rw[he]at hc;simp only[Xs]at hc;subst hc;have:b0=b:=by simpa[occ]using hb
   subst this;exact aM hh
  |grow τ n xs=>obtain⟨base,cap,he,_,_,_,hb'⟩:=hs;rw[he]at hc;simp only[Xs]at hc;subst hc;obtain⟨_,⟨vs,ty,fz,hh,_⟩,_⟩:=hb' b hb;exact aM hh
theorem After.owns{w w1:World}{pub bV:Nat->Nat->Prop}{e e1:Nat->Option CObj}{B:Nat->Option SObj}(h:After w pub e B w1 bV e1){b o:Nat}(ho:gP e1 b o):w.heap.size<=b∨gP e b o:=by
 obtain⟨id,c,hc,hoc⟩:=ho
 cases hB:B id with
 |none=>rw[h.dom id hB]at hc;cases hc
 |some ob=>exact(h.slots id ob hB).owns hc hoc
theorem After.trans{w w1 w2:World}{pub bV pub2:Nat->Nat->Prop}{e e1 e2:Nat->Option CObj}{B B':Nat->Option SObj}(h:After w pub e B w1 bV e1)(k:After w1 bV e1 B' w2 pub2 e2) :
  After w pub e B' w2 pub2 e2:=by
 have hs:=h.size
 have no:∀{b o},b<w.heap.size->¬gP e b o->¬gP e1 b o:=fun hb hn ho=>by
  rcases h.owns ho with q|q
  ·omega
  ·exact hn q
 have up:∀{b o},(w1.heap.size<=b∨gP e1 b o)->w.heap.size<=b∨gP e b o:=fun ho=>by
  rcases ho with q|q
  ·exact .inl (OY hs q)
  ·exact h.owns q
 refine⟨k.os.trans h.os,k.tape.trans h.tape,k.output.trans h.output,OY hs k.size,fun b hb hn=>?_,fun b o hb hn=>?_,fun b hb hn=>?_,h.ext.trans k.ext,fun b o hp=>?_,k.ok,fun id o ho=>?_,k.dom,k.inj⟩
 ·exact(k.block b (by omega) fun o=>no hb (hn o)).trans (h.block b hb hn)
 ·exact(k.cell b o (by omega) (no hb hn)).trans (h.cell b o hb hn)
 ·obtain⟨a1,a2⟩:=h.kind b hb hn
  obtain⟨b1,b2⟩:=k.kind b (by omega) fun ha=>hn fun o=>by
   rcases h.owns (ha o)with q|q
   ·omega
   ·exact q
  exact⟨b1.trans a1,fun o=>(b2 o).trans (a2 o)⟩
 ·rcases k.fresh b o hp with q|q
  ·exact h.fresh b o q
  ·exact .inr (up q)
 ·exact(k.slots id o ho).own_of fun c b o' hc hoc=>up ((k.slots id o ho).owns hc hoc)
theorem After.post{w w1 w2:World}{pub bV:Nat->Nat->Prop}{e e1:Nat->Option CObj}{B:Nat->Option SObj}(h:After w pub e B w1 bV e1)
 (hos:w2.os=w1.os)(htape:w2.tape=w1.tape)(hout:w2.output=w1.output)(hsize:w1.heap.size<=w2.heap.size)
 (hb:∀b,b<w1.heap.size->w2.heap[b]?=w1.heap[b]?∨(w.heap.size<=b/\(∀o,¬gP e1 b o)/\∀o,¬bV b o)):After w pub e B w2 bV e1:=by
 have hs:=h.size;have old:∀{b},b<w.heap.size->w2.heap[b]?=w1.heap[b]?:=fun hlt=>(hb _ (by omega)).resolve_right fun q=>by omega
 have pubc:∀b o,bV b o->w2.cell? ⟨b,o,none⟩=w1.cell? ⟨b,o,none⟩:=fun b o hp=>by obtain⟨v,hv⟩:=h.ok b o hp;exact ai ((hb b (aL hv)).resolve_right fun q=>q.2.2 o hp) o
 have hx:Ext ⟨e1,w1,bV⟩ ⟨e1,w2,bV⟩:=⟨fun _ c hc=>⟨c,hc,CLe.refl c⟩,fun _ _ p=>p,pubc⟩
 refine⟨hos.trans h.os,htape.trans h.tape,hout.trans h.output,OY hs hsize,fun b hlt hn=>(old hlt).trans (h.block b hlt hn),fun b o hlt hn=>(ai (old hlt) o).trans (h.cell b o hlt hn),
  fun b hlt hn=>?_,h.ext.trans hx,h.fresh,fun b o hp=>?_,fun id o ho=>?_,h.dom,h.inj⟩
 ·obtain⟨a1,a2⟩:=h.kind b hlt hn;exact⟨(aW (old hlt)).trans a1,fun o=>(aP (old hlt) o).trans (a2 o)⟩
 ·rw[pubc b o hp];exact h.ok b o hp
 ·refine(h.slots id o ho).keep hx rfl fun c hc=>jW.of_blocks fun b o' hoc=>⟨?_,fun _ p=>p⟩;rcases NF b w1.heap.size with q|q
  ·exact(hb b q).resolve_right fun r=>r.2.1 o' ⟨id,c,hc,hoc⟩
  ·exact absurd ((h.slots id o ho).blkW hc hoc) (by show ¬b<w1.heap.size;omega)
theorem eh.after{w w1:World}{pub bV:Nat->Nat->Prop}{e e1:Nat->Option CObj}{B:Nat->Option SObj}(ht:eh w pub e)(h:After w pub e B w1 bV e1):eh w1 bV e1:=by
 refine⟨fun b o v hv=>?_,fun b x hx=>?_⟩
 ·obtain⟨h1,h2⟩:=ht.1 b o v hv;exact⟨h.ext.pub b o h1,(h.ext.cell b o h1).trans h2⟩
 ·obtain⟨h1,h2⟩:=ht.2 b x hx;have hlt:=aM h1;refine⟨(h.block b hlt h2).trans h1,fun o ho=>?_⟩;rcases h.owns ho with q|q
  ·omega
  ·exact h2 o q
theorem After.holds{w w1:World}{pub bV:Nat->Nat->Prop}{e e1:Nat->Option CObj}{B:List (Nat×SObj)}(h:After w pub e (aj B) w1 bV e1)(hl:∀id c,e id=some c->bd id=true)(ht:eh w pub e) :
  Holds ⟨w,pub,0,e,hl,[],ht⟩ (St.abs ⟨[],B⟩) {tmps:=#[],defers:=[]} ⟨e1,w1,bV⟩:=
 ⟨fun i=>.undef _,rfl,rfl,h.slots,h.dom,h.inj,h.ok,h.ext.e,⟨h.os,h.tape,h.output,h.size,h.block,h.cell,h.kind,fun b o hp=>h.fresh b o hp,h.ext.pub,h.ext.cell⟩⟩
theorem After.drop{w w1:World}{pub bV:Nat->Nat->Prop}{e e1:Nat->Option CObj}{B B':List (Nat×SObj)}(h:After w pub e (aj B) w1 bV e1)(hl:∀id c,e id=some c->bd id=true)(ht:eh w pub e){A:List Nat}
 (hB:∀i,i∈A->aj B' i=none)(hB':∀i,i∉A->aj B' i=aj B i)(hn:bU A ⟨[],B'⟩=true)(hA:∀i∈A,e i=none) :
  After w pub e (aj B') w1 bV (fun i=>if i∈A then none else e1 i):=
 fF (T:=fun _=>.undef) (Holds.forget1 (s':=⟨[],B'⟩) (h.holds hl ht) (fun i=>.inl rfl) hB hB' hn hA)
theorem After.lay{w w1:World}{pub bV:Nat->Nat->Prop}{e e1:Nat->Option CObj}{B:List (Nat×SObj)}(h:After w pub e (aj B) w1 bV e1){id b off:Nat}{c:AV}(hid:aj B id=none)
 (hc:∀(j:Nat)(c':AV),(ae c)[j]?=some c'->(w.heap.size<=b∨gP e b (off+j))/\¬gP e1 b (off+j)/\¬bV b (off+j)/\w1.frozen? ⟨b,off+j,none⟩=false/\∃v,w1.cell? ⟨b,off+j,none⟩=some v/\V ⟨e1,w1,bV⟩ c' v) :
  After w pub e (aj ((id,.box c)::B)) w1 bV (fun i=>if i=id then some (.box b off (ae c).length)else e1 i):=by
 have hn:=h.dom id hid
 have hx:Ext ⟨e1,w1,bV⟩ ⟨fun i=>if i=id then some (.box b off (ae c).length)else e1 i,w1,bV⟩:=by
  refine⟨fun i c' hi=>⟨c',?_,CLe.refl c'⟩,fun _ _ p=>p,fun _ _ _=>rfl⟩;have:i≠id:=fun e=>by subst e;have hi:e1 i=some c':=hi;rw[hn]at hi;cases hi
  simp only[Ny this];exact hi
 have bg:∀i,aj ((id,SObj.box c)::B) i=if i=id then some (.box c)else aj B i:=fun i=>by
  by_cases hi:i=id
  ·subst hi;simp[aj]
  ·have h1:Nat.beq i id=false:=by cases q:Nat.beq i id with|false=>rfl|true=>exact absurd (NV q) hi
   have h2:Nat.beq id i=false:=by cases q:Nat.beq id i with|false=>rfl|true=>exact absurd (NV q) (fun e=>hi e.symm)
   simp[aj,hi,h1,h2]
 have free:∀i ci o,e1 i=some ci->occ ci b o->off<=o->o<off+(ae c).length->False:=fun i ci o hi ho h1 h2=>by
  have hj:o-off<(ae c).length:=by omega
  have:=(hc (o-off) _ (Nw hj)).2.1;rw[show off+(o-off)=o by omega]at this;exact this ⟨i,ci,hi,ho⟩
 refine⟨h.os,h.tape,h.output,h.size,h.block,h.cell,h.kind,h.ext.trans hx,h.fresh,h.ok,fun i o ho=>?_,fun i hi=>?_,fun i j ci cj b' o hi hj hbi hbj=>?_⟩
 ·rw[bg]at ho;by_cases hi:i=id
  ·subst hi;simp only[Ov,Xs]at ho;subst ho;refine⟨b,off,by simp,fun j c' hj=>?_⟩;obtain⟨k0,_,k2,k3,v,k4,k5⟩:=hc j c' hj;exact⟨k0,k2,k3,v,k4,k5.ext hx⟩
  ·rw[Ny hi]at ho;exact(h.slots i o ho).keep hx (by simp[hi]) (fun _ _=>jW.of_blocks fun _ _ _=>⟨rfl,fun _ p=>p⟩)
 ·rw[bg]at hi;by_cases hi':i=id
  ·rw[NC hi']at hi;cases hi
  ·rw[Ny hi']at hi;simp only[Ny hi'];exact h.dom i hi
 ·by_cases hi':i=id
  ·by_cases hj':j=id
   ·rw[hi',hj']
   ·simp only[NC hi',Xs]at hi;simp only[Ny hj']at hj;subst hi;obtain⟨rfl,h1,h2⟩:=hbi;exact(free j cj o hj hbj h1 h2).elim
  ·by_cases hj':j=id
   ·simp only[NC hj',Xs]at hj;simp only[Ny hi']at hi;subst hj;obtain⟨rfl,h1,h2⟩:=hbj;exact(free i ci o hi hbi h1 h2).elim
   ·simp only[Ny hi']at hi;simp only[Ny hj']at hj;exact h.inj i j ci cj b' o hi hj hbi hbj
theorem After.move{w w1:World}{pub bV:Nat->Nat->Prop}{e e1:Nat->Option CObj}{id id':Nat}{c:AV}{B:List (Nat×SObj)}(h:After w pub e (aj ((id,.box c)::B)) w1 bV e1)
 (hl:∀id c,e id=some c->bd id=true)(ht:eh w pub e)(hid:bd id=false)(hB:aj B id=none)(hB':aj B id'=none)(hn:bU [id] ⟨[],B⟩=true)(hc:∀i∈ids c,i≠id)(hp:∀c'∈ae c,∀i∈ids c',i∈ids c) :
  ∃b off,e1 id=some (.box b off (ae c).length)/\After w pub e (aj ((id',.box c)::B)) w1 bV (fun i=>if i=id' then some (.box b off (ae c).length)else if i∈[id]then none else e1 i):=by
 have b0:aj ((id,SObj.box c)::B) id=some (.box c):=by simp[aj]
 have h1:=h.drop (B':=B) (A:=[id]) hl ht (fun i hi=>by rw[O8.1 hi];exact hB) (fun i hi=>by
   have hi:i≠id:=fun q=>hi (O8.2 q);have h1:Nat.beq i id=false:=by cases q:Nat.beq i id with|false=>rfl|true=>exact absurd (NV q) hi
   have h2:Nat.beq id i=false:=by cases q:Nat.beq id i with|false=>rfl|true=>exact absurd (NV q) (fun e=>hi e.symm)
   simp[aj,h1,h2]) hn (fun i hi=>by
   rw[O8.1 hi]
   cases q:e id with
   |none=>rfl
   |some c'=>have:=hl id c' q;rw[hid]at this;cases this)
 obtain⟨b,off,he,hs⟩:=h.slots id _ b0;have he:e1 id=some (.box b off (ae c).length):=he;refine⟨b,off,he,h1.lay hB' fun j c' hj=>?_⟩;obtain⟨k1,k2,k3,v,k4,k5⟩:=hs j c' hj;refine⟨k1,fun⟨i,ci,hi,ho⟩=>?_,k2,k3,v,k4,k5.agree fun i hi=>Ny fun q=>?_⟩
 ·by_cases q:i∈[id]
  ·simp only[NC q]at hi;cases hi
  ·simp only[Ny q]at hi
   have hj':j<(ae c).length:=by
    rcases NF j (ae c).length with k|k
    ·exact k
    ·rw[Nz k]at hj;cases hj
   exact q (O8.2 (h.inj i id ci _ b (off+j) hi he ho ⟨rfl,by omega,by omega⟩))
 ·exact hc i (hp c' (NW hj) i hi) (O8.1 q)
theorem After.enter{w w1:World}{pub bV:Nat->Nat->Prop}{e e1:Nat->Option CObj}{B:List (Nat×SObj)}(h:After w pub e (aj B) w1 bV e1)(hl:∀id c,e1 id=some c->bd id=true)(ht:eh w1 bV e1)
 {t:List (Nat×AV)}{tmps:Array Value}(hv:∀i,V ⟨e1,w1,bV⟩ (b5 t i) (tmps.getD i undef)) :
  Holds ⟨w1,bV,tmps.size,e1,hl,[],ht⟩ (St.abs ⟨t,B⟩) {tmps,defers:=[]} ⟨e1,w1,bV⟩:=
 ⟨hv,rfl,rfl,fun id o ho=>(h.slots id o ho).own_of fun c b o' hc hoc=>.inr ⟨id,c,hc,hoc⟩,h.dom,h.inj,h.ok,fun id c hc=>⟨c,hc,CLe.refl c⟩,
  ⟨rfl,rfl,rfl,NK _,fun _ _ _=>rfl,fun _ _ _ _=>rfl,fun _ _ _=>⟨rfl,fun _=>rfl⟩,fun _ _ h=>.inl h,fun _ _ h=>h,fun _ _ _=>rfl⟩⟩
theorem After.blk{w w1:World}{pub bV:Nat->Nat->Prop}{e e1:Nat->Option CObj}{B:Nat->Option SObj}(h:After w pub e B w1 bV e1){b o:Nat}(ho:gP e1 b o):b<w1.heap.size:=by
 obtain⟨id,c,hc,hoc⟩:=ho
 cases hB:B id with
 |none=>rw[h.dom id hB]at hc;cases hc
 |some ob=>exact(h.slots id ob hB).blkW hc hoc
theorem After.lent{w w1:World}{pub bV:Nat->Nat->Prop}{e e1:Nat->Option CObj}{B:List (Nat×SObj)}(h:After w pub e (aj B) w1 bV e1)(hk:(aO B).all bd=true):∀id c,e1 id=some c->bd id=true:=by
 intro id c hc
 cases hg:aj B id with
 |none=>rw[h.dom id hg]at hc;cases hc
 |some o=>exact NJ.1 hk id (O0.2 ⟨(id,o),bX _ _ _ hg,rfl⟩)
theorem Ext.lay{e:Nat->Option CObj}{w:World}{pub:Nat->Nat->Prop}{id:Nat}{c:CObj}(hn:e id=none):Ext ⟨e,w,pub⟩ ⟨fun i=>if i=id then some c else e i,w,pub⟩:=by
 refine⟨fun i c' hi=>⟨c',?_,CLe.refl c'⟩,fun _ _ p=>p,fun _ _ _=>rfl⟩;have hi:e i=some c':=hi;have:i≠id:=fun q=>by rw[q,hn]at hi;cases hi
 simp only[Ny this];exact hi
theorem Ext.drop{Ω:Om}{e:Nat->Option CObj}{w:World}{pub:Nat->Nat->Prop}(h:Ext Ω ⟨e,w,pub⟩){A:List Nat}(hA:∀i∈A,Ω.e i=none):Ext Ω ⟨fun i=>if i∈A then none else e i,w,pub⟩:=by
 refine⟨fun i c hi=>?_,h.pub,h.cell⟩;have:i∉A:=fun q=>by rw[hA i q]at hi;cases hi
 simp only[Ny this];exact h.e i c hi
theorem Ext.world{e:Nat->Option CObj}{W W2:World}{pub:Nat->Nat->Prop}(hp:jy W pub)(hb:∀b,b<W.heap.size->W2.heap[b]?=W.heap[b]?∨∀o,¬pub b o):Ext ⟨e,W,pub⟩ ⟨e,W2,pub⟩:=
 ⟨fun _ c hc=>⟨c,hc,CLe.refl c⟩,fun _ _ p=>p,fun b o p=>by
  obtain⟨v,hv⟩:=hp b o p;exact ai ((hb b (aL hv)).resolve_right fun q=>q o p) o⟩
structure Foreign(e:Nat->Option CObj)(pub:Nat->Nat->Prop)(b:Nat):Prop where
 no:∀o,¬gP e b o
 np:∀o,¬pub b o
theorem Foreign.lay{e:Nat->Option CObj}{pub:Nat->Nat->Prop}{l:Nat}(h:Foreign e pub l){id b off n:Nat}(hb:b≠l):Foreign (fun i=>if i=id then some (.box b off n)else e i) pub l:=by
 refine⟨fun o ⟨i,c,hi,ho⟩=>?_,h.np⟩;by_cases q:i=id
 ·simp only[NC q,Xs]at hi;subst hi;exact hb ho.1.symm
 ·simp only[Ny q]at hi;exact h.no o ⟨i,c,hi,ho⟩
theorem Foreign.drop{e:Nat->Option CObj}{pub:Nat->Nat->Prop}{l:Nat}(h:Foreign e pub l)(A:List Nat):Foreign (fun i=>if i∈A then none else e i) pub l:=by
 refine⟨fun o ⟨i,c,hi,ho⟩=>?_,h.np⟩;by_cases q:i∈A
 ·simp only[NC q]at hi;cases hi
 ·simp only[Ny q]at hi;exact h.no o ⟨i,c,hi,ho⟩
theorem Foreign.after{w w1:World}{pub bV:Nat->Nat->Prop}{e e1:Nat->Option CObj}{B:Nat->Option SObj}(h:After w pub e B w1 bV e1){l:Nat}(hl:l<w.heap.size)(hf:Foreign e pub l):Foreign e1 bV l:=
 ⟨fun o ho=>by
  rcases h.owns ho with q|q
  ·omega
  ·exact hf.no o q,fun o ho=>by
  rcases h.fresh l o ho with q|q|q
  ·exact hf.np o q
  ·omega
  ·exact hf.no o q⟩
theorem After.swapL{w w1:World}{pub bV:Nat->Nat->Prop}{e e1:Nat->Option CObj}{x y:Nat×SObj}{B:List (Nat×SObj)}(h:After w pub e (aj (x::y::B)) w1 bV e1)(hne:(x.1 ==y.1)=false):After w pub e (aj (y::x::B)) w1 bV e1:=by
 have e:aj (x::y::B)=aj (y::x::B):=by
  funext i;obtain⟨a,o⟩:=x;obtain⟨b,o'⟩:=y;simp only[aI];by_cases h1:a=i
  ·subst h1;have:¬b=a:=fun q=>by subst q;simp at hne
   simp[this]
  ·simp[h1]
 rw[<-e];exact h
end Go.AL
end
section
namespace Go.Proofs
open Go.RowKit Go.AL
variable [Tabs]
attribute [local go_sem] Oper.semAt_some
structure IV where
 k:Int
 s1:ByteArray
 k2:Int
 s3:ByteArray
 s4:ByteArray
 a5:Option Addr
 n5:Nat
 c5:Nat
 a6:Option Addr
 n6:Nat
 c6:Nat
def IV.vs(x:IV):List Value:=[.int .i64 x.k,.string x.s1,.int .i64 x.k2,.string x.s3,.string x.s4,.slice x.a5 x.n5 x.c5,.slice x.a6 x.n6 x.c6]
theorem HE{n:Nat}{P:Program}{ops:Array Oper}{Q:Exit->Act->World->Prop}{rest:List Oper}{a:Act}{w:World}{o:Oper}(hw:Region.wanted o (yielded ops a.tmps)=false)
 (h:wpListIn Fence.wide n P ops Q rest (a.put o.dst undef) w):wpListIn Fence.wide n P ops Q (o::rest) a w:=by
 simp only[wpListIn,hw];exact⟨fun _ _=>trivial,h⟩
set_option maxRecDepth 100000 in
set_option maxHeartbeats 4000000 in
theorem Tryz.lets1(m l n b off cap bK oK:Nat)(q:Option Addr)(vals:Nat->IV)(hn:n<=4611686018427387904)(J:Nat->World->Prop)
 (hR:∀k W,J k W->k<n->q=some ⟨b,off,none⟩/\∀(j:Nat)(v:Value),(vals k).vs[j]?=some v->W.cell? ⟨b,off+(k *7+j),none⟩=some v)
 (hA:∀k W o,J k W->J k (W.alloc o))(hN:∀k W,J k W->k<n->(vals k).k≠3->J (k+1) W)
 (hY:∀k W,J k W->k<n->(vals k).k=3->YieldAt Fence.wide m Tryz.prog l #[.agg (vals k).vs.toArray] W fun e W'=>e=.returned (.bool true)/\J (k+1) W')
 (W:World)(hK:W.cell? ⟨bK,oK,none⟩=some (.slice q n cap))(h0:J 0 W) :
  CallsIn Fence.wide (m+1) Tryz.prog 98 #[.func (.yield l) #[] #[],.pointer (some ⟨bK,oK,none⟩)] W fun e W'=>(∃v,e=.returned v)/\J n W':=by
 refine callsIn_of_wp Tryz.func98 rfl trivial ?_ rfl;simp only[Tryz.ntmps98,Pu,NL,Ou,Nat.reduceAdd,Nat.reduceSub,Ps,Pt,PV,PD,OW,OJ]
 gi_wp2
 gi_loopw [7] (fun i wr=>∃k:Nat,k<=n/\i=.int .i64 k/\J k wr)
  (fun i _=>n-(intOf i).toNat)
 case atStart=>exact⟨0,NU _,rfl,h0⟩
 case round=>
  obtain⟨k,hk,rfl,hJs⟩:=hrel;by_cases hlt:k<n
  ·obtain⟨rfl,hv⟩:=hR k wr hJs hlt;have hJ1:=hA k wr (.cells (vals k).vs.toArray 49) hJs;have hN1:=hN k _ hJ1 hlt;have hY1:=hY k _ hJ1 hlt;have hsmall:(k:Int)+1<=9223372036854775807:=by omega
   generalize vals k=x at hv hJ1 hN1 hY1;obtain⟨kd,s1,k2,s3,s4,a5,n5,c5,a6,n6,c6⟩:=x;have v0:=hv 0 _ rfl;have v1:=hv 1 _ rfl;have v2:=hv 2 _ rfl;have v3:=hv 3 _ rfl;have v4:=hv 4 _ rfl;have v5:=hv 5 _ rfl;have v6:=hv 6 _ rfl;simp only[IV.vs]at hJ1 hY1 hN1;simp only[<-Pg,Ph]at v0 v1 v2 v3 v4 v5 v6;clear hR hA hN hY hv;by_cases h3:kd=3
   ·subst h3;obtain⟨fn,tmps,assign,body,hy,hRd⟩:=hY1 rfl;clear hN1 hY1
    gi_wp2
    refine hRd.mono ?_;rintro e W3 ⟨rfl,hJ3⟩
    gi_wp2
    go_roundw
    case rel=>exact⟨k+1,by omega,by simp,hJ3⟩
    case measure=>simp[intOf];omega
   ·have h3':(kd ==3)=false:=by simpa using h3
    have hJ2:=hN1 h3;clear hN1 hY1
    gi_wp2_with (refine HE rfl ?_;simp only[Act.put,List.setIfInBounds_toArray,List.set_cons_succ,List.set_cons_zero])
    exact⟨⟨k+1,by omega,by simp,hJ2⟩,by simp[intOf];omega⟩
  ·obtain rfl:k=n:=by omega
   clear hR hA hN hY
   gi_wp2
   go_end0
   exact⟨⟨_,rfl⟩,hJs⟩
end Go.Proofs
end
noncomputable section
open Go Go.AL Go.Proofs Go.Pd Go.RowKit
namespace Go.AL.Seat
attribute [local go_sem] Oper.semAt_some
variable [Tabs]
noncomputable def cA:Code->Code|.seq a _=>a|c=>c
noncomputable def cB:Code->Code|.seq _ b=>b|c=>c
noncomputable def cF:Func->Code:=fun f=>f.body.getD .skip
noncomputable def im0:Code:=cA (cF Tryz.f23)
noncomputable def im1:Code:=cA (cB (cF Tryz.f23))
noncomputable def im2:Code:=cA (cB (cB (cF Tryz.f23)))
noncomputable def rgA:Code->Code|.block _ (.rangeFunc _ _ a _)=>a|c=>c
noncomputable def rgB:Code->Array Oper|.block _ (.rangeFunc _ _ _ (.block _ (.region _ ops _)))=>ops|_=>#[]
noncomputable def im4:Array Oper:=rgB (cB (cB (cB (cF Tryz.f23))))
def im3:Code:=Code.region 3 #[{dst:=some 4,op:=Op.alloc 49,type:=0,pos:= "check.go:50",after:=#[],guard:=none},{dst:=none,op:=Op.store 49 (Operand.tmp 4) (Operand.tmp 25),type:=0,pos:= "check.go:50",after:=#[{on:=0,ground:=Ground.data},{on:=0,ground:=Ground.phase}],guard:=none}] false
noncomputable def imC:Cfg:=⟨tbl,fY [(55,p2 .str (.lst (.st .item)) fun o l=>⟨some (l.length<=1048576/\∀x∈l,allS nmU x.shape=true),none,.lst (.st .bind) (bc o l) none,[]⟩),
 (56,p1 (.lst (.st .item)) fun l=>⟨none,none,.fn 98 [.ptr 1 0],[(1,.box (.lst (.st .item) l none))]⟩),
 (57,Le (fun se ty va o n x=>⟨some (va.length<=1000000),none,.tup [],[(900,.box (.agg [.str se,.lst (.st .bind) ty (some 901),.lst (.st .bind) (va++[AL.Bndg.mk o n x]) (some 902),.nils])),(902,.tail (.st .bind) (va.length+1))]⟩) fun e o n x=>⟨some (e.values.length<=1000000),none,.tup [],[(900,.box (.agg [.str e.self,.lst (.st .bind) e.types none,.lst (.st .bind) (e.values++[AL.Bndg.mk o n x]) (some 901),.lst (.st .bind) e.own (some 902)])),(901,.tail (.st .bind) (e.values.length+1))]⟩)],fun _=>false,fun f=>if Nat.beq f 57 then[some 1004]else[],fun _=>false,fun _=>false,fun _=>false⟩
theorem LL:Tryz.f23.body=some (.seq im0 (.seq im1 (.seq im2 (.block 0 (.rangeFunc (.tmp 24) #[25] im3 (.block 1 (.region 4 im4 true))))))):=by kernel_rfl
def imQ(t:St):SX->St->Prop:=fun x s=>match x with|.normal=>cS s t|_=>False
def imN(c:Code)(Q:SX->St->Prop):SX->St->Prop:=fun x s=>match x with|.normal=>swp imC [2,3,24] ⟨[],[],[]⟩ c s Q|e=>Q e s
def Nr(d:Depd)(S:List (Nat×SObj)):List (Nat×SObj):=(2,.box (.ptr 900 0))::(3,.box (.st .dep d))::(2024,.box (.lst (.st .item) d.items none))::S
theorem MR(se:Str)(ty va:List Bndg)(d:Depd)(h1:d.items.length<=4000)(h2:∀x∈d.items,allS nmU x.shape=true)(h3:ty.length<=500000) :
  swp imC [2,3,24] ⟨[],[],[]⟩ im0 ⟨dq 0 [.ptr 900 0,.st .dep d],ck1 se ty va⟩ (imN (.seq im1 (.seq im2 .skip)) (imQ ⟨[(2,.ptr 2 0),(3,.ptr 3 0),(24,.fn 98 [.ptr 2024 0])],Nr d (ck1 se (ty++bc d.name d.items) va)⟩)):=by
 have:=lh d.name d.items
 have c:(List.length d.items<=(1048576:Nat)/\∀(x:AL.Item),x∈d.items->allS nmU x.shape=true)/\(List.length ty=List.length ty/\(List.length ty+List.length (bc d.name d.items)) *(120:Nat)<=(140737488355328:Nat))/\d=d/\d.items=d.items/\se=se/\ty++bc d.name d.items=ty++bc d.name d.items/\va=va/\
   List.length (ty++bc d.name d.items)=List.length (ty++bc d.name d.items)/\List.length va=List.length va/\gJ (den Ty.str×den (Ty.st SN.item))=gJ (den Ty.str×den (Ty.st SN.item))/\True:=
  ⟨⟨by omega,h2⟩,⟨rfl,by omega⟩,rfl,rfl,rfl,rfl,rfl,rfl,rfl,rfl,trivial⟩
 exact @Eq.mpr _ _ (by kernel_rfl) c
theorem MS(s:St)(Q:SX->St->Prop):swp imC [2,3,24] ⟨[],[],[]⟩ (.seq im1 (.seq im2 .skip)) s Q=swp imC [2,3,24] ⟨[],[],[]⟩ im1 s (imN (.seq im2 .skip) Q):=by kernel_rfl
theorem MT(s:St)(Q:SX->St->Prop):swp imC [2,3,24] ⟨[],[],[]⟩ (.seq im2 .skip) s Q=swp imC [2,3,24] ⟨[],[],[]⟩ im2 s (imN .skip Q):=by kernel_rfl
def imS(se:Str)(ty va:List Bndg)(d:Depd):List (Nat×SObj):=(906,.box (.st .dep d))::(905,.box (.ptr 900 0))::ck1 se ty va
theorem LM(se:Str)(ty va:List Bndg)(d:Depd)(x:AL.Item)(h:va.length<=1000000) :
  kA imC [] im4 true ⟨[(2,.ptr 905 0),(3,.ptr 906 0),(4,.ptr 904 0)],(904,.box (.st .item x))::imS se ty va d⟩ (imQ ⟨[],(904,.box (.st .item x))::imS se ty (va++[⟨d.name,x.name,x.shape⟩]) d⟩):=by
 have c:((List.length ty=List.length ty/\List.length va=List.length va)/\List.length va<=(1000000:Nat))/\x=x/\d=d/\se=se/\ty=ty/\va++[AL.Bndg.mk d.name x.name x.shape]=va++[AL.Bndg.mk d.name x.name x.shape]/\List.length ty=List.length ty/\
   List.length va+(1:Nat)=List.length (va++[AL.Bndg.mk d.name x.name x.shape])/\gJ (den Ty.str×den (Ty.st SN.item))=gJ (den Ty.str×den (Ty.st SN.item))/\True:=
  ⟨⟨⟨rfl,rfl⟩,h⟩,rfl,rfl,rfl,rfl,rfl,rfl,by rw[NZ];rfl,rfl,trivial⟩
 exact @Eq.mpr _ _ (by kernel_rfl) c
theorem MU:∀o∈im4.toList,∀d,o.dst=some d->d<36:=by
 have h:im4.toList.all (fun o=>match o.dst with|some d=>Nat.blt d 36|none=>true)=true:=by kernel_rfl
 intro o ho d hd;have:=NJ.1 h o ho;rw[hd]at this;simpa[PY]using this
theorem MV:∀o∈im4.toList,∀c,o.op≠.defer c:=by
 have h:im4.toList.all (fun o=>match o.op with|.defer _=>false|_=>true)=true:=by kernel_rfl
 intro o ho c hc;have:=NJ.1 h o ho;rw[hc]at this;cases this
theorem Kf{Ω:Om}{l:List AL.Item}{v:Value}(h:V Ω (.lst (.st .item) l none) v):∃(q:Option Addr)(cap b off:Nat)(vals:Nat->IV),v=.slice q l.length cap/\
  ∀k,k<l.length->q=some ⟨b,off,none⟩/\(vals k).k=(l.getD k (dfl (.st .item))).kind/\VL Ω (dO (l.getD k (dfl (.st .item)))) (vals k).vs/\
   ∀(j:Nat)(v':Value),(vals k).vs[j]?=some v'->Ω.pub b (off+(k *7+j))/\Ω.w.cell? ⟨b,off+(k *7+j),none⟩=some v':=by
 rcases h.lst_inv with⟨rfl,rfl,_⟩|⟨rfl,_,a,rfl⟩|⟨b,off,cap,vals,rfl,h1,h2,_,h4,h5⟩
 ·exact⟨none,0,0,0,fun _=>⟨0,default,0,default,default,none,0,0,none,0,0⟩,rfl,fun k hk=>by cases hk⟩
 ·exact⟨some a,0,0,0,fun _=>⟨0,default,0,default,default,none,0,0,none,0,0⟩,rfl,fun k hk=>by cases hk⟩
 ·have key:∀k,∃iv:IV,k<l.length->iv.k=(l.getD k (dfl (.st .item))).kind/\iv.vs=[vals k 0,vals k 1,vals k 2,vals k 3,vals k 4,vals k 5,vals k 6]:=by
   intro k;by_cases hk:k<l.length
   ·have e:l[k]?=some (l.getD k (dfl (.st .item))):=by simp[NB,hk]
    generalize l.getD k (dfl (.st .item))=x at e;have c:=h5 k x e;have c0:=(c 0 (.int .i64 x.kind) rfl).int_inv.1;have c1:=(c 1 (.str x.name) rfl).str_inv.1;have c2:=(c 2 (.int .i64 x.shape.kind) rfl).int_inv.1;have c3:=(c 3 (.str x.shape.pkg) rfl).str_inv.1;have c4:=(c 4 (.str x.shape.name) rfl).str_inv.1;have c5:∃a n m,vals k 5=.slice a n m:=by rcases(c 5 (.lst .str x.shape.names none) rfl).lst_inv with⟨_,q,_⟩|⟨_,_,a,q⟩|⟨_,_,_,_,q,_⟩<;>exact⟨_,_,_,q⟩
    have c6:∃a n m,vals k 6=.slice a n m:=by rcases(c 6 (.lst (.st .shape) x.shape.parts none) rfl).lst_inv with⟨_,q,_⟩|⟨_,_,a,q⟩|⟨_,_,_,_,q,_⟩<;>exact⟨_,_,_,q⟩
    obtain⟨a5,n5,m5,c5⟩:=c5;obtain⟨a6,n6,m6,c6⟩:=c6;exact⟨⟨x.kind,_,x.shape.kind,_,_,a5,n5,m5,a6,n6,m6⟩,fun _=>⟨rfl,by rw[c0,c1,c2,c3,c4,c5,c6];rfl⟩⟩
   ·exact⟨⟨0,default,0,default,default,none,0,0,none,0,0⟩,fun h=>absurd h hk⟩
  obtain⟨iv,hiv⟩:=Classical.skolem.1 key;refine⟨_,cap,b,off,iv,rfl,fun k hk=>⟨rfl,(hiv k hk).1,?_,?_⟩⟩
  ·have e:l[k]?=some (l.getD k (dfl (.st .item))):=by simp[NB,hk]
   rw[(hiv k hk).2];have c:=h5 k _ e
   exact⟨rfl,fun j c' v' hc hv=>by
    have:v'=vals k j:=by
     match j,hv with
     |0,hv=>exact(O1 hv).symm
     |1,hv=>exact(O1 hv).symm
     |2,hv=>exact(O1 hv).symm
     |3,hv=>exact(O1 hv).symm
     |4,hv=>exact(O1 hv).symm
     |5,hv=>exact(O1 hv).symm
     |6,hv=>exact(O1 hv).symm
     |n+7,hv=>cases hv
    rw[this];exact c j c' hc⟩
  ·have e:l[k]?=some (l.getD k (dfl (.st .item))):=by simp[NB,hk]
   rw[(hiv k hk).2];intro j v' hv
   match j,hv with
   |0,hv=>cases hv;exact h4 k _ e 0 _ rfl
   |1,hv=>cases hv;exact h4 k _ e 1 _ rfl
   |2,hv=>cases hv;exact h4 k _ e 2 _ rfl
   |3,hv=>cases hv;exact h4 k _ e 3 _ rfl
   |4,hv=>cases hv;exact h4 k _ e 4 _ rfl
   |5,hv=>cases hv;exact h4 k _ e 5 _ rfl
   |6,hv=>cases hv;exact h4 k _ e 6 _ rfl
   |n+7,hv=>cases hv
theorem wP(o:Str):∀(l m:List AL.Item),dh o (l++m)=dh o l++dh o m
 |[],m=>rfl
 |x::r,m=>by rw[OJ];simp only[dh,wP o r m];split<;>rfl
theorem BH(o:Str)(l:List AL.Item)(k:Nat)(d:AL.Item)(h:k<l.length) :
  dh o (l.take (k+1))=dh o (l.take k)++(if(l.getD k d).kind=3 then[⟨o,(l.getD k d).name,(l.getD k d).shape⟩]else[]):=by
 rw[dU l k d h,wP];simp only[dh]
def imR(fn:FuncId)(tm:Array Value)(D:Nat)(st:LoopState):Loop:={state:=st,pending:=none,fn,tmps:=tm,params:=#[25],assign:=im3,body:=.block 1 (.region 4 im4 true),defers:=D}
structure ImJ(w:World)(pub:Nat->Nat->Prop)(e:Nat->Option CObj)(W1:World)(bV:Nat->Nat->Prop)(e1:Nat->Option CObj)(fn:FuncId)(tm:Array Value)(l D:Nat)(B:List (Nat×SObj))(W:World):Prop where
 aft:∃pub' e',After w pub e (aj B) W pub' e'/\Ext ⟨e1,W1,bV⟩ ⟨e',W,pub'⟩/\Foreign e' pub' l/\Foreign e' pub' D
 L:W.heap[l]?=some (.loop (imR fn tm D .ready))
 K:W.heap[D]?=some (.deferred (some []))
section
variable {w W1:World} {pub bV:Nat->Nat->Prop} {e e1:Nat->Option CObj} {fn:FuncId} {tm:Array Value} {l D:Nat}
theorem ImJ.alloc{B:List (Nat×SObj)}{W:World}(h:ImJ w pub e W1 bV e1 fn tm l D B W)(o:Obj):ImJ w pub e W1 bV e1 fn tm l D B (W.alloc o):=by
 obtain⟨⟨pub',e',h1,h2,h3,h4⟩,hL,hK⟩:=h
 exact⟨⟨pub',e',h1.post rfl rfl rfl (by simp) fun b hb=>.inl (Below.heap_alloc _ _ b hb),h2.trans (Ext.world h1.ok fun b hb=>.inl (Below.heap_alloc _ _ b hb)),h3,h4⟩,
  (Below.heap_alloc _ _ _ (aM hL)).trans hL,(Below.heap_alloc _ _ _ (aM hK)).trans hK⟩
theorem Kg(hS:bM Tryz.prog imC.spec)(hl:∀id c,e id=some c->bd id=true)(ht:eh w pub e)(hwl:w.heap.size<=l)(hwD:w.heap.size<=D)(hlD:D≠l)
 {se:Str}{ty va:List Bndg}{d:Depd}{x:AL.Item}{iv:IV}{W:World}{t0 t1 t2 t3 t4 t5 t6 t7 t8 t9 t10 t11 t12 t13 t14 t15 t16 t17 t18 t19 t20 t21 t22 t23 t24 t25 t26 t27 t28 t29 t30 t31 t32 t33 t34 t35:Value}(htm:tm=(t0::t1::t2::t3::t4::t5::t6::t7::t8::t9::t10::t11::t12::t13::t14::t15::t16::t17::t18::t19::t20::t21::t22::t23::t24::t25::t26::t27::t28::t29::t30::t31::t32::t33::t34::t35::[]).toArray)
 (h2:V ⟨e1,W1,bV⟩ (.ptr 905 0) t2)(h3:V ⟨e1,W1,bV⟩ (.ptr 906 0) t3)(hiv:VL ⟨e1,W1,bV⟩ (dO x) iv.vs)(hva:va.length<=1000000)
 (hJ:ImJ w pub e W1 bV e1 fn tm l D (imS se ty va d) W) :
  YieldAt Fence.wide 0 Tryz.prog l #[.agg iv.vs.toArray] W fun en W'=>en=.returned (.bool true)/\ImJ w pub e W1 bV e1 fn tm l D (imS se ty (va++[⟨d.name,x.name,x.shape⟩]) d) W':=by
 subst htm;obtain⟨⟨pub',e',ha,hx,hf,hg⟩,hL,hK⟩:=hJ;obtain⟨kd,s1,k2,s3,s4,a5,n5,c5,a6,n6,c6⟩:=iv;refine⟨fn,(t0::t1::t2::t3::t4::t5::t6::t7::t8::t9::t10::t11::t12::t13::t14::t15::t16::t17::t18::t19::t20::t21::t22::t23::t24::.agg (IV.vs ⟨kd,s1,k2,s3,s4,a5,n5,c5,a6,n6,c6⟩).toArray::t26::t27::t28::t29::t30::t31::t32::t33::t34::t35::[]).toArray,im3,.block 1 (.region 4 im4 true),by simpa[imR]using run_yield (P:=Tryz.prog) (args:=#[.agg (IV.vs ⟨kd,s1,k2,s3,s4,a5,n5,c5,a6,n6,c6⟩).toArray]) hL rfl,roundIn_of_wpIn trivial ?_⟩;simp only[IV.vs]at hiv⊢;obtain⟨Rq,hRq⟩:∃Rq:Act->World->Prop,Rq=fun a₁ w₁=>∃w₂,(Instr.beginRound l).run Tryz.prog w₁=.ok () w₂/\(Code.block 1 (.region 4 im4 true)).wpIn (Fence.wide.inRound l) 0 Tryz.prog (roundPost Tryz.prog l fun en W'=>en=.returned (.bool true)/\ImJ w pub e W1 bV e1 fn (t0::t1::t2::t3::t4::t5::t6::t7::t8::t9::t10::t11::t12::t13::t14::t15::t16::t17::t18::t19::t20::t21::t22::t23::t24::t25::t26::t27::t28::t29::t30::t31::t32::t33::t34::t35::[]).toArray l D (imS se ty (va++[⟨d.name,x.name,x.shape⟩]) d) W') a₁ w₂:=⟨_,rfl⟩;rw[<-hRq];unfold im3
 gi_wp2
 rw[hRq];clear hRq;obtain⟨Wa,hWa⟩:∃Wa,W.alloc (.cells #[.int .i64 kd,.string s1,.int .i64 k2,.string s3,.string s4,.slice a5 n5 c5,.slice a6 n6 c6] 49)=Wa:=⟨_,rfl⟩;rw[hWa];have hlW:=aM hL;have hDW:=aM hK;have old:∀b,b<W.heap.size->Wa.heap[b]?=W.heap[b]?:=fun b hb=>by rw[<-hWa];exact Below.heap_alloc _ _ _ hb
 have sz:Wa.heap.size=W.heap.size+1:=by rw[<-hWa];simp
 have h4:Wa.heap[W.heap.size]?=some (.cells #[.int .i64 kd,.string s1,.int .i64 k2,.string s3,.string s4,.slice a5 n5 c5,.slice a6 n6 c6] 49 (0,0)):=by rw[<-hWa];exact World.alloc_heap_new _ _
 have hLa:=(old l hlW).trans hL;have eos:Wa.os=W.os/\Wa.tape=W.tape/\Wa.output=W.output:=by rw[<-hWa];exact⟨rfl,rfl,rfl⟩
 refine⟨_,run_beginRound hLa rfl,?_⟩;obtain⟨W2,hW2⟩:∃W2,Wa.putObj l (.loop {imR fn (t0::t1::t2::t3::t4::t5::t6::t7::t8::t9::t10::t11::t12::t13::t14::t15::t16::t17::t18::t19::t20::t21::t22::t23::t24::t25::t26::t27::t28::t29::t30::t31::t32::t33::t34::t35::[]).toArray D .ready with state:=.busy})=W2:=⟨_,rfl⟩;rw[hW2];have old2:∀b,b≠l->W2.heap[b]?=Wa.heap[b]?:=fun b hb=>by rw[<-hW2];exact World.putObj_heap_other hb
 have hL2:W2.heap[l]?=some (.loop {imR fn (t0::t1::t2::t3::t4::t5::t6::t7::t8::t9::t10::t11::t12::t13::t14::t15::t16::t17::t18::t19::t20::t21::t22::t23::t24::t25::t26::t27::t28::t29::t30::t31::t32::t33::t34::t35::[]).toArray D .ready with state:=.busy}):=by rw[<-hW2];exact World.putObj_heap_same (by omega)
 have sz2:W2.heap.size=W.heap.size+1:=by rw[<-hW2,World.putObj_size,sz]
 have eos2:W2.os=W.os/\W2.tape=W.tape/\W2.output=W.output:=by rw[<-hW2];exact eos
 have hK2:W2.heap[D]?=some (.deferred (some [])):=(old2 D hlD).trans ((old D hDW).trans hK);have h42:=(old2 W.heap.size (by omega)).trans h4;clear hWa hW2 hLa h4
 have ha2:After w pub e (aj (imS se ty va d)) W2 pub' e':=ha.post eos2.1 eos2.2.1 eos2.2.2 (by omega) fun b hb=>by
  by_cases q:b=l
  ·exact .inr (by rw[q];exact⟨hwl,hf.no,hf.np⟩)
  ·exact .inl ((old2 b q).trans (old b hb))
 have hx2:Ext ⟨e1,W1,bV⟩ ⟨e',W2,pub'⟩:=hx.trans (Ext.world ha.ok fun b hb=>by
  by_cases q:b=l
  ·exact .inr (by rw[q];exact hf.np)
  ·exact .inl ((old2 b q).trans (old b hb)))
 have hsz:=ha.size
 have hA4:=ha2.lay (id:=904) (b:=W.heap.size) (off:=0) (c:=.st .item x) rfl (fun j c' hj=>by
  have hj:(dO x)[j]?=some c':=hj
  have hj7:j<7:=by
   rcases NF j 7 with q|q
   ·exact q
   ·rw[Nz (by exact q)]at hj;cases hj
  obtain⟨v,hv⟩:∃v,[Value.int .i64 kd,.string s1,.int .i64 k2,.string s3,.string s4,.slice a5 n5 c5,.slice a6 n6 c6][j]?=some v:=⟨_,Nw hj7⟩;refine⟨.inl hsz,fun ho=>?_,fun hp=>?_,eA h42 _,v,?_,(hiv.2 j c' v hj hv).ext hx2⟩
  ·have:=ha.blk ho;omega
  ·obtain⟨u,hu⟩:=ha.ok _ _ hp;have:=aL hu;omega
  ·rw[an h42,OB];simpa using hv)
 have n904:e' 904=none:=ha.dom 904 rfl;have hx4:=hx2.trans (Ext.lay (id:=904) (c:=.box W.heap.size 0 (ae (.st .item x)).length) n904);have hf4:=(hf.lay (id:=904) (b:=W.heap.size) (off:=0) (n:=(ae (.st .item x)).length) (by omega));have hg4:=(hg.lay (id:=904) (b:=W.heap.size) (off:=0) (n:=(ae (.st .item x)).length) (by omega));obtain⟨e4,he4⟩:∃e4,(fun i=>if i=904 then some (.box W.heap.size 0 (ae (.st .item x)).length)else e' i)=e4:=⟨_,rfl⟩;have e904:e4 904=some (.box W.heap.size 0 (ae (.st .item x)).length):=by rw[<-he4];rfl
 rw[he4]at hA4 hx4 hf4 hg4;clear he4;have hlent4:=hA4.lent rfl;have tab4:=ht.after hA4;have hx4':=hx4
 have hh:=hA4.enter hlent4 tab4 (t:=[(2,.ptr 905 0),(3,.ptr 906 0),(4,.ptr 904 0)]) (tmps:=(t0::t1::t2::t3::.pointer (some ⟨W.heap.size,0,none⟩)::t5::t6::t7::t8::t9::t10::t11::t12::t13::t14::t15::t16::t17::t18::t19::t20::t21::t22::t23::t24::.agg #[.int .i64 kd,.string s1,.int .i64 k2,.string s3,.string s4,.slice a5 n5 c5,.slice a6 n6 c6]::t26::t27::t28::t29::t30::t31::t32::t33::t34::t35::[]).toArray) (fun i=>by
  rcases jY [(2,.ptr 905 0),(3,.ptr 906 0),(4,.ptr 904 0)] i with q|q
  ·rw[q];exact .undef _
  ·simp only[NG,PX,P0,QK]at q;rcases q with⟨rfl,q⟩|⟨rfl,q⟩|⟨rfl,q⟩
   ·rw[q];exact h2.ext hx4
   ·rw[q];exact h3.ext hx4
   ·rw[q];exact V.ptr 904 0 W.heap.size 0 _ e904)
 refine wpIn_block (wpIn_mono (HD mixed uk hS [] MU MV (LM se ty va d x hva) hh) ?_);rintro en a' w' ⟨z,s',Ω',hz,rfl,hh',hq'⟩
 cases z with
 |exit _=>exact hq'.elim
 |ret=>exact hq'.elim
 |pan _=>exact hq'.elim
 |normal=>
 cases hz;obtain⟨Ω5,e5,hh5⟩:=dA hh' (gD hq');rw[<-e5];have hB5:=fF hh5;have hA5:=hA4.trans hB5
 have hA6:=hA5.drop (A:=[904]) (B':=imS se ty (va++[⟨d.name,x.name,x.shape⟩]) d) hl ht (fun i hi=>by rw[O8.1 hi];rfl) (fun i hi=>by
   have hi:¬904=i:=fun q=>hi (O8.2 q.symm);rw[aI,Ny (by simpa using hi)]) rfl (fun i hi=>by
   rw[O8.1 hi]
   cases q:e 904 with
   |none=>rfl
   |some c=>obtain⟨c',h1,_⟩:=ha.ext.e 904 c q;have h1:e' 904=some c':=h1;rw[n904]at h1;cases h1)
 have hl2:=aM hL2;have hD2:=aM hK2;have hL5:=(hB5.block l hl2 hf4.no).trans hL2;have hK5:=(hB5.block D hD2 hg4.no).trans hK2;have hf6:=(hf4.after hB5 hl2).drop [904];have hg6:=(hg4.after hB5 hD2).drop [904]
 have hx6:=(hx4.trans hB5.ext).drop (A:=[904]) (fun i hi=>by
   rw[O8.1 hi];show e1 904=none
   cases q:e1 904 with
   |none=>rfl
   |some c=>obtain⟨c',h1,_⟩:=hx.e 904 c q;have h1:e' 904=some c':=h1;rw[n904]at h1;cases h1)
 have hl5:=aM hL5;refine⟨_,_,run_endRound none hL5,rfl,⟨⟨_,_,hA6.post rfl rfl rfl (by rw[World.putObj_size];exact NK _) (fun b hb=>?_),hx6.trans (Ext.world hA6.ok fun b hb=>?_),hf6,hg6⟩,World.putObj_heap_same hl5,(World.putObj_heap_other hlD).trans hK5⟩⟩
 ·by_cases q:b=l
  ·exact .inr (by rw[q];exact⟨hwl,hf6.no,hf6.np⟩)
  ·exact .inl (World.putObj_heap_other q)
 ·by_cases q:b=l
  ·exact .inr (by rw[q];exact hf6.np)
  ·exact .inl (World.putObj_heap_other q)
end
theorem Ns{a:Array Value}(h:a.size=36):∃t0 t1 t2 t3 t4 t5 t6 t7 t8 t9 t10 t11 t12 t13 t14 t15 t16 t17 t18 t19 t20 t21 t22 t23 t24 t25 t26 t27 t28 t29 t30 t31 t32 t33 t34 t35:Value,a=(t0::t1::t2::t3::t4::t5::t6::t7::t8::t9::t10::t11::t12::t13::t14::t15::t16::t17::t18::t19::t20::t21::t22::t23::t24::t25::t26::t27::t28::t29::t30::t31::t32::t33::t34::t35::[]).toArray:=by
 obtain⟨l⟩:=a;have h:l.length=36:=h
 match l,h with
 |t0::t1::t2::t3::t4::t5::t6::t7::t8::t9::t10::t11::t12::t13::t14::t15::t16::t17::t18::t19::t20::t21::t22::t23::t24::t25::t26::t27::t28::t29::t30::t31::t32::t33::t34::t35::[],_=>exact⟨t0,t1,t2,t3,t4,t5,t6,t7,t8,t9,t10,t11,t12,t13,t14,t15,t16,t17,t18,t19,t20,t21,t22,t23,t24,t25,t26,t27,t28,t29,t30,t31,t32,t33,t34,t35,rfl⟩
theorem uQ(hS:bM Tryz.prog imC.spec)(se:Str)(ty va:List Bndg)(d:Depd)(ho:ty.length<=500000/\va.length<=500000/\d.items.length<=4000/\∀x∈d.items,allS nmU x.shape=true) :
  al Tryz.prog 23 [.ptr 900 0,.st .dep d] (ck1 se ty va) ⟨some (ty.length<=500000/\va.length<=500000/\d.items.length<=4000/\∀x∈d.items,allS nmU x.shape=true),none,.tup [],[(900,.box (.agg [.str se,.lst (.st .bind) (ty++bc d.name d.items) (some 901),.lst (.st .bind) (va++dh d.name d.items) (some 902),.nils,.map 903])),(901,.tail (.st .bind) (ty.length+(bc d.name d.items).length)),(902,.tail (.st .bind) (va.length+(dh d.name d.items).length))]⟩:=by
 obtain⟨o1,o2,o3,o4⟩:=ho;intro w pub e vs hp ht hv hs hdom hinj
 have hl:∀id c,e id=some c->bd id=true:=by
  intro id c hc
  cases hg:aj (ck1 se ty va) id with
  |none=>rw[hdom id hg]at hc;cases hc
  |some o=>have:(aO (ck1 se ty va)).all bd=true:=rfl;exact NJ.1 this id (O0.2 ⟨(id,o),bX _ _ _ hg,rfl⟩)
 obtain⟨ty',hty⟩:∃ty',ty++bc d.name d.items=ty':=⟨_,rfl⟩;have h0:=MR se ty va d o3 o4 o1;rw[hty]at h0
 suffices key:∀R:Ending->World->Prop,(∀W pub' e',After w pub e (aj (ck1 se ty' (va++dh d.name d.items))) W pub' e'->R (.returned (.tuple #[])) W)->CallsIn Fence.wide 2 Tryz.prog 23 vs.toArray w R by refine callsIn_wide.1 (key _ fun W pub' e' ha=>⟨pub',e',show _/\_/\_ from⟨fun b pv u q=>(by cases q),V.tup [] [] rfl (fun j c v h=>by simp at h),?_⟩⟩);rw[<-NZ,<-NZ,hty];exact ha
 intro R hR;refine callsIn_of_wp_marks Tryz.func23 LL trivial ?_ rfl;have hh:=jd (n:=36) hp ht hv (show 2<=36 by omega) hs hdom hinj hl;have d0:bG 36 im0=true:=by kernel_rfl
 have d1:bG 36 im1=true:=by kernel_rfl
 have d2:bG 36 im2=true:=by kernel_rfl
 refine wpIn_seq (wpIn_mono (wpIn_wide.2 (gW (F:=⟨w,pub,36,e,hl,[],ht⟩) mixed uk hS [2,3,24] ⟨[],[],[]⟩ im0 _ _ _ _ h0 d0 hh)) ?_);rintro en a1 w1 ⟨x1,s1,Ω1,hx1,rfl,hh1,hq1⟩
 cases x1 with
 |exit _=>exact hq1.elim
 |ret=>exact hq1.elim
 |pan _=>exact hq1.elim
 |normal=>
 cases hx1;have hq1:=(MS s1 _).mp hq1;refine wpIn_seq (wpIn_mono (wpIn_wide.2 (gW (F:=⟨w,pub,36,e,hl,[],ht⟩) mixed uk hS [2,3,24] ⟨[],[],[]⟩ im1 _ _ _ _ hq1 d1 hh1)) ?_);rintro en a2 w2 ⟨x2,s2,Ω2,hx2,rfl,hh2,hq2⟩
 cases x2 with
 |exit _=>exact hq2.elim
 |ret=>exact hq2.elim
 |pan _=>exact hq2.elim
 |normal=>
 cases hx2;have hq2:=(MT s2 _).mp hq2;refine wpIn_seq (wpIn_mono (wpIn_wide.2 (gW (F:=⟨w,pub,36,e,hl,[],ht⟩) mixed uk hS [2,3,24] ⟨[],[],[]⟩ im2 _ _ _ _ hq2 d2 hh2)) ?_);rintro en a3 w3 ⟨x3,s3,Ω3,hx3,rfl,hh3,hq3⟩
 cases x3 with
 |exit _=>exact hq3.elim
 |ret=>exact hq3.elim
 |pan _=>exact hq3.elim
 |normal=>
 cases hx3;obtain⟨Ω4,e4,hh4⟩:=dA hh3 (gD (show cS s3 _ from hq3));show(Code.block 0 _).wpIn _ _ _ _ a3 Ω3.w;rw[<-e4];clear hh1 hh2 hh3 hq1 hq2 hq3 h0 d0 d1 d2 e4;obtain⟨tm3,df3⟩:=a3;have hdf:df3=[]:=hh4.defers;subst hdf;obtain⟨t0,t1,t2,t3,t4,t5,t6,t7,t8,t9,t10,t11,t12,t13,t14,t15,t16,t17,t18,t19,t20,t21,t22,t23,t24,t25,t26,t27,t28,t29,t30,t31,t32,t33,t34,t35,rfl⟩:=Ns hh4.size;have v2:V Ω4 (.ptr 2 0) t2:=hh4.tmps 2;have v3:V Ω4 (.ptr 3 0) t3:=hh4.tmps 3;have v24:V Ω4 (.fn 98 [.ptr 2024 0]) t24:=hh4.tmps 24;obtain⟨bK,oK,eK,hcK⟩:=hh4.slots 2024 _ rfl;obtain⟨_,_,_,vK,cK,VK⟩:=hcK 0 (.lst (.st .item) d.items none) rfl;obtain⟨us,rfl,hus⟩:=v24.fn_inv;obtain⟨u,rfl⟩:=je hus.1.symm;obtain⟨b',o',len',rfl,hb'⟩:=(hus.2 0 _ u rfl rfl).ptr_inv;rw[show Ω4.e 2024=_ from eK]at hb';cases hb';have hA0:After w pub e (aj ((2,.box (.ptr 900 0))::(3,.box (.st .dep d))::(2024,.box (.lst (.st .item) d.items none))::ck1 se ty' va)) Ω4.w Ω4.pub Ω4.e:=fF hh4;obtain⟨bC,oC,eC,hA1⟩:=hA0.move (id:=2) (id':=905) hl ht rfl rfl rfl rfl (fun i hi=>by simp[ids]at hi;omega) (fun c' hc i hi=>by simp[ae]at hc;subst hc;exact hi)
 obtain⟨bD,oD,eD,hA2⟩:=(hA1.swapL rfl).move (id:=3) (id':=906) hl ht rfl rfl rfl rfl (fun i hi=>by simp[ids]at hi) (fun c' hc i hi=>by
  have hc:c'∈[.str d.name,.lst (.st .item) d.items none]:=hc;simp only[NG,P0,QK]at hc;rcases hc with rfl|rfl<;>simp[ids]at hi)
 have eD:Ω4.e 3=some (.box bD oD (ae (.st .dep d)).length):=eD
 have hA3:=hA2.drop (A:=[2024]) (B':=imS se ty' va d) hl ht (fun i hi=>by rw[O8.1 hi];rfl) (fun i hi=>by
   have hi:¬2024=i:=fun q=>hi (O8.2 q.symm);simp only[imS,aI];by_cases q:906=i
   ·subst q;rfl
   ·by_cases q':905=i
    ·subst q';rfl
    ·simp[q,q',hi]) rfl (fun i hi=>by
   rw[O8.1 hi]
   cases q:e 2024 with
   |none=>rfl
   |some c=>have:=hl 2024 c q;cases this)
 obtain⟨e5,he5⟩:∃e5:Nat->Option CObj,(fun i=>if i∈[2024]then none else if i=906 then some (.box bD oD (ae (.st .dep d)).length)else if i∈[3]then none else if i=905 then some (.box bC oC (ae (.ptr 900 0)).length)else if i∈[2]then none else Ω4.e i)=e5:=⟨_,rfl⟩;rw[he5]at hA3;have e905:e5 905=some (.box bC oC (ae (.ptr 900 0)).length):=by rw[<-he5];rfl
 have e906:e5 906=some (.box bD oD (ae (.st .dep d)).length):=by rw[<-he5];rfl
 clear hA0 hA1 hA2 he5;obtain⟨D,hD⟩:∃D,D=Ω4.w.heap.size:=⟨_,rfl⟩;obtain⟨tm,htm⟩:∃tm,tm=(t0::t1::t2::t3::t4::t5::t6::t7::t8::t9::t10::t11::t12::t13::t14::t15::t16::t17::t18::t19::t20::t21::t22::t23::.func (.func 98) #[] #[.pointer (some ⟨bK,oK+0,none⟩)]::t25::t26::t27::t28::t29::t30::t31::t32::t33::t34::t35::[]).toArray:=⟨_,rfl⟩;refine wpIn_block (wpIn_rangeFunc fun fn hfn=>?_);obtain⟨W1,hW1⟩:∃W1,(Ω4.w.alloc (.deferred (some []))).alloc (.loop (imR fn tm D .ready))=W1:=⟨_,rfl⟩;have old:∀b,b<Ω4.w.heap.size->W1.heap[b]?=Ω4.w.heap[b]?:=fun b hb=>by rw[<-hW1];exact(Below.heap_alloc _ _ b (by simp;omega)).trans (Below.heap_alloc _ _ b hb)
 have sz:W1.heap.size=D+2:=by rw[<-hW1,hD];simp
 have eos:W1.os=Ω4.w.os/\W1.tape=Ω4.w.tape/\W1.output=Ω4.w.output:=by rw[<-hW1];exact⟨rfl,rfl,rfl⟩
 have hL1:W1.heap[D+1]?=some (.loop (imR fn tm D .ready)):=by
  rw[<-hW1,hD];have:=World.alloc_heap_new (Ω4.w.alloc (.deferred (some []))) (.loop (imR fn tm Ω4.w.heap.size .ready))
  rwa [World.size_alloc]at this
 have hK1:W1.heap[D]?=some (.deferred (some [])):=by rw[<-hW1,hD];exact(Below.heap_alloc _ _ _ (by simp)).trans (World.alloc_heap_new Ω4.w _)
 have hX1:Ext ⟨e5,Ω4.w,Ω4.pub⟩ ⟨e5,W1,Ω4.pub⟩:=Ext.world hA3.ok fun b hb=>.inl (old b hb);have hA5:After w pub e (aj (imS se ty' va d)) W1 Ω4.pub e5:=hA3.post eos.1 eos.2.1 eos.2.2 (by omega) fun b hb=>.inl (old b hb)
 have far:∀b,Ω4.w.heap.size<=b->Foreign e5 Ω4.pub b:=fun b hb=>⟨fun o ho=>by have:=hA3.blk ho;omega,fun o hp=>by
  obtain⟨u,hu⟩:=hA3.ok _ _ hp;have:=aL hu;omega⟩
 have hsz:=hA3.size;have VK1:V ⟨e5,W1,Ω4.pub⟩ (.lst (.st .item) d.items none) vK:=(VK.data (τ:=.lst (.st .item)) (x:=d.items) (e':=e5)).ext hX1;obtain⟨q,cap,b,off,vals,rfl,hvals⟩:=Kf VK1;have w2:V ⟨e5,W1,Ω4.pub⟩ (.ptr 905 0) t2:=by obtain⟨b',o',len',rfl,hb'⟩:=v2.ptr_inv;rw[eC]at hb';cases hb';exact V.ptr 905 0 bC oC _ e905
 have w3:V ⟨e5,W1,Ω4.pub⟩ (.ptr 906 0) t3:=by obtain⟨b',o',len',rfl,hb'⟩:=v3.ptr_inv;rw[eD]at hb';cases hb';exact V.ptr 906 0 bD oD _ e906
 have e98:∀args w,(callFunc 98 args).run Tryz.prog w=.ok (.enter 98 args) w:=enters_of Tryz.func98 (by kernel_rfl) rfl;refine⟨D+1,[{target:=.collected D,args:=#[]}],W1,{target:=.fn (.func 98) #[.pointer (some ⟨bK,oK+0,none⟩)],args:=#[.func (.yield (D+1)) #[] #[]]},W1,98,#[.func (.yield (D+1)) #[] #[]]++#[.pointer (some ⟨bK,oK+0,none⟩)],W1,?_,?_,fun _ _=>trivial,?_,fun q=>(by cases q),?_⟩
 ·rw[<-hW1,hD,htm];exact run_enterLoop_outer _ _ _ _ _
 ·simp[resolve,go_sem]
 ·simp[invoke,go_sem,e98]
 ·have hJ0:ImJ w pub e W1 Ω4.pub e5 fn tm (D+1) D (imS se ty' (va++dh d.name (d.items.take 0)) d) W1:=by rw[P7];simp only[dh,OL];exact⟨⟨Ω4.pub,e5,hA5,Ext.refl _,far _ (by omega),far _ (by omega)⟩,hL1,hK1⟩
  have hlen:∀k,(va++dh d.name (d.items.take k)).length<=1000000:=fun k=>by
   have h1:=qi d.name (d.items.take k);have h2:(d.items.take k).length<=d.items.length:=by simp;omega
   rw[NZ];omega
  have hcell:W1.cell? ⟨bK,oK+0,none⟩=some (.slice q d.items.length cap):=(ai (old bK (aL cK)) _).trans cK
  refine(Tryz.lets1 0 (D+1) d.items.length b off cap bK (oK+0) q vals (by omega) (fun k W=>ImJ w pub e W1 Ω4.pub e5 fn tm (D+1) D (imS se ty' (va++dh d.name (d.items.take k)) d) W)
   (fun k W hJ hk=>⟨(hvals k hk).1,fun j v hj=>?_⟩) (fun k W o hJ=>hJ.alloc o) (fun k W hJ hk h3=>?_) (fun k W hJ hk h3=>?_) W1 hcell hJ0).mono ?_
  ·obtain⟨⟨pub',e',_,hx,_⟩,_,_⟩:=hJ;obtain⟨p1,p2⟩:=(hvals k hk).2.2.2 j v hj;exact(hx.cell _ _ p1).trans p2
  ·rw[BH d.name d.items k (dfl (.st .item)) hk,Ny (by rw[<-(hvals k hk).2.1];exact h3),OL];exact hJ
  ·refine(Kg hS hl ht (by omega) (by omega) (by omega) htm w2 w3 (hvals k hk).2.2.1 (hlen k) hJ).mono ?_;rintro en W' ⟨h1,h2⟩;refine⟨h1,?_⟩;rw[BH d.name d.items k (dfl (.st .item)) hk,NC (by rw[<-(hvals k hk).2.1];exact h3),<-O9];exact h2
  ·rintro en W' ⟨⟨v0,rfl⟩,hJ⟩;rw[OR]at hJ;obtain⟨⟨pub',e',ha,hx,hf,hg⟩,hL,hK⟩:=hJ;refine⟨none,_,run_endLoop hL (by simp[imR]),?_⟩;obtain⟨W3,hW3⟩:∃W3,W'.putObj (D+1) (.loop {imR fn tm D .ready with state:=.exhausted})=W3:=⟨_,rfl⟩;show LeavesInM Fence.wide 2 Tryz.prog Tryz.f23 _ R [{target:=.collected D,args:=#[]}] .returning (W'.putObj (D+1) (.loop {imR fn tm D .ready with state:=.exhausted}));rw[hW3];have old3:∀b,b≠D+1->W3.heap[b]?=W'.heap[b]?:=fun b hb=>by rw[<-hW3];exact World.putObj_heap_other hb
   have sz3:W3.heap.size=W'.heap.size:=by rw[<-hW3,World.putObj_size]
   have eos3:W3.os=W'.os/\W3.tape=W'.tape/\W3.output=W'.output:=by rw[<-hW3];exact⟨rfl,rfl,rfl⟩
   have hK3:=(old3 D (by omega)).trans hK
   have ha3:After w pub e (aj (imS se ty' (va++dh d.name d.items) d)) W3 pub' e':=ha.post eos3.1 eos3.2.1 eos3.2.2 (by omega) fun b hb=>by
    by_cases q:b=D+1
    ·exact .inr (by rw[q];exact⟨by omega,hf.no,hf.np⟩)
    ·exact .inl (old3 b q)
   have ha4:After w pub e (aj (imS se ty' (va++dh d.name d.items) d)) (W3.putObj D (.deferred none)) pub' e':=ha3.post rfl rfl rfl (by rw[World.putObj_size];exact NK _) fun b hb=>by
    by_cases q:b=D
    ·exact .inr (by rw[q];exact⟨by omega,hg.no,hg.np⟩)
    ·exact .inl (World.putObj_heap_other q)
   have none_of:∀i,bd i=true->aj (ck1 se ty va) i=none->e i=none:=fun i _ h=>hdom i h
   have ha5:=ha4.drop (A:=[906,905]) (B':=ck1 se ty' (va++dh d.name d.items)) hl ht (fun i hi=>by
     simp only[NG,P0,QK]at hi;rcases hi with rfl|rfl<;>rfl) (fun i hi=>by
     simp only[NG,P0,QK,QP]at hi;have h1:¬906=i:=fun q=>hi.1 q.symm;have h2:¬905=i:=fun q=>hi.2 q.symm;simp only[imS,aI];simp[h1,h2]) rfl (fun i hi=>by
     simp only[NG,P0,QK]at hi;rcases hi with rfl|rfl
     ·exact hdom 906 rfl
     ·exact hdom 905 rfl)
   refine⟨by simp,.inl ⟨_,_,rfl,run_takeDeferred hK3,?_⟩⟩;exact⟨_,results_none rfl _ _ _,hR _ _ _ ha5⟩
end Go.AL.Seat
end
section
namespace Go.AL.Seat
open Go Go.AL Go.Proofs Go.Pd
variable [Tabs] [SeatLaid]
theorem vF:ah Tryz.prog 23 (MH fun se ty va d=>⟨some (ty.length<=500000/\va.length<=500000/\d.items.length<=4000/\∀x∈d.items,allS nmU x.shape=true),none,.tup [],[(900,.box (.agg [.str se,.lst (.st .bind) (ty++bc d.name d.items) (some 901),.lst (.st .bind) (va++dh d.name d.items) (some 902),.nils,.map 903])),(901,.tail (.st .bind) (ty.length+(bc d.name d.items).length)),(902,.tail (.st .bind) (va.length+(dh d.name d.items).length))]⟩):=
 Lh (ee Tryz.func23) fun se ty va d hd ho=>uQ (sc Ec (sc HA (sc rf sn))) se ty va d (ho _ rfl)
end Go.AL.Seat
end
noncomputable section
namespace Go.Pd
open Go Go.AL
def yJ(l:List Bnd):Bool:=l.all fun b=>decide (b.v.pre.length<=100)
def ql(x:Impt):Bool:=decide (x.range.length<=50)&&(decide (x.pin.pre.length<=100)&&yJ x.range)
def oz:List Dcl->Int->Bool
 |[],_=>true
 |d::r,n=>if 1000<n+(fg d.term 500+sizeF d.shape 500)then false else oz r (n+(fg d.term 500+sizeF d.shape 500))
def du(m:Modu):Bool:=(decide (m.imports.length<=20)&&(decide (m.decls.length<=60)&&decide (m.exports.length<=100)))&&(m.imports.all ql&&oz m.decls 0)
theorem BI{x:Impt}:ql x=true↔x.range.length<=50/\x.pin.pre.length<=100/\yJ x.range=true:=by unfold ql;simp only[Nx,NA]
theorem HF(b:Bnd)(r:List Bnd):yJ (b::r)=(decide (b.v.pre.length<=100)&&yJ r):=Oe
theorem iT{m:Modu}(h:du m=true):m.imports.length<=20/\m.decls.length<=60/\m.exports.length<=100:=by unfold du at h;simp only[Nx,NA]at h;exact⟨h.1.1,h.1.2.1,h.1.2.2⟩
def Kh:List Dcl->Nat
 |[]=>0
 |d::r=>max (max (sz d.shape) (szT d.term)) (Kh r)
theorem Ff:∀(l:List Dcl)(d:Dcl),d∈l->sz d.shape<=Kh l/\szT d.term<=Kh l
 |x::r,d,h=>by
  rw[Kh];rcases NG.1 h with rfl|h
  ·omega
  ·have:=Ff r d h;omega
def clI(l:List AL.Item):Bool:=l.all fun x=>decide (x.kind=2)||bS x.shape
def clF(l:List Depd):Bool:=l.all fun d=>clI d.items
theorem Ki(x:AL.Item)(r:List AL.Item):clI (x::r)=((decide (x.kind=2)||bS x.shape)&&clI r):=Oe
theorem Kj(x:Depd)(r:List Depd):clF (x::r)=(clI x.items&&clF r):=Oe
theorem LN{l:List Depd}:clF l=true↔clD l:=by unfold clF clI clD;simp only[NJ,Oa,NA];exact⟨fun h d hd x hx k=>(h d hd x hx).resolve_left k,fun h d hd x hx=>(Pr (x.kind=2)).imp id fun k=>h d hd x hx k⟩
theorem BJ:∀(l:List AL.Item)(n:Int),0<=n->(rA l n).2=true->n+20 *(l.length:Int)<=(rA l n).1/\(rA l n).1<=max n 4000
 |[],n,h0,_=>by simp[rA];omega
 |x::r,n,h0,h=>by
  rw[rA]at h⊢;have hb:1<=sizeF x.shape 800:=(sizeF_bd x.shape 800 (by omega)).1;split at h
  ·cases h
  ·rename_i c;rw[Ny c];obtain⟨h1,h2⟩:=BJ r _ (by omega) h;rw[NL];exact⟨by omega,by omega⟩
theorem BK:∀(l:List Depd)(n i:Int),0<=n->n<=4000->iG l n i=true->∀d∈l,d.items.length<=4000
 |d::r,n,i,h0,h1,h,e,he=>by
  rw[iG]at h;split at h
  ·cases h
  ·split at h
   ·rename_i c;obtain⟨k1,k2⟩:=BJ d.items n h0 c;rcases NG.1 he with rfl|he
    ·omega
    ·exact BK r _ _ (by omega) (by omega) h e he
   ·cases h
theorem BL:∀(l:List Depd)(n i:Int),iG l n i=true->l=[]∨i+(l.length:Int)<=20
 |[],_,_,_=>.inl rfl
 |d::r,n,i,h=>by
  rw[iG]at h;split at h
  ·cases h
  ·split at h
   ·rcases BL r _ _ h with q|q
    ·subst q;right;simp only[NL,Ou];omega
    ·right;rw[NL];omega
   ·cases h
def noN(n:Str)(l:List Depd):Bool:=l.all fun d=>decide (d.name≠n)
theorem Kk(n:Str)(d:Depd)(r:List Depd):noN n (d::r)=(decide (d.name≠n)&&noN n r):=Oe
theorem Ee(d:Depd)(r:List Depd):fx (d::r)=if noN d.name r=true then d::fx r else fx r:=by
 rw[fx]
 have e:(d.name∈r.map (·.name))↔¬noN d.name r=true:=by
  unfold noN;rw[O0,NJ];constructor
  ·rintro⟨x,hx,e⟩ h;have:=Xo (h x hx);exact this e
  ·intro h;refine PO fun k=>h fun x hx=>Xd fun e=>k ⟨x,hx,e⟩
 by_cases h:noN d.name r=true
 ·rw[Ny (fun q=>(e.1 q) h),NC h]
 ·rw[NC (e.2 h),Ny h]
theorem qm:∀l:List Depd,(fx l).length<=l.length
 |[]=>NK _
 |d::r=>by have:=qm r;rw[fx];split<;>simp only[NL]<;>omega
theorem HG{ds:List Depd}{p:Depd->Prop}(h:∀d∈ds,p d)(h0:p nob):∀d∈kq ds,p d:=by
 intro d hd;rcases NG.1 hd with rfl|hd
 ·exact h0
 ·exact h d (mS ds d (QG.1 hd))
theorem BM{α:Type}(l:List α)(k:Nat)(d:α)(h:k<l.length):l.reverse.take (k+1)=l.reverse.take k++[l.getD (l.length-1-k) d]:=by
 rw[dU l.reverse k d (by simpa using h)];have:l.reverse.getD k d=l.getD (l.length-1-k) d:=by rw[NB,NB,List.getElem?_reverse h]
 rw[this]
theorem BN(a:Int)(m:List (Str×AL.Item)):∀(es:List Str)(out:List AL.Item),(jq a m es out).l.length<=out.length+es.length
 |[],out=>NK _
 |n::r,out=>by
  rw[jq];split
  ·simp
  ·rename_i x _;have:=BN a m r (out++[x]);rw[NZ,O4]at this;rw[NL];omega
theorem Kl{base:List Bndg}{m:Modu}{ds:List Depd}:(fN base m ds).l.length<=m.exports.length:=by
 unfold fN Ji Gu;split
 ·split
  ·split
   ·split
    ·have:=BN m.pos (di m.decls ⟨(dG ds m.imports (lv base m.name)).e,[]⟩).c.m m.exports [];simp only[jG,QB];simpa using this
    ·simp
   ·simp
  ·simp
 ·simp
end Go.Pd
end
section
open Go Go.AL Go.Pd
namespace Go.AL.Seat
theorem Ef(bL:List Bndg)(m:Modu)(ds:List Depd)(r:ExC)(hm:Wf (.st .modu) m)(hd:Wf (.lst (.st .dep)) ds)(hb:bL.length<=100)(ho:((m.decls.all dy=true/\m.decls.length<=1000000)/\m.decls.length<=100000/\∀d∈ds,d.items.length<=4000/\∀x∈d.items,allS nmU x.shape=true))(hr:fN bL m ds=r) :
  let A:=(1000000:Nat);let B:=(0:Int);let C:=True;let D:=r.l=[];let E:=B=r.f.pos/\C;let F:=(4000:Nat);let G:=(100:Nat);let H:=lv bL m.name;let I:=m=m;let J:=ds=ds;let K:=cH m=cH m;let L:=false=false;let M:=m.imports=m.imports;let N:=(↑(List.length m.imports):Int);let O:=N=N;let P:=m.name=m.name;let Q:=(0:Nat);let R:=B=B;let S:=den Ty.str×den (Ty.st SN.item);let T:=gJ S=gJ S;let U:=I/\R/\R/\T/\C;let V:=dfl (Ty.st SN.imp);let W:=(-1:Int);let X:=true=true;let Y:=(↑(List.length ds):Int);let Z:=dfl (Ty.st SN.dep);let a:=(1:Int);let b:=(500000:Nat);let d:=(100000:Nat);let g:=m.decls=m.decls;let h:=(↑(List.length m.decls):Int);let i:=I/\R/\R/\C;let j:=dfl (Ty.st SN.decl);let k:=(fun(x:AL.Item)=>x.name);let n:=(di m.decls {e:=(dG ds m.imports H).e,m:=[]:Cst});let o:=m.exports=m.exports;let p:=(↑(List.length m.exports):Int);let q:=dfl Ty.str;(List.all m.decls dy=true/\List.length m.decls<=A)/\if(!decide (cH m=B))=true then C/\D/\cH m=r.f.err/\E else(∃(x:Nat×List Bndg×List Bndg),(x.1<=List.length m.imports/\List.length x.2.1<=x.1*F/\List.length x.2.2<=G+x.1*F/\dG ds (List.drop x.1 m.imports) {self:=m.name,types:=x.2.1,values:=x.2.2,own:=[]:Envt}=dG ds m.imports H)/\B=(↑x.1:Int)/\I/\J/\K/\L/\M/\O/\P/\x.2.1=[]/\bL=x.2.2/\List.length x.2.1=Q/\List.length bL=List.length x.2.2/\U)/\∀(x:Nat×List Bndg×List Bndg),let s:=(↑x.1:Int);let t:=Int.toNat s;let u:=List.getD m.imports t V;let v:=s=s;let w:=List.length x.2.1=List.length x.2.1;let z:=List.length x.2.2=List.length x.2.2;let A0:=v/\I/\J/\K/\L/\M/\O/\X/\J/\Y=Y/\P/\x.2.1=x.2.1/\x.2.2=x.2.2/\w/\z/\I/\R/\R/\T/\List.getD m.imports t V=List.getD m.imports t V/\C;let A1:=w/\i;x.1<=List.length m.imports/\List.length x.2.1<=x.1*F/\List.length x.2.2<=G+x.1*F/\dG ds (List.drop x.1 m.imports) {self:=m.name,types:=x.2.1,values:=x.2.2,own:=[]:Envt}=dG ds m.imports H->if decide (s<N)=true then(B<=s/\s<N)/\(∃(x_1:Nat×Int),(x_1.1<=List.length ds/\jO u.name (List.drop x_1.1 ds) x_1.1 x_1.2=jO u.name ds Q W)/\B=(↑x_1.1:Int)/\W=x_1.2/\A0)/\∀(x_1:Nat×Int),let A2:=(↑x_1.1:Int);let A3:=inR IntKind.i64 (A2+a);let A4:=List.getD ds (Int.toNat x_1.2) Z;x_1.1<=List.length ds/\jO u.name (List.drop x_1.1 ds) x_1.1 x_1.2=jO u.name ds Q W->if decide (A2<Y)=true then(B<=A2/\A2<Y)/\if decide ((List.getD ds (Int.toNat A2) Z).name=u.name)=true then A3/\∃(y:Nat×Int),(y.1<=List.length ds/\jO u.name (List.drop y.1 ds) y.1 y.2=jO u.name ds Q W)/\List.length ds-y.1<List.length ds-x_1.1/\A2+a=(↑y.1:Int)/\A2=y.2/\A0 else A3/\∃(y:Nat×Int),(y.1<=List.length ds/\jO u.name (List.drop y.1 ds) y.1 y.2=jO u.name ds Q W)/\List.length ds-y.1<List.length ds-x_1.1/\A2+a=(↑y.1:Int)/\x_1.2=y.2/\A0 else if decide (x_1.2<B)=true then C/\D/\(282:Int)=r.f.err/\u.pos=r.f.pos/\C else(B<=x_1.2/\x_1.2<Y)/\((w/\z)/\List.length x.2.1<=b/\List.length x.2.2<=b/\List.length A4.items<=F/\∀(x:AL.Item),x∈A4.items->allS nmU x.shape=true)/\inR IntKind.i64 (s+a)/\∃(y:Nat×List Bndg×List Bndg),(y.1<=List.length m.imports/\List.length y.2.1<=y.1*F/\List.length y.2.2<=G+y.1*F/\dG ds (List.drop y.1 m.imports) {self:=m.name,types:=y.2.1,values:=y.2.2,own:=[]:Envt}=dG ds m.imports H)/\List.length m.imports-y.1<List.length m.imports-x.1/\s+a=(↑y.1:Int)/\I/\J/\K/\L/\M/\O/\P/\x.2.1++bc A4.name A4.items=y.2.1/\x.2.2++dh A4.name A4.items=y.2.2/\List.length x.2.1+List.length (bc A4.name A4.items)=List.length y.2.1/\List.length x.2.2+List.length (dh A4.name A4.items)=List.length y.2.2/\U else(∃(x_1:Nat×Cst),(x_1.1<=List.length m.decls/\List.length x_1.2.e.types<=d+x_1.1/\List.length x_1.2.e.values<=d+x_1.1/\List.length x_1.2.e.own<=x_1.1/\di (List.drop x_1.1 m.decls) x_1.2=di m.decls {e:=(dG ds m.imports H).e,m:=[]:Cst})/\B=(↑x_1.1:Int)/\v/\I/\J/\K/\L/\M/\O/\L/\g/\h=h/\m.name=x_1.2.e.self/\x.2.1=x_1.2.e.types/\x.2.2=x_1.2.e.values/\x_1.2.e.own=[]/\List.length x.2.2=List.length x_1.2.e.values/\List.length x_1.2.e.own=Q/\[]=x_1.2.m/\A1)/\∀(x_1:Nat×Cst),let A2:=(↑x_1.1:Int);let A3:=List.length x_1.2.e.values=List.length x_1.2.e.values;let A4:=List.length x_1.2.e.own=List.length x_1.2.e.own;let A5:=List.getD m.decls (Int.toNat A2) j;let A6:=jN A5 x_1.2;let A7:=x_1.2.e.self=x_1.2.e.self/\x_1.2.e.types=x_1.2.e.types/\x_1.2.e.values=x_1.2.e.values/\x_1.2.e.own=x_1.2.e.own/\A3/\A4/\x_1.2.m=x_1.2.m/\A1;x_1.1<=List.length m.decls/\List.length x_1.2.e.types<=d+x_1.1/\List.length x_1.2.e.values<=d+x_1.1/\List.length x_1.2.e.own<=x_1.1/\di (List.drop x_1.1 m.decls) x_1.2=di m.decls {e:=(dG ds m.imports H).e,m:=[]:Cst}->if decide (A2<h)=true then(B<=A2/\A2<h)/\((A3/\A4)/\(A5.kind=a∨A5.kind=(2:Int)∨A5.kind=(3:Int))/\(A5.kind=(3:Int)->cn A5.term=true)/\List.length x_1.2.e.types<=A/\List.length x_1.2.e.values<=A/\List.length x_1.2.e.own<=A)/\if(!decide (A6.f.err=B))=true then C/\D/\A6.f.err=r.f.err/\A6.f.pos=r.f.pos/\C else inR IntKind.i64 (A2+a)/\∃(y:Nat×Cst),(y.1<=List.length m.decls/\List.length y.2.e.types<=d+y.1/\List.length y.2.e.values<=d+y.1/\List.length y.2.e.own<=y.1/\di (List.drop y.1 m.decls) y.2=di m.decls {e:=(dG ds m.imports H).e,m:=[]:Cst})/\List.length m.decls-y.1<List.length m.decls-x_1.1/\A2+a=(↑y.1:Int)/\v/\I/\J/\K/\L/\M/\O/\L/\g/\h=h/\A6.c.e.self=y.2.e.self/\A6.c.e.types=y.2.e.types/\A6.c.e.values=y.2.e.values/\A6.c.e.own=y.2.e.own/\List.length A6.c.e.values=List.length y.2.e.values/\List.length A6.c.e.own=List.length y.2.e.own/\A6.c.m=y.2.m/\A1 else(∃(x_2:Nat×List AL.Item),let A8:=List.length x_2.2=Q;(x_2.1<=List.length m.exports/\List.length x_2.2=x_2.1/\List.map k x_2.2=List.take x_2.1 m.exports/\jq m.pos n.c.m (List.drop x_2.1 m.exports) x_2.2=jq m.pos n.c.m m.exports [])/\B=(↑x_2.1:Int)/\A8/\A8/\A2=A2/\v/\I/\J/\K/\L/\M/\O/\L/\g/\h=h/\L/\o/\p=p/\A8/\x_2.2=[]/\A7)/\
  ∀(x_2:Nat×List AL.Item),let A8:=(↑x_2.1:Int);let A9:=cm x_1.2.m (List.getD m.exports (Int.toNat A8) q);let B0:=List.length x_2.2=List.length x_2.2;let B1:=[Option.getD A9 {kind:=B,name:=[],shape:=AL.Shape.mk (B) ([]) ([]) ([]) ([]):AL.Item}];x_2.1<=List.length m.exports/\List.length x_2.2=x_2.1/\List.map k x_2.2=List.take x_2.1 m.exports/\jq m.pos n.c.m (List.drop x_2.1 m.exports) x_2.2=jq m.pos n.c.m m.exports []->if decide (A8<p)=true then(B<=A8/\A8<p)/\if(!Option.isSome A9)=true then C/\D/\(150:Int)=r.f.err/\m.pos=r.f.pos/\C else((B0/\B0)/\(List.length x_2.2+List.length B1)*(112:Nat)<=(140737488355328:Nat))/\inR IntKind.i64 (A8+a)/\∃(y:Nat×List AL.Item),let B2:=List.length x_2.2+List.length B1=List.length y.2;(y.1<=List.length m.exports/\List.length y.2=y.1/\List.map k y.2=List.take y.1 m.exports/\jq m.pos n.c.m (List.drop y.1 m.exports) y.2=jq m.pos n.c.m m.exports [])/\List.length m.exports-y.1<List.length m.exports-x_2.1/\A8+a=(↑y.1:Int)/\B2/\List.length (x_2.2++B1)=List.length y.2/\A2=A2/\v/\I/\J/\K/\L/\M/\O/\L/\g/\h=h/\L/\o/\p=p/\B2/\x_2.2++B1=y.2/\A7 else((B0/\B0)/\List.Nodup (List.map (fun(x:den (Ty.st SN.item))=>x.name) x_2.2)/\List.length x_2.2<=A)/\((B0/\List.length x_2.2=List.length (jG x_2.2))/\C)/\C/\jG x_2.2=r.l/\B=r.f.err/\E:=by
 conv=>zeta
 obtain⟨om,od,oi⟩:=ho;have li:=hm.modu_imports.len;have lx:=hm.modu_exports.len;have ld:=hd.len;unfold fN at hr;simp only[NQ,P1,Oo,Oc,O4];refine⟨om,aa (fun h=>?_) (fun h=>?_)⟩
 ·have h:¬cH m=0:=by simpa using h
  rw[Ny h]at hr;subst hr;exact(by repeat' (first|exact trivial|rfl|apply And.intro))
 have h0:cH m=0:=by simpa using h
 rw[NC h0]at hr;obtain⟨c8,c60,cnd,ckd⟩:=AF h0;unfold Ji at hr;obtain⟨I,hI⟩:∃I,I=dG ds m.imports (lv bL m.name):=⟨_,rfl⟩;simp only[<-hI]at hr⊢;refine⟨⟨(0,[],bL),⟨NU _,by simp,by simp only;omega,by rw[hI];rfl⟩,(by repeat' (first|exact trivial|rfl|apply And.intro))⟩,?_⟩;rintro⟨k,ty,va⟩ ⟨h1,h2,h3,h4⟩;simp only at h1 h2 h3 h4⊢;apply aa<;>intro h
 ·have h:=Xo h;have hk:k<m.imports.length:=by omega
  rw[ak m.imports k (dfl (.st .imp)) hk]at h4;simp only[dG]at h4;obtain⟨i,hi⟩:∃i,m.imports.getD k (dfl (.st .imp))=i:=⟨_,rfl⟩;simp only[hi]at h4⊢;refine⟨⟨by omega,h⟩,⟨(0,-1),⟨NU _,rfl⟩,(by repeat' (first|exact trivial|rfl|apply And.intro))⟩,?_⟩;rintro⟨j,a⟩ ⟨g1,g2⟩;simp only at g1 g2⊢;apply aa<;>intro q
  ·have q:=Xo q;have hj:j<ds.length:=by omega
   rw[ak ds j (dfl (.st .dep)) hj]at g2;simp only[jO]at g2;refine⟨⟨by omega,q⟩,aa (fun c=>?_) (fun c=>?_)⟩
   ·rw[NC (Xo c)]at g2;exact⟨aJ hj ld,(j+1,j),⟨hj,g2⟩,by simp only;omega,by simp only;omega,rfl⟩
   ·rw[Ny (fun e=>c (Xd e))]at g2;exact⟨aJ hj ld,(j+1,a),⟨hj,g2⟩,by simp only;omega,by simp only;omega,rfl⟩
  ·have q:¬((j:Int)<(ds.length:Int)):=fun e=>q (Xd e);have e:j=ds.length:=by omega
   subst e;rw[NN]at g2;simp only[jO]at g2;have sp:=wD i.name ds 0 (-1);rw[<-g2]at sp;apply aa<;>intro c
   ·have c:=Xo c;rcases sp with⟨e1,_⟩|⟨t,e1,e2,_⟩
    ·rw[e1]at h4;simp only at h4;rw[<-h4,Ny (by show ¬(282:Int)=0;decide)]at hr;subst hr;exact(by repeat' (first|exact trivial|rfl|apply And.intro))
    ·omega
   ·have c:¬a<0:=fun e=>c (Xd e);rcases sp with⟨_,e2⟩|⟨t,e1,e2,e3⟩
    ·omega
    ·have ea:a.toNat=t:=by omega
     have ot:=oi _ (getD_mem ds t (dfl (.st .dep)) e1);rw[ea];rw[e3]at h4;simp only[MF]at h4;have tl:=lh (ds.getD t (dfl (.st .dep))).name (ds.getD t (dfl (.st .dep))).items;have vl:=qi (ds.getD t (dfl (.st .dep))).name (ds.getD t (dfl (.st .dep))).items;have hk4:k *4000<=32000:=by omega
     exact⟨by omega,⟨by omega,by omega,ot.1,ot.2⟩,aJ hk li,(k+1,ty++_,va++_),⟨hk,by simp only[NZ];omega,by simp only[NZ];omega,h4⟩,by simp only;omega,by simp only;omega,rfl,rfl,by simp only[NZ],by simp only[NZ]⟩
 ·have h:¬((k:Int)<(m.imports.length:Int)):=fun e=>h (Xd e);have e0:k=m.imports.length:=by omega
  subst e0;rw[NN]at h4;simp only[dG]at h4;simp only[<-h4]at hr⊢;rw[NC (show cu.err=0 from rfl)]at hr;obtain⟨D,hD⟩:∃D,D=di m.decls ⟨⟨m.name,ty,va,[]⟩,[]⟩:=⟨_,rfl⟩;simp only[<-hD]at hr⊢;have its:Its D.c.m:=by rw[hD];exact uu _ Li
  have hk4:m.imports.length *4000<=32000:=by omega
  refine⟨⟨(0,⟨⟨m.name,ty,va,[]⟩,[]⟩),⟨NU _,by simp only;omega,by simp only;omega,NK _,hD.symm⟩,(by repeat' (first|exact trivial|rfl|apply And.intro))⟩,?_⟩;rintro⟨k,c⟩ ⟨h1,h5,h6,h7,h8⟩;simp only at h1 h5 h6 h7 h8⊢;apply aa<;>intro h
  ·have h:=Xo h;have hk:k<m.decls.length:=by omega
   have hmm:=getD_mem m.decls k (dfl (.st .decl)) hk;rw[ak m.decls k (dfl (.st .decl)) hk]at h8;simp only[di]at h8;obtain⟨d,hdd⟩:∃d,m.decls.getD k (dfl (.st .decl))=d:=⟨_,rfl⟩;simp only[hdd]at h8 hmm⊢;have gr:=MI d c;refine⟨⟨by omega,h⟩,⟨ckd d hmm,fun _=>(Af (NJ.1 om.1 d hmm)).2,by omega,by omega,by omega⟩,aa (fun f=>?_) (fun f=>?_)⟩
   ·have f:¬(jN d c).f.err=0:=by simpa using f
    rw[Ny f]at h8;rw[<-h8,Ny f]at hr;subst hr;exact(by repeat' (first|exact trivial|rfl|apply And.intro))
   ·have f:(jN d c).f.err=0:=by simpa using f
    rw[NC f]at h8;exact⟨aN (by omega) (by omega),(k+1,(jN d c).c),⟨hk,by have:=gr.ty;simp only;omega,by have:=gr.va;simp only;omega,by have:=gr.ow;simp only;omega,h8⟩,by simp only;omega,by simp only;omega,(by repeat' (first|exact trivial|rfl|apply And.intro))⟩
  ·have h:¬((k:Int)<(m.decls.length:Int)):=fun e=>h (Xd e);have e0:k=m.decls.length:=by omega
   subst e0;rw[NN]at h8;simp only[di]at h8;subst h8;rw[NC (show cu.err=0 from rfl)]at hr;simp only at hr its⊢;refine⟨⟨(0,[]),⟨NU _,rfl,rfl,rfl⟩,(by repeat' (first|exact trivial|rfl|apply And.intro))⟩,?_⟩;rintro⟨k,xs⟩ ⟨g1,g2,g3,g4⟩;simp only at g1 g2 g3 g4⊢;apply aa<;>intro h
   ·have h:=Xo h;have hk:k<m.exports.length:=by omega
    rw[ak m.exports k (dfl .str) hk]at g4;simp only[jq]at g4;obtain⟨n,hn⟩:∃n,m.exports.getD k (dfl .str)=n:=⟨_,rfl⟩;have tk:=dU m.exports k (dfl .str) hk;simp only[hn]at g4 tk⊢;refine⟨⟨by omega,h⟩,aa (fun q=>?_) (fun q=>?_)⟩
    ·have e1:cm (K:=Str) c.m n=none:=by
      cases z:cm (K:=Str) c.m n with
      |none=>rfl
      |some x=>rw[z]at q;cases q
     rw[e1]at g4;simp only at g4;rw[<-g4]at hr;subst hr;exact(by repeat' (first|exact trivial|rfl|apply And.intro))
    ·obtain⟨x,z⟩:∃x,cm (K:=Str) c.m n=some x:=by
      cases z:cm (K:=Str) c.m n with|none=>rw[z]at q;exact absurd rfl q|some x=>exact⟨x,rfl⟩
     rw[z]at g4;simp only at g4;simp only[z,Oq];refine⟨by omega,aJ hk lx,(k+1,xs++[x]),⟨hk,by simp only[NZ,O4];omega,?_,g4⟩,by simp only;omega,by simp only;omega,by simp only[NZ,O4],by simp only[NZ,O4],by simp only[NZ,O4];exact(by repeat' (first|exact trivial|rfl|apply And.intro))⟩;rw[tk,<-g3,PA,Qq,F5 its z]
   ·have h:¬((k:Int)<(m.exports.length:Int)):=fun e=>h (Xd e);have e0:k=m.exports.length:=by omega
    subst e0;rw[NN]at g4;simp only[jq]at g4;rw[<-g4]at hr;unfold Gu at hr;rw[NC (show cu.err=0 from rfl)]at hr;subst hr;rw[OR]at g3;exact⟨⟨by show(xs.map (·.name)).Nodup;rw[g3];exact cnd,by omega⟩,by rw[jG,QB],(by repeat' (first|exact trivial|rfl|apply And.intro))⟩
theorem Eg(m:Modu)(N:Nat)(hm:Wf (.st .modu) m)(hN:∀d∈m.decls,sz d.shape<=N/\szT d.term<=N) :
  let A:=(↑(List.length m.imports):Int);let B:=True/\false=du m/\True;let C:=(↑(List.length m.decls):Int);let D:=(100:Int);let E:=(0:Int);let F:=false=false;let G:=F/\m=m/\True;let H:=dfl (Ty.st SN.imp);let I:=(1:Nat);let J:=m=m/\F/\true=true/\G;let K:=(1:Int);let L:=(1000:Int);let M:=m=m/\F/\G;let O:=dfl (Ty.st SN.decl);let P:=(500:Int);let Q:=E<=P/\P<=(1000000:Int);if decide ((20:Int)<A)=true then B else if decide ((60:Int)<C)=true then B else if decide (D<(↑(List.length m.exports):Int))=true then B else(∃(x:Nat),(x<=List.length m.imports/\(List.all (List.drop x m.imports) ql&&oz m.decls E)=du m)/\E=(↑x:Int)/\m=m/\G)/\∀(x:Nat),let R:=(↑x:Int);let S:=E<=R/\R<A;let T:=List.getD m.imports (Int.toNat R) H;let U:=(↑(List.length T.range):Int);let V:=List.all (List.drop (Int.toNat R+I) m.imports) ql&&oz m.decls E;x<=List.length m.imports/\(List.all (List.drop x m.imports) ql&&oz m.decls E)=du m->if decide (R<A)=true then S/\if decide ((50:Int)<U)=true then B else S/\if decide (D<(↑(List.length T.pin.pre):Int))=true then B else(∃(x_1:Nat),(x_1<=List.length T.range/\(yJ (List.drop x_1 T.range)&&V)=du m)/\E=(↑x_1:Int)/\R=R/\J)/\∀(x_1:Nat),let W:=(↑x_1:Int);x_1<=List.length T.range/\(yJ (List.drop x_1 T.range)&&V)=du m->S/\if decide (W<U)=true then S/\(E<=W/\W<U)/\if decide (D<(↑(List.length (List.getD T.range (Int.toNat W) (dfl (Ty.st SN.bound))).v.pre):Int))=true then B else inR IntKind.i64 (W+K)/\∃(y:Nat),(y<=List.length T.range/\(yJ (List.drop y T.range)&&V)=du m)/\List.length T.range-y<List.length T.range-x_1/\W+K=(↑y:Int)/\R=R/\J else inR IntKind.i64 (R+K)/\∃(y:Nat),(y<=List.length m.imports/\(List.all (List.drop y m.imports) ql&&oz m.decls E)=du m)/\List.length m.imports-y<List.length m.imports-x/\R+K=(↑y:Int)/\m=m/\G else(∃(x_1:Nat×Int),(x_1.1<=List.length m.decls/\E<=x_1.2/\x_1.2<=L/\oz (List.drop x_1.1 m.decls) x_1.2=du m)/\E=x_1.2/\E=(↑x_1.1:Int)/\R=R/\M)/\∀(x_1:Nat×Int),let W:=(↑x_1.1:Int);let X:=E<=W/\W<C;let Y:=List.getD m.decls (Int.toNat W) O;let Z:=fg Y.term P+sizeF Y.shape P;x_1.1<=List.length m.decls/\E<=x_1.2/\x_1.2<=L/\oz (List.drop x_1.1 m.decls) x_1.2=du m->if decide (W<C)=true then X/\(szT Y.term<=N/\Q)/\X/\(sz Y.shape<=N/\Q)/\inR IntKind.i64 Z/\inR IntKind.i64 (x_1.2+Z)/\if decide (L<x_1.2+Z)=true then B else inR IntKind.i64 (W+K)/\∃(y:Nat×Int),(y.1<=List.length m.decls/\E<=y.2/\y.2<=L/\oz (List.drop y.1 m.decls) y.2=du m)/\List.length m.decls-y.1<List.length m.decls-x_1.1/\x_1.2+Z=y.2/\W+K=(↑y.1:Int)/\R=R/\M else True/\true=du m/\True:=by
 conv=>zeta
 have ln:=hm.modu_imports.len;have ld:=hm.modu_decls.len;simp only[NQ,P1,Oo,Oc];refine aa (fun h=>?_) (fun c1=>aa (fun h=>?_) (fun c2=>aa (fun h=>?_) (fun c3=>?_)))
 ·have h:=Xo h;exact(P5.2 fun e=>by have:=iT e;omega).symm
 ·have h:=Xo h;exact(P5.2 fun e=>by have:=iT e;omega).symm
 ·have h:=Xo h;exact(P5.2 fun e=>by have:=iT e;omega).symm
 have d1:¬(20:Int)<(m.imports.length:Int):=fun z=>c1 (Xd z);have d2:¬(60:Int)<(m.decls.length:Int):=fun z=>c2 (Xd z);have d3:¬(100:Int)<(m.exports.length:Int):=fun z=>c3 (Xd z);have e0:du m=(m.imports.all ql&&oz m.decls 0):=by unfold du;rw[Xd (show m.imports.length<=20 by omega),Xd (show m.decls.length<=60 by omega),Xd (show m.exports.length<=100 by omega)];rfl
 clear c1 c2 c3;refine⟨⟨0,⟨NU _,e0.symm⟩,rfl⟩,?_⟩;rintro q ⟨q1,q2⟩;apply aa<;>intro c
 ·have c:=Xo c;have cq:q<m.imports.length:=by omega
  rw[ak m.imports q (dfl (.st .imp)) cq,Oe]at q2;have bad:ql (m.imports.getD q (dfl (.st .imp)))=false->false=du m:=fun e=>by rw[e,NT,NT]at q2;exact q2
  refine⟨by omega,aa (fun c=>bad (P5.2 fun e=>?_)) (fun x1=>⟨by omega,aa (fun c=>bad (P5.2 fun e=>?_)) (fun x2=>?_)⟩)⟩
  ·have:=BI.1 e;have:=Xo c;omega
  ·have:=BI.1 e;have:=Xo c;omega
  have y1:¬(50:Int)<((m.imports.getD q (dfl (.st .imp))).range.length:Int):=fun z=>x1 (Xd z);have y2:¬(100:Int)<((m.imports.getD q (dfl (.st .imp))).pin.pre.length:Int):=fun z=>x2 (Xd z);have lx:ql (m.imports.getD q (dfl (.st .imp)))=yJ (m.imports.getD q (dfl (.st .imp))).range:=by unfold ql;rw[Xd (show(m.imports.getD q (dfl (.st .imp))).range.length<=50 by omega),Xd (show(m.imports.getD q (dfl (.st .imp))).pin.pre.length<=100 by omega)];rfl
  rw[lx,R0]at q2;clear bad lx x1 x2;refine⟨⟨0,⟨NU _,q2⟩,rfl⟩,?_⟩;rintro j ⟨j1,j2⟩;refine⟨by omega,aa (fun c=>?_) (fun c=>?_)⟩
  ·have c:=Xo c;have hj:j<(m.imports.getD q (dfl (.st .imp))).range.length:=by omega
   rw[ak (m.imports.getD q (dfl (.st .imp))).range j (dfl (.st .bound)) hj,HF]at j2;refine⟨by omega,by omega,aa (fun d=>?_) (fun d=>?_)⟩
   ·have d:=Xo d;rw[Xf (show ¬((m.imports.getD q (dfl (.st .imp))).range.getD j (dfl (.st .bound))).v.pre.length<=100 by omega),NT,NT]at j2;exact j2
   ·have d:¬(100:Int)<(((m.imports.getD q (dfl (.st .imp))).range.getD j (dfl (.st .bound))).v.pre.length:Int):=fun z=>d (Xd z);rw[Xd (show((m.imports.getD q (dfl (.st .imp))).range.getD j (dfl (.st .bound))).v.pre.length<=100 by omega),Og]at j2;exact⟨aN (by omega) (by omega),j+1,⟨by omega,j2⟩,by omega,by omega⟩
  ·have e:j=(m.imports.getD q (dfl (.st .imp))).range.length:=by have:¬((j:Int)<((m.imports.getD q (dfl (.st .imp))).range.length:Int)):=fun e=>c (Xd e);omega
   rw[e,NN]at j2;exact⟨aN (by omega) (by omega),q+1,⟨by omega,j2⟩,by omega,by omega⟩
 ·have e:q=m.imports.length:=by have:¬((q:Int)<(m.imports.length:Int)):=fun e=>c (Xd e);omega
  rw[e,NN]at q2;refine⟨⟨(0,0),⟨NU _,by simp only;omega,by simp only;omega,q2⟩,rfl,rfl⟩,?_⟩;rintro⟨k,n2⟩ ⟨k1,k2,k3,k4⟩;simp only at k1 k2 k3 k4⊢;apply aa<;>intro c
  ·have c:=Xo c;have ck:k<m.decls.length:=by omega
   rw[ak m.decls k (dfl (.st .decl)) ck,oz]at k4;obtain⟨z1,z2⟩:=hN _ (getD_mem m.decls k (dfl (.st .decl)) ck);have a:=sizeT_bd (m.decls.getD k (dfl (.st .decl))).term 500 (by omega);have b:=sizeF_bd (m.decls.getD k (dfl (.st .decl))).shape 500 (by omega);refine⟨by omega,⟨z2,by omega,by omega⟩,by omega,⟨z1,by omega,by omega⟩,aN (by omega) (by omega),aN (by omega) (by omega),aa (fun d=>?_) (fun d=>?_)⟩
   ·rw[NC (Xo d)]at k4;exact k4
   ·have d:¬(1000:Int)<n2+(fg (m.decls.getD k (dfl (.st .decl))).term 500+sizeF (m.decls.getD k (dfl (.st .decl))).shape 500):=fun z=>d (Xd z);rw[Ny d]at k4;exact⟨aJ ck ld,(k+1,_),⟨by simp only;omega,by simp only;omega,by simp only;omega,k4⟩,by simp only;omega,rfl,rfl⟩
  ·have e:k=m.decls.length:=by have:¬((k:Int)<(m.decls.length:Int)):=fun e=>c (Xd e);omega
   rw[e,NN,oz]at k4;exact k4
theorem BO(l:List Depd)(hl:Wf (.lst (.st .dep)) l) :
  let A:=(0:Int);let B:=True;let C:=(↑(List.length l):Int);let D:=dfl (Ty.st SN.dep);let E:=(1:Nat);let F:=l=l/\true=true/\B;let G:=dfl (Ty.st SN.item);let H:=(1:Int);(∃(x:Nat),(x<=List.length l/\clF (List.drop x l)=clF l)/\A=(↑x:Int)/\l=l/\B)/\∀(x:Nat),let I:=(↑x:Int);let J:=List.getD l (Int.toNat I) D;let K:=List.drop (Int.toNat I+E) l;let L:=I=I/\F;let M:=A<=I/\I<C;let N:=(↑(List.length J.items):Int);x<=List.length l/\clF (List.drop x l)=clF l->if decide (I<C)=true then(∃(x_1:Nat),(x_1<=List.length J.items/\(clI (List.drop x_1 J.items)&&clF K)=clF l)/\A=(↑x_1:Int)/\L)/\∀(x_1:Nat),let O:=(↑x_1:Int);let P:=List.getD J.items (Int.toNat O) G;let Q:=inR IntKind.i64 (O+H)/\∃(y:Nat),(y<=List.length J.items/\(clI (List.drop y J.items)&&clF K)=clF l)/\List.length J.items-y<List.length J.items-x_1/\O+H=(↑y:Int)/\L;x_1<=List.length J.items/\(clI (List.drop x_1 J.items)&&clF K)=clF l->M/\if decide (O<N)=true then M/\(A<=O/\O<N)/\if(!decide (P.kind=(2:Int)))=true then if(!bS P.shape)=true then B/\false=clF l/\B else Q else Q else inR IntKind.i64 (I+H)/\∃(y:Nat),(y<=List.length l/\clF (List.drop y l)=clF l)/\List.length l-y<List.length l-x/\I+H=(↑y:Int)/\l=l/\B else B/\true=clF l/\B:=by
 conv=>zeta
 have ln:=hl.len;simp only[NQ,P1,Oo,Oc];refine⟨⟨0,⟨NU _,rfl⟩,rfl⟩,?_⟩;rintro i ⟨h1,h2⟩;apply aa<;>intro h
 ·have h:=Xo h;have hi:i<l.length:=by omega
  have li:=(hl.mem (getD_mem l i (dfl (.st .dep)) hi)).dep_items.len;rw[ak l i (dfl (.st .dep)) hi,Kj]at h2;refine⟨⟨0,⟨NU _,h2⟩,rfl⟩,?_⟩;rintro j ⟨j1,j2⟩;refine⟨by omega,aa (fun c=>?_) (fun c=>?_)⟩
  ·have c:=Xo c;have hj:j<(l.getD i (dfl (.st .dep))).items.length:=by omega
   rw[ak (l.getD i (dfl (.st .dep))).items j (dfl (.st .item)) hj,Ki]at j2;have fin:(decide (((l.getD i (dfl (.st .dep))).items.getD j (dfl (.st .item))).kind=2)||bS ((l.getD i (dfl (.st .dep))).items.getD j (dfl (.st .item))).shape)=true->inR IntKind.i64 ((j:Int)+1)/\∃y,(y<=(l.getD i (dfl (.st .dep))).items.length/\(clI ((l.getD i (dfl (.st .dep))).items.drop y)&&clF (l.drop (i+1)))=clF l)/\(l.getD i (dfl (.st .dep))).items.length-y<(l.getD i (dfl (.st .dep))).items.length-j/\(j:Int)+1=(y:Int):=fun e=>by rw[e,Og]at j2;exact⟨aJ hj li,j+1,⟨by omega,j2⟩,by omega,by omega⟩
   refine⟨by omega,by omega,aa (fun d=>aa (fun q=>?_) (fun q=>fin ?_)) (fun d=>fin ?_)⟩
   ·have d:¬((l.getD i (dfl (.st .dep))).items.getD j (dfl (.st .item))).kind=2:=by simpa using d
    have q:bS ((l.getD i (dfl (.st .dep))).items.getD j (dfl (.st .item))).shape=false:=by simpa using q
    rw[Xf d,q,Bool.false_or,NT,NT]at j2;exact j2
   ·rw[Oa];exact .inr (by simpa using q)
   ·rw[Oa];exact .inl (by simpa using d)
  ·have e:j=(l.getD i (dfl (.st .dep))).items.length:=by have:¬((j:Int)<((l.getD i (dfl (.st .dep))).items.length:Int)):=fun e=>c (Xd e);omega
   rw[e,NN]at j2;exact⟨aJ hi ln,i+1,⟨by omega,j2⟩,by omega,by omega⟩
 ·have e:i=l.length:=by have:¬((i:Int)<(l.length:Int)):=fun e=>h (Xd e);omega
  rw[e,NN]at h2;exact h2
theorem rD(bL:List Bndg)(m:Modu)(ds:List Depd)(hm:Wf (.st .modu) m)(hd:Wf (.lst (.st .dep)) ds)(hs:m.decls.all dy=true)(hi:∀d∈ds,∀x∈d.items,allS nmU x.shape=true)(hB:clB bL) :
  let A:=True;let B:=true=true;let C:=A/\B/\A;let D:=(0:Int);let E:=(List.all m.decls dy=true/\List.length m.decls<=(1000000:Nat));let F:=List.length m.decls<=(100000:Nat);let G:=fN bL m ds;let H:=(↑(List.length G.l):Int);let I:=A/\false=true/\A;let J:=(↑(List.length m.exports):Int);let K:=(1:Int);let L:=m=m;let M:=ds=ds;let N:=false=false;let O:=G.l=G.l;let P:=m.name=m.name;let Q:=m.decls=m.decls;let R:=List.reverse m.exports;let S:=m.pos=m.pos;let T:=(0:Nat);let U:=G.f.err=G.f.err;let V:=G.f.pos=G.f.pos;let W:=L/\U/\V/\A;let X:=dfl Ty.str;let Y:=(140737488355328:Nat);let Z:=(↑(List.length m.imports):Int);let a:=List.reverse m.imports;let b:=dfl (Ty.st SN.imp);let c:=List.reverse m.exports=List.reverse m.exports;let e:=(↑(List.length ds):Int);let g:=(1:Nat);let h:=dfl (Ty.st SN.dep);let i:=[{name:=([110,111,98,111,100,121]:Str),items:=[]:Depd}];let j:=dfl (Ty.st SN.item);if(!du m)=true then C else if(!iG ds D D)=true then C else(E/\F/\∀(d:Depd),d∈ds->List.length d.items<=(4000:Nat)/\∀(x:AL.Item),x∈d.items->allS nmU x.shape=true)/\if(!decide (G.f.err=D))=true then if decide (H=D)=true then C else I else inR IntKind.i64 (J-K)/\(∃(x:Nat),x<=List.length m.exports/\J-K=J-K-(↑x:Int)/\L/\M/\N/\N/\O/\N/\P/\Q/\List.take x R=[]/\S/\List.length (List.take x R)=T/\W)/\∀(x:Nat),let k:=(↑x:Int);let n:=D<=J-K-k;let o:=List.take x R;let p:=List.length o=List.length o;let q:=[List.getD m.exports (Int.toNat (J-K-k)) X];let r:=J-K-k=J-K-k;let s:=p/\W;x<=List.length m.exports->if decide (n)=true then(n/\J-K-k<J)/\(p/\(List.length o+List.length q)*(16:Nat)<=Y)/\inR IntKind.i64 (J-K-k-K)/\∃(y:Nat),y<=List.length m.exports/\List.length m.exports-y<List.length m.exports-x/\J-K-k-K=J-K-(↑y:Int)/\L/\M/\N/\N/\O/\N/\P/\Q/\List.take x R++q=List.take y R/\S/\List.length (List.take x R++q)=List.length (List.take y R)/\W else inR IntKind.i64 (Z-K)/\(∃(x_1:Nat),x_1<=List.length m.imports/\Z-K=Z-K-(↑x_1:Int)/\r/\L/\M/\N/\N/\O/\N/\N/\P/\List.take x_1 a=[]/\Q/\List.take x R=List.reverse m.exports/\S/\List.length (List.take x_1 a)=T/\s)/\∀(x_1:Nat),let t:=(↑x_1:Int);let u:=D<=Z-K-t;let v:=List.take x_1 a;let w:=List.length v=List.length v;let z:=[List.getD m.imports (Int.toNat (Z-K-t)) b];let A0:=Z-K-t=Z-K-t;let A1:=List.take x_1 a=List.take x_1 a;let A2:=P/\A1/\Q/\c/\S/\w/\s;x_1<=List.length m.imports->if decide (u)=true then(u/\Z-K-t<Z)/\(w/\(List.length v+List.length z)*(88:Nat)<=Y)/\inR IntKind.i64 (Z-K-t-K)/\∃(y:Nat),y<=List.length m.imports/\List.length m.imports-y<List.length m.imports-x_1/\Z-K-t-K=Z-K-(↑y:Int)/\r/\L/\M/\N/\N/\O/\N/\N/\P/\List.take x_1 a++z=List.take y a/\Q/\c/\S/\List.length (List.take x_1 a++z)=List.length (List.take y a)/\s else inR IntKind.i64 (e-K)/\(∃(x_2:Nat),let A3:=fx (List.drop x_2 ds);x_2<=List.length ds/\e-K=(↑x_2:Int)-K/\List.reverse A3=[]/\A0/\r/\L/\M/\N/\N/\O/\N/\N/\N/\List.length (List.reverse A3)=T/\A2)/\∀(x_2:Nat),let A3:=(↑x_2:Int);let A4:=A3-K;let A5:=List.getD ds (Int.toNat A4) h;let A6:=A5;let A7:=List.drop (Int.toNat A4+g) ds;let A8:=fx (List.drop x_2 ds);let A9:=List.reverse A8=List.reverse A8;let B0:=List.reverse A8;let B1:=List.length B0=List.length B0;let B2:=A3-K=A3-K/\A9/\A0/\r/\L/\M/\N/\N/\O/\N/\N/\N/\B/\B1/\A2;let B3:=D<=A3-K/\A3-K<e;let B4:=inR IntKind.i64 (A3-K-K);let B5:=i++List.reverse A8;let B6:=(fN bL {name:=m.name,imports:=List.take x_1 a,decls:=m.decls,exports:=List.reverse m.exports,pos:=m.pos:Modu} B5);let B7:=A3-K=A3-K/\A9/\A0/\r/\L/\M/\N/\O/\N/\N/\N/\N/\B6.l=B6.l/\N/\B1/\P/\A1/\Q/\c/\S/\w/\p/\L/\U/\V/\List.length B5=List.length B5/\B6.f.err=B6.f.err/\B6.f.pos=B6.f.pos/\A;x_2<=List.length ds->if decide (D<=A3-K)=true then inR IntKind.i64 (A3-K+K)/\(∃(x_3:Nat×Bool),(x_3.1<=List.length ds/\Int.toNat A4+g<=x_3.1/\(x_3.2&&noN A6.name (List.drop x_3.1 ds))=noN A6.name A7)/\true=x_3.2/\A3-K+K=(↑x_3.1:Int)/\B2)/\∀(x_3:Nat×Bool),let B8:=(↑x_3.1:Int);let B9:=inR IntKind.i64 (B8+K);x_3.1<=List.length ds/\Int.toNat A4+g<=x_3.1/\(x_3.2&&noN A6.name (List.drop x_3.1 ds))=noN A6.name A7->if decide (B8<e)=true then if x_3.2=true then(D<=B8/\B8<e)/\B3/\B9/\∃(y:Nat×Bool),(y.1<=List.length ds/\Int.toNat A4+g<=y.1/\(y.2&&noN A6.name (List.drop y.1 ds))=noN A6.name A7)/\List.length ds-y.1<List.length ds-x_3.1/\(!decide ((List.getD ds (Int.toNat B8) h).name=A6.name))=y.2/\B8+K=(↑y.1:Int)/\B2 else B9/\∃(y:Nat×Bool),(y.1<=List.length ds/\Int.toNat A4+g<=y.1/\(y.2&&noN A6.name (List.drop y.1 ds))=noN A6.name A7)/\List.length ds-y.1<List.length ds-x_3.1/\false=y.2/\B8+K=(↑y.1:Int)/\B2 else if x_3.2=true then B3/\(B1/\(List.length B0+List.length [A5])*(40:Nat)<=Y)/\B4/\∃(y:Nat),let C0:=fx (List.drop y ds);y<=List.length ds/\y<x_2/\A3-K-K=(↑y:Int)-K/\List.reverse A8++[A5]=List.reverse C0/\A0/\r/\L/\M/\N/\N/\O/\N/\N/\N/\List.length (List.reverse A8++[A5])=List.length (List.reverse C0)/\A2 else B4/\∃(y:Nat),let C0:=fx (List.drop y ds);y<=List.length ds/\y<x_2/\A3-K-K=(↑y:Int)-K/\List.reverse A8=List.reverse C0/\A0/\r/\L/\M/\N/\N/\O/\N/\N/\N/\List.length B0=List.length (List.reverse C0)/\A2 else(List.length i=List.length i/\(List.length i+List.length B0)*(40:Nat)<=Y)/\(E/\F/\∀(d:Depd),d∈i++List.reverse A8->List.length d.items<=(4000:Nat)/\∀(x:AL.Item),x∈d.items->allS nmU x.shape=true)/\if decide (B6.f.err=(282:Int))=true then I else if(!kj G.l B6.l)=true then I else if(!decide (B6.f.err=D))=true then I else(∃(x_3:Nat),x_3<=List.length G.l/\D=(↑x_3:Int)/\B7)/\∀(x_3:Nat),let B8:=(↑x_3:Int);let B9:=D<=B8/\B8<H;let C0:=List.getD G.l (Int.toNat B8) j;let C1:=inR IntKind.i64 (B8+K)/\∃(y:Nat),y<=List.length G.l/\List.length G.l-y<List.length G.l-x_3/\B8+K=(↑y:Int)/\B7;let C2:=B9/\if(!decide (C0.kind=(2:Int)))=true then if clF ds=true then B9/\if(!bS C0.shape)=true then I else C1 else C1 else C1;x_3<=List.length G.l->if decide (B8<H)=true then if decide (D<B8)=true then inR IntKind.i64 (B8-K)/\(D<=B8-K/\B8-K<H)/\B9/\if(!Op.bytesLess (List.getD G.l (Int.toNat (B8-K)) j).name C0.name)=true then I else C2 else C2 else C:=by
 conv=>zeta
 have ln:=hd.len;have le:=hm.modu_exports.len;have li:=hm.modu_imports.len;simp only[NQ,P1,Oo,Oc];refine aa (fun _=>trivial) (fun h=>aa (fun _=>trivial) (fun h'=>?_));have hL:du m=true:=by simpa using h
 have hS:iG ds 0 0=true:=by simpa using h'
 clear h h';obtain⟨f1,f2,f3⟩:=iT hL;have few:=BK ds 0 0 (by omega) (by omega) hS
 have cnt:ds.length<=20:=by
  rcases BL ds 0 0 hS with e|e
  ·rw[e];exact NU _
  ·omega
 have few2:∀d∈ds,d.items.length<=4000/\∀x∈d.items,allS nmU x.shape=true:=fun d hd=>⟨few d hd,hi d hd⟩;refine⟨⟨⟨hs,by omega⟩,by omega,few2⟩,aa (fun h=>?_) (fun h=>?_)⟩
 ·have h:¬(fN bL m ds).f.err=0:=by simpa using h
  rw[Jq h];exact aa (fun _=>trivial) (fun k=>absurd rfl k)
 have h:(fN bL m ds).f.err=0:=by simpa using h
 obtain⟨o1,o2,o3⟩:=Jr h;have l0:=Kl (base:=bL) (m:=m) (ds:=ds);refine⟨aN (by omega) (by omega),⟨0,NU _,by omega,rfl,rfl⟩,?_⟩;intro k hk;apply aa<;>intro c
 ·have c:=Xo c;have hk':k<m.exports.length:=by omega
  have ht:=BM m.exports k (dfl .str) hk';have ei:((m.exports.length:Int)-1-(k:Int)).toNat=m.exports.length-1-k:=by omega
  rw[ei];refine⟨by omega,?_,aN (by omega) (by omega),k+1,by omega,by omega,by omega,ht.symm,by rw[ht]⟩;rw[OX,PF,O4];omega
 have e:k=m.exports.length:=by have:¬(0:Int)<=(m.exports.length:Int)-1-k:=fun e=>c (Xd e);omega
 subst e;refine⟨aN (by omega) (by omega),⟨0,NU _,by omega,rfl,P9 (by simp),rfl⟩,?_⟩;intro q hq;apply aa<;>intro c
 ·have c:=Xo c;have hq':q<m.imports.length:=by omega
  have ht:=BM m.imports q (dfl (.st .imp)) hq';have ei:((m.imports.length:Int)-1-(q:Int)).toNat=m.imports.length-1-q:=by omega
  rw[ei];refine⟨by omega,?_,aN (by omega) (by omega),q+1,by omega,by omega,by omega,ht.symm,by rw[ht]⟩;rw[OX,PF,O4];omega
 have e:q=m.imports.length:=by have:¬(0:Int)<=(m.imports.length:Int)-1-q:=fun e=>c (Xd e);omega
 subst e;rw[show m.imports.reverse.take m.imports.length=m.imports.reverse from P9 (by simp)];refine⟨aN (by omega) (by omega),⟨ds.length,NK _,by omega,by rw[NN];rfl,by rw[NN];rfl⟩,?_⟩;intro j hj;apply aa<;>intro c
 ·have c:=Xo c;obtain⟨i,rfl⟩:∃i,j=i+1:=⟨j-1,by omega⟩;have ei:(((i+1:Nat):Int)-1).toNat=i:=by omega
  simp only[ei];have hdr:=ak ds i (dfl (.st .dep)) (by omega);have hll:=qm (ds.drop (i+1));have hls:=Ee (ds.getD i (dfl (.st .dep))) (ds.drop (i+1));rw[<-hdr]at hls;obtain⟨d,hdd⟩:∃d,ds.getD i (dfl (.st .dep))=d:=⟨_,rfl⟩;simp only[hdd]at hls⊢;refine⟨aN (by omega) (by omega),⟨(i+1,true),⟨by simp only;omega,by simp only;omega,by simp only[Og]⟩,rfl,by simp only;omega⟩,?_⟩;rintro⟨p,b⟩ ⟨p1,p2,p3⟩;simp only at p1 p2 p3⊢;apply aa<;>intro c
  ·have c:=Xo c;have hp:p<ds.length:=by omega
   rw[ak ds p (dfl (.st .dep)) hp,Kk]at p3;apply aa<;>intro b1
   ·rw[b1,Og]at p3;refine⟨by omega,by omega,aN (by omega) (by omega),(p+1,_),⟨by simp only;omega,by simp only;omega,?_⟩,by simp only;omega,rfl,by simp only;omega⟩;rw[<-p3];simp only[ne_eq,decide_not];cases decide ((ds.getD p (dfl (.st .dep))).name=d.name)<;>rfl
   ·have b2:b=false:=by simpa using b1
    rw[b2,NT]at p3;exact⟨aN (by omega) (by omega),(p+1,false),⟨by simp only;omega,by simp only;omega,by simp only[NT];exact p3⟩,by simp only;omega,rfl,by simp only;omega⟩
  ·have e:p=ds.length:=by have:¬((p:Int)<(ds.length:Int)):=fun e=>c (Xd e);omega
   rw[e,NN]at p3;have p3:b=noN d.name (ds.drop (i+1)):=by simpa[noN]using p3
   apply aa<;>intro b1
   ·rw[b1]at p3;rw[NC p3.symm]at hls;refine⟨by omega,?_,aN (by omega) (by omega),i,by omega,by omega,by omega,by rw[hls,List.reverse_cons],by rw[hls,List.reverse_cons]⟩;rw[PF,O4];simp only[Pq]at hll;omega
   ·have b2:¬noN d.name (ds.drop (i+1))=true:=fun q=>b1 (p3.trans q);rw[Ny b2]at hls;exact⟨aN (by omega) (by omega),i,by omega,by omega,by omega,by rw[hls],by rw[hls]⟩
 have e:j=0:=by have:¬(0:Int)<=(j:Int)-1:=fun e=>c (Xd e);omega
 subst e;have et:[AL.Depd.mk [110,111,98,111,100,121] []]++(fx (ds.drop 0)).reverse=kq ds:=rfl;have er:AL.Modu.mk m.name m.imports.reverse m.decls m.exports.reverse m.pos=vo m:=rfl;have hll:=qm ds;rw[et,er,o1];refine⟨?_,⟨⟨hs,by omega⟩,by omega,HG few2 ⟨NU _,fun x hx=>by cases hx⟩⟩,aa (fun c=>?_) (fun c=>aa (fun c=>?_) (fun c=>aa (fun c=>?_) (fun c=>?_)))⟩
 ·rw[PF,OG];simp only[NL,Ou];omega
 ·exact absurd (Xo c) (by show ¬(0:Int)=282;omega)
 ·rw[wo]at c;exact absurd c (by decide)
 ·exact absurd c (by show ¬(!decide ((0:Int)=0))=true;decide)
 clear c;refine⟨⟨0,NU _,rfl⟩,?_⟩;generalize (fN bL m ds).l=l at *
 intro k hk;have go:k<l.length->inR IntKind.i64 ((k:Int)+1)/\∃y,y<=l.length/\l.length-y<l.length-k/\(k:Int)+1=(y:Int):=fun h=>⟨aN (by omega) (by omega),k+1,by omega,by omega,by omega⟩;refine aa (fun c=>?_) (fun _=>trivial);have c:=Xo c;have hk':k<l.length:=by omega
 have rest:(0<=(k:Int)/\(k:Int)<(l.length:Int))/\if(!decide ((l.getD k (dfl (.st .item))).kind=2))=true then(if clF ds=true then(0<=(k:Int)/\(k:Int)<(l.length:Int))/\if(!bS (l.getD k (dfl (.st .item))).shape)=true then false=true else inR IntKind.i64 ((k:Int)+1)/\∃y,y<=l.length/\l.length-y<l.length-k/\(k:Int)+1=(y:Int)else inR IntKind.i64 ((k:Int)+1)/\∃y,y<=l.length/\l.length-y<l.length-k/\(k:Int)+1=(y:Int))else inR IntKind.i64 ((k:Int)+1)/\∃y,y<=l.length/\l.length-y<l.length-k/\(k:Int)+1=(y:Int):=by
  refine⟨by omega,aa (fun a=>aa (fun b=>⟨by omega,aa (fun e=>?_) (fun _=>go hk')⟩) (fun _=>go hk')) (fun _=>go hk')⟩;have a:¬(l.getD k (dfl (.st .item))).kind=2:=by simpa using a
  rw[o3 (LN.1 b) hB _ (getD_mem l k _ hk') a]at e;exact absurd e (by decide)
 refine aa (fun z=>⟨aN (by omega) (by omega),by have:=Xo z;omega,by omega,aa (fun e=>?_) (fun _=>rest)⟩) (fun _=>rest);have z:=Xo z;exfalso;have e1:((k:Int)-1).toNat=k-1:=by omega
 rw[e1]at e;have h1:k-1<l.length:=by omega
 have lt:=ON.1 o2 (k-1) k h1 hk' (by omega);have g1:l.getD (k-1) (dfl (.st .item))=l[k-1]:=by rw[NB,Nw h1];rfl
 have g2:l.getD k (dfl (.st .item))=l[k]:=by rw[NB,Nw hk'];rfl
 rw[g1,g2,Go.Proofs.bytesLess_eq,Xd lt]at e;exact absurd e (by decide)
end Go.AL.Seat
end
section
open Go Go.AL Go.Proofs Go.Shelf Go.Pd
namespace Go.AL.Seat
variable [Tabs]
variable [SeatLaid]
theorem Eh:Enters Tryz.prog 9:=ee Tryz.func9
theorem vG(bL:List Bndg)(m:Modu)(ds:List Depd)(r:ExC)(hm:Wf (.st .modu) m)(hd:Wf (.lst (.st .dep)) ds)(hb:bL.length<=100)(ho:((m.decls.all dy=true/\m.decls.length<=1000000)/\m.decls.length<=100000/\∀d∈ds,d.items.length<=4000/\∀x∈d.items,allS nmU x.shape=true))(hr:fN bL m ds=r)(hB:ah Tryz.prog 22 (p0 ⟨none,none,.lst (.st .bind) bL (some 61),[(61,.tail (.st .bind) bL.length)]⟩)):al Tryz.prog 9 [.st .modu m,.lst (.st .dep) ds none] [] (⟨some ((m.decls.all dy=true/\m.decls.length<=1000000)/\m.decls.length<=100000/\∀d∈ds,d.items.length<=4000/\∀x∈d.items,allS nmU x.shape=true),none,.tup [.lst (.st .item) r.l none,.agg [.int .i64 r.f.err,.int .i64 r.f.pos]],[]⟩):=
 g1 nn (fun _=>[]) nn (fun d=>Nat.beq d 107) nn (sc (Eb) (sc (hB) (sc (vF) (sc (vE) (sc (GC) sn))))) ⟨[(6,fun S0=>⟨Nat×(List Bndg×List Bndg),fun x=>x.1<=m.imports.length/\x.2.1.length<=x.1 *4000/\x.2.2.length<=100+x.1 *4000/\dG ds (m.imports.drop x.1) ⟨m.name,x.2.1,x.2.2,[]⟩=(dG ds m.imports (lv bL m.name)),fun x=>[(38,.int .i64 x.1)],fun x=>[(34,.box (.agg [.str m.name,.lst (.st .bind) x.2.1 (some 701),.lst (.st .bind) x.2.2 (some 62029),.nils,.map 32])),(701,.tail (.st .bind) x.2.1.length),(62029,.tail (.st .bind) x.2.2.length)],fun x=>m.imports.length-x.1⟩),(10,fun S0=>yR S0 38 fun i=>⟨Nat×Int,fun x=>x.1<=ds.length/\jO (m.imports.getD i.toNat (dfl (.st .imp))).name (ds.drop x.1) x.1 x.2=jO (m.imports.getD i.toNat (dfl (.st .imp))).name ds 0 (-1),fun x=>[(44,.int .i64 x.1),(10,.int .i64 x.2)],fun _=>[],fun x=>ds.length-x.1⟩),(20,fun S0=>⟨Nat×Cst,fun x=>x.1<=m.decls.length/\x.2.e.types.length<=100000+x.1/\x.2.e.values.length<=100000+x.1/\x.2.e.own.length<=x.1/\di (m.decls.drop x.1) x.2=(di m.decls ⟨(dG ds m.imports (lv bL m.name)).e,[]⟩),fun x=>[(71,.int .i64 x.1)],fun x=>[(34,.box (.agg [.str x.2.e.self,.lst (.st .bind) x.2.e.types none,.lst (.st .bind) x.2.e.values (some 62029),.lst (.st .bind) x.2.e.own (some 702),.map 32])),(62029,.tail (.st .bind) x.2.e.values.length),(702,.tail (.st .bind) x.2.e.own.length),(32,.map .str (.st .item) x.2.m)],fun x=>m.decls.length-x.1⟩),(28,fun S0=>⟨Nat×List AL.Item,fun x=>x.1<=m.exports.length/\x.2.length=x.1/\x.2.map (·.name)=m.exports.take x.1/\jq m.pos (di m.decls ⟨(dG ds m.imports (lv bL m.name)).e,[]⟩).c.m (m.exports.drop x.1) x.2=jq m.pos (di m.decls ⟨(dG ds m.imports (lv bL m.name)).e,[]⟩).c.m m.exports [],fun x=>[(86,.int .i64 x.1),(16,.glst x.2.length x.2.length 703)],fun x=>[(703,.grow (.st .item) x.2.length x.2)],fun x=>m.exports.length-x.1⟩)],[(400036,[703,16])],[]⟩ Tryz.func9 (Ef bL m ds r hm hd hb ho hr)
theorem BP(bL:List Bndg)(hb:bL.length<=100)(hB:ah Tryz.prog 22 (p0 ⟨none,none,.lst (.st .bind) bL (some 61),[(61,.tail (.st .bind) bL.length)]⟩)):ah Tryz.prog 9 (p2 (.st .modu) (.lst (.st .dep)) fun m ds=>⟨some ((m.decls.all dy=true/\m.decls.length<=1000000)/\m.decls.length<=100000/\∀d∈ds,d.items.length<=4000/\∀x∈d.items,allS nmU x.shape=true),none,.tup [.lst (.st .item) (fN bL m ds).l none,.agg [.int .i64 (fN bL m ds).f.err,.int .i64 (fN bL m ds).f.pos]],[]⟩):=
 cb Eh fun m ds hm hd ho=>vG bL m ds _ hm hd hb (ho _ rfl) rfl hB
theorem vH(m:Modu)(N:Nat)(hm:Wf (.st .modu) m)(hN:∀d∈m.decls,sz d.shape<=N/\szT d.term<=N) :al Tryz.prog 6 [.st .modu m] [] (.ret (.bool (du m))):=
 g0 (sc (AX N) (sc (Hm N) sn)) ⟨[(4,fun S0=>⟨Nat,fun k=>k<=m.imports.length/\((m.imports.drop k).all ql&&oz m.decls 0)=du m,fun k=>[(3,.int .i64 k)],fun _=>[],fun k=>m.imports.length-k⟩),(9,fun S0=>yR S0 3 fun k=>⟨Nat,fun j=>j<=(m.imports.getD k.toNat (dfl (.st .imp))).range.length/\(yJ ((m.imports.getD k.toNat (dfl (.st .imp))).range.drop j)&&((m.imports.drop (k.toNat+1)).all ql&&oz m.decls 0))=du m,fun j=>[(4,.int .i64 j)],fun _=>[],fun j=>(m.imports.getD k.toNat (dfl (.st .imp))).range.length-j⟩),(15,fun S0=>⟨Nat×Int,fun x=>x.1<=m.decls.length/\0<=x.2/\x.2<=1000/\oz (m.decls.drop x.1) x.2=du m,fun x=>[(5,.int .i64 x.2),(6,.int .i64 x.1)],fun _=>[],fun x=>m.decls.length-x.1⟩)],[],[]⟩ Tryz.func6 (Eg m N hm hN)
theorem BQ:ah Tryz.prog 6 (p1 (.st .modu) fun m=>.ret (.bool (du m))):=
 bB (ee Tryz.func6) fun m hm _=>vH m (Kh m.decls) hm (Ff m.decls)
theorem yK:ah Tryz.prog 11 (p1 (.lst (.st .dep)) fun l=>.ret (.bool (clF l))):=
 bB (ee Tryz.func11) fun l hl _=>g0 (sc uC sn) ⟨[(2,fun S0=>⟨Nat,fun k=>k<=l.length/\clF (l.drop k)=clF l,fun k=>[(3,.int .i64 k)],fun _=>[],fun k=>l.length-k⟩),(5,fun S0=>yR S0 3 fun i=>⟨Nat,fun j=>j<=(l.getD i.toNat (dfl (.st .dep))).items.length/\(clI ((l.getD i.toNat (dfl (.st .dep))).items.drop j)&&clF (l.drop (i.toNat+1)))=clF l,fun j=>[(4,.int .i64 j)],fun _=>[],fun j=>(l.getD i.toNat (dfl (.st .dep))).items.length-j⟩)],[],[]⟩ Tryz.func11 (BO l hl)
theorem oA(bL:List Bndg)(m:Modu)(ds:List Depd)(hm:Wf (.st .modu) m)(hd:Wf (.lst (.st .dep)) ds)(hs:m.decls.all dy=true)(hi:∀d∈ds,∀x∈d.items,allS nmU x.shape=true)(hB:clB bL)(hM:ah Tryz.prog 9 (p2 (.st .modu) (.lst (.st .dep)) fun m ds=>⟨some ((m.decls.all dy=true/\m.decls.length<=1000000)/\m.decls.length<=100000/\∀d∈ds,d.items.length<=4000/\∀x∈d.items,allS nmU x.shape=true),none,.tup [.lst (.st .item) (fN bL m ds).l none,.agg [.int .i64 (fN bL m ds).f.err,.int .i64 (fN bL m ds).f.pos]],[]⟩))(hW:ah Tryz.prog 8 (p0 (.ret (.bool true)))):al Tryz.prog 3 [.st .modu m,.lst (.st .dep) ds none] [] (.ret (.bool true)):=
 g0 (sc BQ (sc BD (sc (hW) (sc (hM) (sc Hz (sc yK (sc uC sn))))))) ⟨[(9,fun S0=>⟨Nat,fun k=>k<=m.exports.length,fun k=>[(8,.int .i64 ((m.exports.length:Int)-1-k))],fun k=>[(7,.box (.agg [.str m.name,.nils,.lst (.st .decl) m.decls none,.lst .str (m.exports.reverse.take k) (some 701),.int .i64 m.pos])),(701,.tail .str (m.exports.reverse.take k).length)],fun k=>m.exports.length-k⟩),(13,fun S0=>⟨Nat,fun k=>k<=m.imports.length,fun k=>[(9,.int .i64 ((m.imports.length:Int)-1-k))],fun k=>[(7,.box (.agg [.str m.name,.lst (.st .imp) (m.imports.reverse.take k) (some 702),.lst (.st .decl) m.decls none,.lst .str m.exports.reverse none,.int .i64 m.pos])),(702,.tail (.st .imp) (m.imports.reverse.take k).length)],fun k=>m.imports.length-k⟩),(18,fun S0=>⟨Nat,fun j=>j<=ds.length,fun j=>[(11,.int .i64 ((j:Int)-1)),(10,.lst (.st .dep) (fx (ds.drop j)).reverse (some 703))],fun j=>[(703,.tail (.st .dep) (fx (ds.drop j)).reverse.length)],fun j=>j⟩),(22,fun S0=>yR S0 11 fun i=>⟨Nat×Bool,fun x=>x.1<=ds.length/\i.toNat+1<=x.1/\(x.2&&noN (ds.getD i.toNat (dfl (.st .dep))).name (ds.drop x.1))=noN (ds.getD i.toNat (dfl (.st .dep))).name (ds.drop (i.toNat+1)),fun x=>[(12,.bool x.2),(13,.int .i64 x.1)],fun _=>[],fun x=>ds.length-x.1⟩),(31,fun S0=>⟨Nat,fun k=>k<=(fN bL m ds).l.length,fun k=>[(16,.int .i64 k)],fun _=>[],fun k=>(fN bL m ds).l.length-k⟩)],[],[]⟩ Tryz.func3 (rD bL m ds hm hd hs hi hB)
end Go.AL.Seat
end
noncomputable section
namespace Go.AL.Seat
open Go Go.AL Go.Proofs Go.Pd
set_option maxRecDepth 1000000
def ku:List Bndg:=[⟨[],[97,100,100],⟨8,[],[],[],[⟨1,[],[],[],[]⟩,⟨1,[],[],[],[]⟩,⟨1,[],[],[],[]⟩]⟩⟩,⟨[],[115,117,98],⟨8,[],[],[],[⟨1,[],[],[],[]⟩,⟨1,[],[],[],[]⟩,⟨1,[],[],[],[]⟩]⟩⟩,⟨[],[109,117,108],⟨8,[],[],[],[⟨1,[],[],[],[]⟩,⟨1,[],[],[],[]⟩,⟨1,[],[],[],[]⟩]⟩⟩,⟨[],[108,101,115,115],⟨8,[],[],[],[⟨1,[],[],[],[]⟩,⟨1,[],[],[],[]⟩,⟨2,[],[],[],[]⟩]⟩⟩,⟨[],[115,97,109,101],⟨8,[],[],[],[⟨1,[],[],[],[]⟩,⟨1,[],[],[],[]⟩,⟨2,[],[],[],[]⟩]⟩⟩,⟨[],[110,111,116],⟨8,[],[],[],[⟨2,[],[],[],[]⟩,⟨2,[],[],[],[]⟩]⟩⟩,⟨[],[98,111,116,104],⟨8,[],[],[],[⟨2,[],[],[],[]⟩,⟨2,[],[],[],[]⟩,⟨2,[],[],[],[]⟩]⟩⟩,⟨[],[99,97,116],⟨8,[],[],[],[⟨3,[],[],[],[]⟩,⟨3,[],[],[],[]⟩,⟨3,[],[],[],[]⟩]⟩⟩,⟨[],[115,105,122,101],⟨8,[],[],[],[⟨3,[],[],[],[]⟩,⟨1,[],[],[],[]⟩]⟩⟩,⟨[],[115,104,111,119],⟨8,[],[],[],[⟨1,[],[],[],[]⟩,⟨3,[],[],[],[]⟩]⟩⟩]
variable [Tabs] [SeatLaid]
theorem LO:al Tryz.prog 22 [] [] ⟨none,none,.lst (.st .bind) ku (some 61),[(61,.tail (.st .bind) ku.length)]⟩:=
 iZ (n:=100) mixed BF pq rn (by kernel_rfl:vk rl uP Kd Kc 50 (fY ri) 100 22 [] []=some ⟨none,none,.lst (.st .bind) ku (some 61),[(61,.tail (.st .bind) ku.length)]⟩)
theorem Km:ah Tryz.prog 22 (p0 ⟨none,none,.lst (.st .bind) ku (some 61),[(61,.tail (.st .bind) ku.length)]⟩):=IT (ee Tryz.func22) LO
theorem HH:clB ku:=fun b hb=>by
 have h:(ku.all fun b=>allS eH b.shape)=true:=by kernel_rfl
 exact NJ.1 h b hb
def obM(m:Modu)(ds:List Depd):Prop:=(m.decls.all dy=true/\m.decls.length<=1000000)/\m.decls.length<=100000/\∀d∈ds,d.items.length<=4000/\∀x∈d.items,allS nmU x.shape=true
def MW(m:Modu)(ds:List Depd):Ans:=⟨some (obM m ds),none,.tup [.lst (.st .item) (fN ku m ds).l none,.agg [.int .i64 (fN ku m ds).f.err,.int .i64 (fN ku m ds).f.pos]],[]⟩
theorem Fg:ah Tryz.prog 9 (p2 (.st .modu) (.lst (.st .dep)) fun m ds=>MW m ds):=BP ku (by decide) Km
def tM(args:List AV)(_:List (Nat×SObj)):Bool:=
 match args with
 |[a,b]=>(match arg (.st .modu) a,arg (.lst (.st .dep)) b with
  |some m,some ds=>m.decls.all dy&&decide (m.decls.length<=100000)&&ds.all fun d=>decide (d.items.length<=4000)&&d.items.all fun x=>allS nmU x.shape
  |_,_=>false)
 |_=>false
theorem Nt{m:Modu}{ds:List Depd}(h:(m.decls.all dy&&decide (m.decls.length<=100000)&&ds.all fun d=>decide (d.items.length<=4000)&&d.items.all fun x=>allS nmU x.shape)=true):obM m ds:=by simp only[Nx,NA,NJ]at h;obtain⟨⟨h1,h2⟩,h3⟩:=h;exact⟨⟨NJ.2 h1,by omega⟩,h2,fun d hd=>⟨(h3 d hd).1,(h3 d hd).2⟩⟩
theorem Kn:ah Tryz.prog 9 (tested tM (p2 (.st .modu) (.lst (.st .dep)) fun m ds=>MW m ds)):=by
 refine Fg.tested fun args S A q hb hg ho=>?_;unfold p2 at hg;split at hg
 ·rename_i a b;simp only[tM]at hb;split at hb
  ·rename_i m ds h1 h2;rw[h1,h2]at hg;cases hg;cases ho;exact Nt hb
  ·cases hb
 ·cases hg
def M1:List (Nat×Pat):=(32,wx [.str HB] MP)::(32,wx [.str HC] MQ)::(9,tested tM (p2 (.st .modu) (.lst (.st .dep)) fun m ds=>MW m ds))::[]
theorem Ko:bM Tryz.prog (fY M1):=sc (rU (ee Tryz.func32) Np) (sc (rU (ee Tryz.func32) Nq) (sc Kn sn))
theorem BR:ah Tryz.prog 8 (p0 (.ret (.bool true))):=
 IT (ee Tryz.func8) (iZ (n:=100) mixed BF Ko rn (by kernel_rfl:vk rl uP Kd Kc 50 (fY M1) 100 8 [] []=some ⟨none,none,.bool true,[]⟩))
end Go.AL.Seat
end
section
namespace Go.Proofs.YtlhofbjllomgiaaGreatDoor.JCheckOrder
open Go.AL Go.AL.Seat Go.Pd Go.ChangeShapes Go.WideShapes Go.RowKit Go.Proofs.YtlhofbjllomgiaaGreatDoor.Join
set_option maxRecDepth 1000000
theorem par:Tryz.f3.params=#[26,27]:=by kernel_rfl
theorem res:Tryz.f3.resultTypes=#[4]:=by kernel_rfl
theorem spec{H:Type}(ds:List (DataW H))(hd:ds.length=2):Rows.checkOrderSpec.fn H ds={results:=[.lit (.bool true)],args:=ds}:=by
 match ds,hd with
 |[d0,d1],_=>rfl
theorem Kp(H:Type)(enc:TypeId×Value->H)(W:World)(base:Nat)(args:Array Value)(ds gs:List (DataW H))(before:List MemPlace)
 (hval:∀(j:Nat) t v,Tryz.f3.params[j]?=some t->args[j]?=some v->Value.okWide Tryz.prog W .any base t v)
 (hW:DataW.Whole enc Tryz.prog Tryz.f3.params.toList Rows.checkOrderSpec.vars false W args.toList ds gs before)(hku:Rows.uptoSmall H (ds++gs)=true)(hL:laidMet Tryz.prog laid W)(hsh:W.ShapedOpen Tryz.prog) :
  Calls Tryz.prog 3 args W fun e W'=>∃v,e=.returned v/\Rows.checkOrderSpec.post enc Tryz.prog Tryz.f3 false true false false W args v W':=by
 letI:Tabs:=tE W
 haveI:SeatLaid:=IE hL hsh
 have hW':=hW;obtain⟨p,q,hA,hV,_,_,_⟩:=hW;rw[par]at hA hval;obtain⟨v0,vs0,d0,ds0,p0,q0,hargs0,rfl,rfl,h0,r0⟩:=trodAll_cons hA;obtain⟨v1,vs1,d1,ds1,p1,q1,hargs1,rfl,rfl,h1,r1⟩:=trodAll_cons r0;obtain⟨rfl,rfl,rfl⟩:=trodAll_nil r1;subst hargs1;obtain rfl:args=#[v0,v1]:=by have:=Pj List.toArray hargs0;simpa using this
 obtain⟨x0,hx0,hq0⟩:=G6 (wq Tryz.prog) Mt (hval 0 26 v0 rfl rfl) h0 (Ao hku (by simp));obtain⟨x1,hx1,hq1⟩:=Mn (wq Tryz.prog) Nf Nd (hval 1 27 v1 rfl rfl) h1 (Ao hku (by simp));refine(FQ (oA ku x0 x1 ⟨_,_,hx0⟩ ⟨_,_,hx1⟩ (NJ.2 fun d hd=>Al (hq0 d hd)) (fun d hd=>(hq1 d hd).2) HH Fg BR) (fun b o v h=>h.2) (fun b x h=>h.2) (VL.cons hx0 (VL.cons hx1 .nil))).mono fun e W' ⟨he,hb⟩=>?_;subst he;refine⟨_,rfl,Ip (tb:=4) KS (fun t ht=>?_) rfl (fun ds hd=>spec ds ?_) res undB hW' hb⟩
 ·rw[par]at ht;have ht:t∈[26,27]:=ht;simp only[NG,P0,QK]at ht;rcases ht with rfl|rfl
  ·exact⟨Ng,Qz (by decide) fg⟩
  ·exact⟨Mr,Qz (by decide) fg⟩
 ·rw[par]at hd;exact hd
theorem reads(os:Os){H:Type}(enc:TypeId×Value->H):(DataW.whole enc Tryz.prog ((mO os).forCall (fun _ _=>0) ⟨#[],#[.agg #[.string ⟨#[]⟩,.slice none 0 0,.slice none 0 0,.slice none 0 0,.int .i64 0],.slice none 0 0],[]⟩).memory Tryz.f3.params.toList Rows.checkOrderSpec.vars false [Value.agg #[.string ⟨#[]⟩,.slice none 0 0,.slice none 0 0,.slice none 0 0,.int .i64 0],Value.slice none 0 0] 8).map (fun x=>(x.1,x.2.1))=some ([.agg [.lit (.string []),.nil,.nil,.nil,.lit (.int .i64 0)],.nil],[]):=by kernel_rfl
theorem MX(os:Os)(started:os.Started)(H:Type)(enc:TypeId×Value->H)(F:Stop.Interp) :
  ReturnsInHanded {} Tryz.checked os 3 .any ((Rows.OpenSpec.upto Rows.checkOrderSpec).preRow enc Tryz.prog Tryz.f3 Rows.checkOrderUptoRow.domain false Rows.checkOrderUptoRow.laid) (((Rows.OpenSpec.upto Rows.checkOrderSpec).at F).post enc Tryz.prog Tryz.f3 false true false false):=by
 obtain⟨⟨y1,y2,y3⟩,hx,hy⟩:=NY.1 (reads os enc);simp only[PX]at hy;obtain⟨rfl,rfl⟩:=hy
 refine returnsInHanded_of_row (C:=Tryz.checked) (s:=Rows.OpenSpec.upto Rows.checkOrderSpec) own started (by kernel_rfl) Tryz.func3
  (witness_row_atRef (enc:=enc) (C:=Tryz.checked) false (mO os) #[.agg #[.string ⟨#[]⟩,.slice none 0 0,.slice none 0 0,.slice none 0 0,.int .i64 0],.slice none 0 0] rfl (by kernel_rfl) (by kernel_rfl) (by kernel_rfl)
   (OpenSpec.preRow_of_cond 8 hx (by kernel_rfl) (fun k hk=>by cases hk;kernel_rfl) (by kernel_rfl) (IF os _))) ?_
 intro W base args ds gs before hval hW _ hku _ hL hsh _;exact Kp H enc W base args ds gs before hval hW (hku _ rfl) hL hsh
theorem c1:(Rows.checkOrderUptoRow.inPlace ==Tryz.prog.inPlace 3)=true:=by kernel_rfl
theorem c2:(Rows.checkOrderUptoRow.unfollowed ==Tryz.prog.unfollowed 3)=true:=by kernel_rfl
theorem c3:(Rows.checkOrderUptoRow.recurses ==Tryz.prog.recurses 3)=true:=by kernel_rfl
theorem c4:(Rows.checkOrderUptoRow.named ==Tryz.prog.varsNamed 3)=true:=by kernel_rfl
theorem MY:joinedFacts Tryz.prog 3 Tryz.f3 (Rows.OpenSpec.upto Rows.checkOrderSpec).bare Rows.checkOrderUptoRow=true:=by unfold joinedFacts;rw[c1,c2,c3,c4];kernel_rfl
theorem said:Rows.CheckOrderUptoSaid:=
 OpenClaim.holds_of_cond 3 Tryz.f3 rfl rfl rfl rfl rfl rfl rfl ⟨rfl,rfl,rfl,rfl,rfl⟩ rfl rfl rfl rfl rfl (by kernel_rfl) Tryz.func3 MY
  (Xo (by kernel_rfl)) (by unfold Func.isWrapper;first|(rw[NC (by decide+kernel)];kernel_rfl)|(rw[Ny (by decide+kernel)];exact⟨rfl,rfl⟩))
  (fun os started H enc _ F=>by rw[OpenClaim.pre_eq_preRow];exact MX os started H enc F)
theorem fy(f:FuncId)(fn:Func)(hf:Tryz.pinned.checked.prog.funcNamed "pandect/pandectlaw15.CheckOrder"=some f)(hfn:Tryz.pinned.checked.prog.funcs[f]?=some fn) :
  true=Tryz.pinned.checked.prog.looks []/\∀(j:Nat) t,fn.params[j]?=some t->Tryz.pinned.checked.prog.wantsStandIn t=false:=by
 obtain rfl:f=3:=O1 ((show Tryz.prog.funcNamed "pandect/pandectlaw15.CheckOrder"=some 3 by kernel_rfl).symm.trans hf) |>.symm;obtain rfl:fn=Tryz.f3:=(O1 (Tryz.func3.symm.trans hfn)).symm;refine ⟨by kernel_rfl,fun j t ht=>?_⟩;rw [par] at ht;have ht:=Array.mem_of_getElem? ht;simp only [List.mem_toArray,NG,P0,QK] at ht;rcases ht with rfl | rfl
 ·exact(show Tryz.prog.wantsStandIn 26=false by kernel_rfl)
 ·exact(show Tryz.prog.wantsStandIn 27=false by kernel_rfl)
theorem card:Rows.CheckOrderUptoCardSaid:=
 Claim7.holds_tied_plain_at .later [] _ _ _ _ said (fun _ h=>by cases h) (by kernel_rfl) (fun _ h=>by cases h) checkOrderUpto_row_tie rfl ⟨rfl,rfl⟩ (by kernel_rfl) rfl fy (by kernel_rfl)
end Go.Proofs.YtlhofbjllomgiaaGreatDoor.JCheckOrder
end
