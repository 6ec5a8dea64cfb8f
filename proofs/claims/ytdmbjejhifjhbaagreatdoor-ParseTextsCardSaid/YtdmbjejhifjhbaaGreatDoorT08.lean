/- What the functions' conditions say, proved. The contracts of the functions. Plain facts. No condition. -/
import Derived.Test.YtdmbjejhifjhbaaGreatDoorT07
set_option linter.all false
set_option maxRecDepth 100000
section
open Go Go.AL Go.Pd
namespace Go.AL.Seat
theorem IJ(n:Nat)(a b:Trm)(p:Bool)(ha:Wf (.st .term) a)(hb:Wf (.st .term) b)(hn:szT a<=n+1) :
  let A:=True/\false=eqT a b p/\True;let B:=(↑(List.length a.shapes):Int);let C:=(↑(List.length b.shapes):Int);let D:=(↑(List.length a.parts):Int);let E:=(↑(List.length b.parts):Int);let F:=List.length a.shapes=List.length b.shapes;let G:=List.length a.parts=List.length b.parts;let H:=(0:Int);let I:=false=false;let J:=I/\I/\a=a/\b=b/\True;let K:=a=a/\b=b/\p=p/\J;let L:=dfl (Ty.st SN.shape);let M:=(1:Int);let N:=a=a/\b=b/\p=p/\I/\J;let O:=dfl (Ty.st SN.term);let P:=if(!decide (a.names=b.names))=true then A else if(!decide (a.vars=b.vars))=true then A else if(!decide (B=C))=true then A else if(!decide (D=E))=true then A else(∃(x:Nat),(x<=List.length a.shapes/\F/\G/\eqT a b p=(eqL (List.drop x a.shapes) (List.drop x b.shapes)&&eqTL a.parts b.parts p))/\H=(↑x:Int)/\K)/\∀(x:Nat),let Q:=(↑x:Int);let R:=List.getD a.shapes (Int.toNat Q) L;x<=List.length a.shapes/\F/\G/\eqT a b p=(eqL (List.drop x a.shapes) (List.drop x b.shapes)&&eqTL a.parts b.parts p)->if decide (Q<B)=true then(H<=Q/\Q<B)/\(H<=Q/\Q<C)/\sz R<=szL a.shapes/\if(!eqS R (List.getD b.shapes (Int.toNat Q) L))=true then A else inR IntKind.i64 (Q+M)/\∃(y:Nat),(y<=List.length a.shapes/\F/\G/\eqT a b p=(eqL (List.drop y a.shapes) (List.drop y b.shapes)&&eqTL a.parts b.parts p))/\List.length a.shapes-y<List.length a.shapes-x/\Q+M=(↑y:Int)/\K else(∃(x_1:Nat),(x_1<=List.length a.parts/\G/\eqT a b p=eqTL (List.drop x_1 a.parts) (List.drop x_1 b.parts) p)/\H=(↑x_1:Int)/\Q=Q/\N)/\∀(x_1:Nat),let S:=(↑x_1:Int);let T:=List.getD a.parts (Int.toNat S) O;x_1<=List.length a.parts/\G/\eqT a b p=eqTL (List.drop x_1 a.parts) (List.drop x_1 b.parts) p->if decide (S<D)=true then(H<=S/\S<D)/\(H<=S/\S<E)/\szT T<=n/\if(!eqT T (List.getD b.parts (Int.toNat S) O) p)=true then A else inR IntKind.i64 (S+M)/\∃(y:Nat),(y<=List.length a.parts/\G/\eqT a b p=eqTL (List.drop y a.parts) (List.drop y b.parts) p)/\List.length a.parts-y<List.length a.parts-x_1/\S+M=(↑y:Int)/\Q=Q/\N else True/\true=eqT a b p/\True;if(!decide (a.kind=b.kind))=true then A else if(!decide (a.pkg=b.pkg))=true then A else if(!decide (a.name=b.name))=true then A else if(!decide (a.n=b.n))=true then A else if p=true then if(!decide (a.pos=b.pos))=true then A else P else P:=by
 conv=>zeta
 have lnS:=ha.term_shapes.len;have lnP:=ha.term_parts.len;have hz:=nr a;simp only[OW,Qc,PD,Pu];refine a6 (fun h=>?_) (fun h1=>?_)
 ·have h:¬a.kind=b.kind:=by simpa using h
  rw[gI,Xf h];simp
 have h1:a.kind=b.kind:=by simpa using h1
 refine a6 (fun h=>?_) (fun h2=>?_)
 ·have h:¬a.pkg=b.pkg:=by simpa using h
  rw[gI,Xf h];simp
 have h2:a.pkg=b.pkg:=by simpa using h2
 refine a6 (fun h=>?_) (fun h3=>?_)
 ·have h:¬a.name=b.name:=by simpa using h
  rw[gI,Xf h];simp
 have h3:a.name=b.name:=by simpa using h3
 refine a6 (fun h=>?_) (fun h4=>?_)
 ·have h:¬a.n=b.n:=by simpa using h
  rw[gI,Xf h];simp
 have h4:a.n=b.n:=by simpa using h4
 apply a6<;>intro hp
 ·refine a6 (fun h=>?_) (fun h5=>?_)
  ·have h:¬a.pos=b.pos:=by simpa using h
   rw[gI,Xf h,hp];simp
  have h5:a.pos=b.pos:=by simpa using h5
  have h5:(!p||decide (a.pos=b.pos))=true:=by rw[Xd h5,Q3]
  refine a6 (fun h=>?_) (fun h6=>?_)
  ·have h:¬a.names=b.names:=by simpa using h
   rw[gI,Xf h];simp
  have h6:a.names=b.names:=by simpa using h6
  refine a6 (fun h=>?_) (fun h7=>?_)
  ·have h:¬a.vars=b.vars:=by simpa using h
   rw[gI,Xf h];simp
  have h7:a.vars=b.vars:=by simpa using h7
  refine a6 (fun h=>?_) (fun h8=>?_)
  ·have h:¬(a.shapes.length:Int)=b.shapes.length:=by simpa using h
   rw[gI,sw (by omega)];simp
  have h8:(a.shapes.length:Int)=b.shapes.length:=by simpa using h8
  refine a6 (fun h=>?_) (fun h9=>?_)
  ·have h:¬(a.parts.length:Int)=b.parts.length:=by simpa using h
   rw[gI,ve (by omega)];simp
  have h9:(a.parts.length:Int)=b.parts.length:=by simpa using h9
  have hS:a.shapes.length=b.shapes.length:=by omega
  have hP:a.parts.length=b.parts.length:=by omega
  have e0:eqT a b p=(eqL a.shapes b.shapes&&eqTL a.parts b.parts p):=by rw[gI,Xd h1,Xd h2,Xd h3,Xd h4,h5,Xd h6,Xd h7];simp
  refine⟨⟨0,⟨OY _,hS,hP,e0⟩,rfl⟩,?_⟩;rintro k ⟨q1,_,_,q4⟩;apply a6<;>intro h
  ·replace h:=Xo h;have hk:k<a.shapes.length:=by omega
   have hk':k<b.shapes.length:=by omega
   have hm:=jY (cp a.shapes k (dfl (.st .shape)) hk);rw[aK a.shapes k (dfl (.st .shape)) hk,aK b.shapes k (dfl (.st .shape)) hk',eqL]at q4;refine⟨by omega,by omega,hm,a6 (fun e=>?_) (fun e=>?_)⟩
   ·have e:eqS (a.shapes.getD k (dfl (.st .shape))) (b.shapes.getD k (dfl (.st .shape)))=false:=by simpa using e
    rw[q4,e];rfl
   ·have e:eqS (a.shapes.getD k (dfl (.st .shape))) (b.shapes.getD k (dfl (.st .shape)))=true:=by simpa using e
    rw[e,Pg]at q4;exact⟨bf hk lnS,k+1,⟨by omega,hS,hP,q4⟩,by omega,by omega⟩
  have ek:k=a.shapes.length:=by have:¬((k:Int)<(a.shapes.length:Int)):=fun e=>h (Xd e);omega
  have e1:eqT a b p=eqTL a.parts b.parts p:=by rw[q4,ek,P3,hS,P3];rfl
  refine⟨⟨0,⟨OY _,hP,e1⟩,rfl⟩,?_⟩;rintro j ⟨r1,_,r4⟩;apply a6<;>intro h
  ·replace h:=Xo h;have hk:j<a.parts.length:=by omega
   have hk':j<b.parts.length:=by omega
   have hm:=jx (cp a.parts j (dfl (.st .term)) hk);rw[aK a.parts j (dfl (.st .term)) hk,aK b.parts j (dfl (.st .term)) hk',eqTL]at r4;refine⟨by omega,by omega,by omega,a6 (fun e=>?_) (fun e=>?_)⟩
   ·have e:eqT (a.parts.getD j (dfl (.st .term))) (b.parts.getD j (dfl (.st .term))) p=false:=by simpa using e
    rw[r4,e];rfl
   ·have e:eqT (a.parts.getD j (dfl (.st .term))) (b.parts.getD j (dfl (.st .term))) p=true:=by simpa using e
    rw[e,Pg]at r4;exact⟨bf hk lnP,j+1,⟨by omega,hP,r4⟩,by omega,by omega⟩
  ·have ej:j=a.parts.length:=by have:¬((j:Int)<(a.parts.length:Int)):=fun e=>h (Xd e);omega
   rw[r4,ej,P3,hP,P3];rfl
 ·have hp:p=false:=by simpa using hp
  have h5:(!p||decide (a.pos=b.pos))=true:=by rw[hp];rfl
  refine a6 (fun h=>?_) (fun h6=>?_)
  ·have h:¬a.names=b.names:=by simpa using h
   rw[gI,Xf h];simp
  have h6:a.names=b.names:=by simpa using h6
  refine a6 (fun h=>?_) (fun h7=>?_)
  ·have h:¬a.vars=b.vars:=by simpa using h
   rw[gI,Xf h];simp
  have h7:a.vars=b.vars:=by simpa using h7
  refine a6 (fun h=>?_) (fun h8=>?_)
  ·have h:¬(a.shapes.length:Int)=b.shapes.length:=by simpa using h
   rw[gI,sw (by omega)];simp
  have h8:(a.shapes.length:Int)=b.shapes.length:=by simpa using h8
  refine a6 (fun h=>?_) (fun h9=>?_)
  ·have h:¬(a.parts.length:Int)=b.parts.length:=by simpa using h
   rw[gI,ve (by omega)];simp
  have h9:(a.parts.length:Int)=b.parts.length:=by simpa using h9
  have hS:a.shapes.length=b.shapes.length:=by omega
  have hP:a.parts.length=b.parts.length:=by omega
  have e0:eqT a b p=(eqL a.shapes b.shapes&&eqTL a.parts b.parts p):=by rw[gI,Xd h1,Xd h2,Xd h3,Xd h4,h5,Xd h6,Xd h7];simp
  refine⟨⟨0,⟨OY _,hS,hP,e0⟩,rfl⟩,?_⟩;rintro k ⟨q1,_,_,q4⟩;apply a6<;>intro h
  ·replace h:=Xo h;have hk:k<a.shapes.length:=by omega
   have hk':k<b.shapes.length:=by omega
   have hm:=jY (cp a.shapes k (dfl (.st .shape)) hk);rw[aK a.shapes k (dfl (.st .shape)) hk,aK b.shapes k (dfl (.st .shape)) hk',eqL]at q4;refine⟨by omega,by omega,hm,a6 (fun e=>?_) (fun e=>?_)⟩
   ·have e:eqS (a.shapes.getD k (dfl (.st .shape))) (b.shapes.getD k (dfl (.st .shape)))=false:=by simpa using e
    rw[q4,e];rfl
   ·have e:eqS (a.shapes.getD k (dfl (.st .shape))) (b.shapes.getD k (dfl (.st .shape)))=true:=by simpa using e
    rw[e,Pg]at q4;exact⟨bf hk lnS,k+1,⟨by omega,hS,hP,q4⟩,by omega,by omega⟩
  have ek:k=a.shapes.length:=by have:¬((k:Int)<(a.shapes.length:Int)):=fun e=>h (Xd e);omega
  have e1:eqT a b p=eqTL a.parts b.parts p:=by rw[q4,ek,P3,hS,P3];rfl
  refine⟨⟨0,⟨OY _,hP,e1⟩,rfl⟩,?_⟩;rintro j ⟨r1,_,r4⟩;apply a6<;>intro h
  ·replace h:=Xo h;have hk:j<a.parts.length:=by omega
   have hk':j<b.parts.length:=by omega
   have hm:=jx (cp a.parts j (dfl (.st .term)) hk);rw[aK a.parts j (dfl (.st .term)) hk,aK b.parts j (dfl (.st .term)) hk',eqTL]at r4;refine⟨by omega,by omega,by omega,a6 (fun e=>?_) (fun e=>?_)⟩
   ·have e:eqT (a.parts.getD j (dfl (.st .term))) (b.parts.getD j (dfl (.st .term))) p=false:=by simpa using e
    rw[r4,e];rfl
   ·have e:eqT (a.parts.getD j (dfl (.st .term))) (b.parts.getD j (dfl (.st .term))) p=true:=by simpa using e
    rw[e,Pg]at r4;exact⟨bf hk lnP,j+1,⟨by omega,hP,r4⟩,by omega,by omega⟩
  ·have ej:j=a.parts.length:=by have:¬((j:Int)<(a.parts.length:Int)):=fun e=>h (Xd e);omega
   rw[r4,ej,P3,hP,P3];rfl
end Go.AL.Seat
end
section
open Go Go.AL Go.Proofs Go.Shelf Go.Pd
namespace Go.AL.Seat
open Go.Proofs.Tryz
variable [Tabs]
variable [SeatLaid]
theorem F3:ab prog 176 (p2 (.lst .str) .bool fun ns b=>.ret (.bool (gj ns b))):=
 dy (ee func176) fun ns b hl _ _=>g0 (sc lN sn) ⟨[(2,fun S0=>⟨Nat,fun k=>k<=ns.length/\(ns.take k).all aX=true/\(b=true->(ns.take k).Nodup),fun k=>[(5,.int .i64 k)],fun _=>[],fun k=>ns.length-k⟩),(7,fun S0=>Nq S0 5 fun k0=>⟨Nat,fun j=>(j:Int)<=k0/\(b=true->(ns.getD k0.toNat (dfl .str))∉ns.take j)/\(b=false->j=0),fun j=>[(6,.int .i64 j)],fun _=>[],fun j=>k0.toNat-j⟩)],[],[]⟩ func176 (IF ns b hl)
theorem vi:aA prog 215:=ee func215
theorem vZ(n:Nat)(s:AL.Shape)(hs:Wf (.st .shape) s)(hn:sz s<=n+1)(hA:ab prog 215 (p1 (.st .shape) fun s=>⟨some (sz s<=n),none,.bool (!allS bp s),[]⟩)):aB prog 215 [.st .shape s] [] (.ret (.bool (!allS bp s))):=
 g0 (sc (hA) sn) ⟨[(2,fun S0=>⟨Nat,fun k=>k<=s.parts.length/\allS bp s=(bp s&&allL bp (s.parts.drop k)),fun k=>[(3,.int .i64 k)],fun _=>[],fun k=>s.parts.length-k⟩)],[],[]⟩ func215 (F0 n s hs hn)
theorem Ca:∀n:Nat,ab prog 215 (p1 (.st .shape) fun s=>⟨some (sz s<=n),none,.bool (!allS bp s),[]⟩):=by
 intro n
 induction n with
 |zero=>exact ba vi fun a _ ho=>absurd (ho _ rfl) (by have:=jZ a;omega)
 |succ n ih=>exact ba vi fun a hs ho=>vZ n a hs (ho _ rfl) ih
theorem Cb:ab prog 177 (p1 (.lst (.st .shape)) fun l=>.ret (.bool (l.all cn))):=
 ba (ee func177) fun l hl _=>g0 (sc uR (sc (Ca 400) sn)) ⟨[(2,fun S0=>⟨Nat,fun k=>k<=l.length/\l.all cn=(l.drop k).all cn,fun k=>[(3,.int .i64 k)],fun _=>[],fun k=>l.length-k⟩)],[],[]⟩ func177 (F1 l hl)
theorem F4:ab prog 178 (p5 (.st .term) (.int .i64) (.int .i64) (.int .i64) (.int .i64) fun t n v s p=>.ret (.bool (jl t n v s p))):=
 Nz (ee func178) fun t n v s p _ _ _ _=>g0 sn a0 func178 (IG t n v s p)
theorem Cc:ab prog 216 (p1 .str fun s=>⟨some (s.length<=100000),none,.tup [.lst (.int .i64) (kU s).1 none,.st .fault (kU s).2],[]⟩):=
 ba (ee func216) fun s hs ho=>g0 (sc rm sn) ⟨[(3,fun S0=>⟨Nat×Nat×List Int,fun y=>y.2.1<=s.length/\s.length-y.2.1<y.1/\y.2.2.length<=y.2.1/\mC s y.1 y.2.1 y.2.2=kU s,fun y=>[(5,.int .i64 (y.2.1:Int)),(4,.lst (.int .i64) y.2.2 (some 701))],fun y=>[(701,.tail (.int .i64) y.2.2.length)],fun y=>s.length-y.2.1⟩)],[],[]⟩ func216 (F2 s hs (ho _ rfl))
theorem IK:ab prog 179 (p1 .str fun s=>⟨some (s.length<=100000),none,.bool (kE s),[]⟩):=
 ba (ee func179) fun s hs ho=>g0 (sc Cc sn) ⟨[(2,fun S0=>⟨Nat,fun k=>k<=s.length/\s.all eI=(s.drop k).all eI,fun k=>[(3,.int .i64 k)],fun _=>[],fun k=>s.length-k⟩)],[],[]⟩ func179 (LN s hs (ho _ rfl))
theorem IL:ab prog 122 (p1 (.st .term) fun t=>⟨some (t.name.length<=100000/\t.names.length<=1000000),none,.bool (aS t),[]⟩):=
 ba (ee func122) fun t ht ho=>g0 (sc F3 (sc Cb (sc lN (sc py (sc F4 (sc IK sn)))))) a0 func122 (LO t ht (ho _ rfl))
theorem xi:aA prog 79:=ee func79
theorem zg(n:Nat)(t:Trm)(ht:Wf (.st .term) t)(hn:szT t<=n+1)(ho:gn t=true)(hA:ab prog 79 (p1 (.st .term) fun t=>⟨some (szT t<=n/\gn t=true),none,.bool (allT aS t),[]⟩)):aB prog 79 [.st .term t] [] (.ret (.bool (allT aS t))):=
 g0 (sc IL (sc (hA) sn)) ⟨[(4,fun S0=>⟨Nat,fun k=>k<=t.parts.length/\allT aS t=allTL aS (t.parts.drop k),fun k=>[(3,.int .i64 k)],fun _=>[],fun k=>t.parts.length-k⟩)],[],[]⟩ func79 (IH n t ht hn ho)
theorem F5:∀n:Nat,ab prog 79 (p1 (.st .term) fun t=>⟨some (szT t<=n/\gn t=true),none,.bool (allT aS t),[]⟩):=by
 intro n
 induction n with
 |zero=>exact ba xi fun a _ ho=>absurd (ho _ rfl).1 (by have:=kC a;omega)
 |succ n ih=>exact ba xi fun a hs ho=>zg n a hs (ho _ rfl).1 (ho _ rfl).2 ih
theorem Cd:aA prog 77:=ee func77
theorem Ce(n:Nat)(s:Trm)(m:Int)(hs:Wf (.st .term) s)(ho:szT s<=n+1/\0<=m/\m<=1000000)(hA:ab prog 77 (p2 (.st .term) (.int .i64) fun s m=>⟨some (szT s<=n/\0<=m/\m<=1000000),none,.int .i64 (fP s m),[]⟩)):aB prog 77 [.st .term s,.int .i64 m] [] (.ret (.int .i64 (fP s m))):=
 g0 (sc (hA) sn) ⟨[(3,fun S0=>⟨Nat×Int,fun x=>x.1<=s.parts.length/\1<=x.2/\x.2<=m+1/\sizeTL (s.parts.drop x.1) x.2 m=fP s m,fun x=>[(5,.int .i64 x.2),(6,.int .i64 x.1)],fun _=>[],fun x=>s.parts.length-x.1⟩)],[],[]⟩ func77 (LP n s m hs ho)
theorem IM:∀n:Nat,ab prog 77 (p2 (.st .term) (.int .i64) fun s m=>⟨some (szT s<=n/\0<=m/\m<=1000000),none,.int .i64 (fP s m),[]⟩):=by
 intro n
 induction n with
 |zero=>exact dy Cd fun a m _ _ ho=>absurd (ho _ rfl).1 (by have:=kC a;omega)
 |succ n ih=>exact dy Cd fun a m ha _ ho=>Ce n a m ha (ho _ rfl) ih
theorem Cf:aA prog 78:=ee func78
theorem Cg(n:Nat)(s:Trm)(hs:Wf (.st .term) s)(hn:szT s<=n+1)(hb:n<=1000000)(hA:ab prog 78 (p1 (.st .term) fun s=>⟨some (szT s<=n),none,.int .i64 (deepT s:Int),[]⟩)):aB prog 78 [.st .term s] [] (.ret (.int .i64 (deepT s:Int))):=
 g0 (sc (hA) sn) ⟨[(3,fun S0=>⟨Nat×Int,fun x=>x.1<=s.parts.length/\0<=x.2/\max x.2 (maxDT (s.parts.drop x.1):Int)=maxDT s.parts,fun x=>[(3,.int .i64 x.2),(4,.int .i64 x.1)],fun _=>[],fun x=>s.parts.length-x.1⟩)],[],[]⟩ func78 (LQ n s hs hn hb)
theorem IN:∀n:Nat,n<=1000000->ab prog 78 (p1 (.st .term) fun s=>⟨some (szT s<=n),none,.int .i64 (deepT s:Int),[]⟩):=by
 intro n
 induction n with
 |zero=>exact fun _=>ba Cf fun a _ ho=>absurd (ho _ rfl) (by have:=kC a;omega)
 |succ n ih=>exact fun hb=>ba Cf fun a hs ho=>Cg n a hs (ho _ rfl) (by omega) (ih (by omega))
theorem F6:ab prog 38 (p1 (.st .term) fun s=>⟨some (gn s=true),none,.int .i64 (bJ s),[]⟩):=
 ba (ee func38) fun s hs ho=>g0 (sc (IM (szT s)) (sc (IN 4096 (by decide)) (sc (F5 4096) sn))) a0 func38 (II s hs (ho _ rfl))
theorem zh:ab prog 40 (p2 (.lst .str) (.lst .str) fun a b=>.ret (.bool (decide (a=b)))):=
 dy (ee func40) fun a b ha hb _=>g0 sn ⟨[(4,fun S0=>⟨Nat,fun k=>k<=a.length/\a.length=b.length/\(a=b↔a.drop k=b.drop k),fun k=>[(5,.int .i64 k)],fun _=>[],fun k=>a.length-k⟩)],[],[]⟩ func40 (C9 a b ha hb)
theorem xj:aA prog 17:=ee func17
theorem zi(n:Nat)(a b:Trm)(p:Bool)(ha:Wf (.st .term) a)(hb:Wf (.st .term) b)(hn:szT a<=n+1)(hA:ab prog 17 (p3 (.st .term) (.st .term) .bool fun a b p=>⟨some (szT a<=n),none,.bool (eqT a b p),[]⟩)):aB prog 17 [.st .term a,.st .term b,.bool p] [] (.ret (.bool (eqT a b p))):=
 g0 (sc zh (sc (uS (szL a.shapes)) (sc (hA) sn))) ⟨[(6,fun S0=>⟨Nat,fun k=>k<=a.shapes.length/\a.shapes.length=b.shapes.length/\a.parts.length=b.parts.length/\eqT a b p=(eqL (a.shapes.drop k) (b.shapes.drop k)&&eqTL a.parts b.parts p),fun k=>[(7,.int .i64 k)],fun _=>[],fun k=>a.shapes.length-k⟩),(11,fun S0=>⟨Nat,fun k=>k<=a.parts.length/\a.parts.length=b.parts.length/\eqT a b p=eqTL (a.parts.drop k) (b.parts.drop k) p,fun k=>[(8,.int .i64 k)],fun _=>[],fun k=>a.parts.length-k⟩)],[],[]⟩ func17 (IJ n a b p ha hb hn)
theorem F7:∀n:Nat,ab prog 17 (p3 (.st .term) (.st .term) .bool fun a b p=>⟨some (szT a<=n),none,.bool (eqT a b p),[]⟩):=by
 intro n
 induction n with
 |zero=>exact wv xj fun a b _ _ _ _ ho=>absurd (ho _ rfl) (by have:=kC a;omega)
 |succ n ih=>exact wv xj fun a b p ha hb _ ho=>zi n a b p ha hb (ho _ rfl) ih
end Go.AL.Seat
end
section
namespace Go.Pd
open Go.AL
def Zf(f:Flt):Prop:=f.err=0->f=okF
theorem gZ:Zf okF:=fun _=>rfl
section
variable {l:List Tokn}
theorem sD(a:Int):Zf (gW l a):=fun e=>absurd e (by rw[qo];decide)
theorem jC(a:Int)(t:Str):Zf (ad l a t).2:=by
 unfold ad;split
 ·exact gZ
 ·exact sD a
theorem mD(a k:Int):Zf (aL l a k).2.2:=by
 unfold aL;split
 ·exact gZ
 ·exact sD a
theorem qu(a:Int)(ns:List Str):Zf (ag l a ns).2.2:=by
 show Zf (if _ then _ else _);split
 ·exact fun e=>absurd e (by show ¬(111:Int)=0;decide)
 ·exact mD a 1
def GG{σ:Type}(p:σ->Prop)(b:σ×Int×Flt):Prop:=p b.1/\Zf b.2.2
def KG{σ:Type}(p:σ->Prop)(r:σ->Int->σ×Int×Flt):Prop:=∀x a,p x->GG p (r x a)
theorem bq{σ:Type}{p:σ->Prop}{c:Prop}[Decidable c]{x y:σ×Int×Flt}(h1:GG p x)(h2:GG p y):GG p (if c then x else y):=by
 split
 ·exact h1
 ·exact h2
theorem xk{σ:Type}{p:σ->Prop}{r:σ->Int->σ×Int×Flt}(h:KG p r)(btw en:Str):∀(k:Nat)(x:σ)(a:Int),p x->GG p (aP l r btw en k x a)
 |0,x,a,hx=>⟨hx,gZ⟩
 |k+1,x,a,hx=>by have h1:=h x a hx;rw[aP];exact bq (bq ⟨h1.1,gZ⟩ (bq (xk h btw en k _ _ h1.1) ⟨h1.1,jC _ _⟩)) h1
theorem iT{σ:Type}{p:σ->Prop}{r:σ->Int->σ×Int×Flt}(h:KG p r)(btw en:Str)(x:σ)(a:Int)(hx:p x):GG p (aw l r btw en x a):=bq ⟨hx,gZ⟩ (xk h btw en _ x a hx)
theorem qv{σ:Type}{p:σ->Prop}{b:σ×Int×Flt}(h:GG p b):GG p (dN b):=bq ⟨h.1,gZ⟩ h
theorem mE{σ:Type}{p:σ->Prop}{t:Str}{b:σ×Int×Flt}(h:GG p b):GG p (cq l t b):=bq ⟨h.1,jC _ _⟩ h
end
section
variable {l:List Tokn}
abbrev GS(b:SR3):Prop:=GG (fun _=>True) b
theorem LR{R:Int->SR3}(h:∀a,GS (R a)):KG (fun _=>True) (cH l R):=fun x a _=>by have hb:GG (fun _=>True) (cq l [58] (ag l a x.names)):=mE ⟨trivial,qu _ _⟩;exact bq (bq ⟨trivial,gZ⟩ ⟨trivial,(h _).2⟩) ⟨trivial,hb.2⟩
theorem Nh{R:Int->SR3}(h:∀a,GS (R a)):KG (fun _=>True) (cQ R):=fun x a _=>bq ⟨trivial,gZ⟩ ⟨trivial,(h _).2⟩
theorem xl{R:Int->SR3}(h:∀a,GS (R a))(a k:Int)(btw en:Str):GS (eK l R a k btw en):=qv (iT (LR h) btw en _ a trivial)
theorem Ch{R:Int->SR3}(h:∀a,GS (R a))(a:Int):GS (dC l R a):=by have hc:GS (cq l [45,62] (dN (aw l (cQ R) [44] [41] ⟨8,[],[],[],[]⟩ a))):=mE (qv (iT (Nh h) [44] [41] _ a trivial));exact bq ⟨trivial,(h _).2⟩ hc
theorem Ci:∀(n:Nat)(a:Int),GS (ay l n a)
 |0,a=>⟨trivial,gZ⟩
 |n+1,a=>by have ih:=Ci n;show GS (mz l (ay l n) a);unfold mz;refine bq ⟨trivial,gZ⟩ (bq (bq ⟨trivial,mD _ _⟩ ⟨trivial,jC _ _⟩) (bq ?_ (bq (xl ih _ _ _ _) (bq (xl ih _ _ _ _) (bq (Ch ih _) ⟨trivial,sD _⟩)))));exact⟨trivial,(mE (l:=l) (t:=[93]) (ih (a+1))).2⟩
theorem Cj(a:Int):Zf (cE l a).2.2:=by
 show Zf (if(ay l big a).2.2.err=0/\¬bG (ay l big a).1=0 then(⟨bG (ay l big a).1,(az l a).pos⟩:Flt)else(ay l big a).2.2);split
 ·exact fun e=>absurd e (by rename_i c;exact c.2)
 ·exact(Ci big a).2
end
def eY(t:Trm):Prop:=allT (fun x=>decide (x.name.length<=100000)) t=true
theorem fX{t:Trm}:eY t↔t.name.length<=100000/\∀x∈t.parts,eY x:=by unfold eY;rw[iZ,OU,iP,OZ,Pp]
theorem iB{t:Trm}(h1:t.name.length<=100000)(h2:t.parts=[]):eY t:=fX.2 ⟨h1,fun x hx=>by rw[h2]at hx;cases hx⟩
theorem ru{t u:Trm}(h1:t.name.length<=100000)(h2:t.parts=[u])(hu:eY u):eY t:=fX.2 ⟨h1,fun x hx=>by rw[h2,Px]at hx;rw[hx];exact hu⟩
theorem ko{t u:Trm}(h:eY t)(h1:u.name=t.name)(h2:u.parts=t.parts):eY u:=by rw[fX,h1,h2];exact fX.1 h
theorem xm{t u:Trm}(h:eY t)(hu:eY u):eY (ar t u):=fX.2 ⟨(fX.1 h).1,fun x hx=>by
 rcases Pz.1 hx with k|k
 ·exact(fX.1 h).2 x k
 ·rw[Px.1 k];exact hu⟩
section
variable {l:List Tokn}
def jq(l:List Tokn):Prop:=∀t∈l,t.text.length<=100000
theorem rv(hT:jq l)(a:Int):(az l a).text.length<=100000:=by
 unfold az;split
 ·by_cases h:a.toNat<l.length
  ·exact hT _ (cp l a.toNat _ h)
  ·rw[OV,OX (by omega)];exact OY _
 ·split
  ·exact OY _
  ·exact OY _
theorem oz(hT:jq l)(a k:Int):(aL l a k).1.length<=100000:=by
 unfold aL;split
 ·exact rv hT a
 ·exact OY _
abbrev GT(b:TR3):Prop:=GG eY b
variable {R:Int->TR3}
theorem nO(h:∀a,GT (R a)):∀(ws:List Str)(t:Trm)(a:Int),eY t->GT (aD l R ws t a)
 |[],t,a,ht=>⟨ht,gZ⟩
 |w::ws,t,a,ht=>by rw[aD];exact bq (bq (nO h ws _ _ (xm ht (h _).1)) ⟨ht,(h _).2⟩) ⟨ht,jC _ _⟩
theorem lP{t:Trm}{f:Flt}(a:Int)(ahead:Str)(ht:eY t)(hf:Zf f):GT (aV l a t f ahead):=bq (bq ⟨ko ht rfl rfl,Cj _⟩ ⟨ht,jC _ _⟩) ⟨ht,hf⟩
theorem O8(h:∀a,GT (R a)):KG eY (cO R):=fun t a ht=>bq ⟨xm ht (h _).1,gZ⟩ ⟨ht,(h _).2⟩
theorem G6(h:∀a,GT (R a))(a:Int)(t:Trm)(en:Str)(ht:eY t):GT (dV l R a t en):=qv (iT (O8 h) [44] en t a ht)
theorem IP:KG eY (du l):=fun t a ht=>bq (lP _ _ (ko ht rfl rfl) gZ) ⟨ht,qu _ _⟩
theorem O9(h:∀a,GT (R a))(a:Int)(t:Trm)(ht:eY t):GT (r8 l R a t):=by have hc:GT (aw l (du l) [44] [41] t (ad l a [40]).1):=iT IP [44] [41] t _ ht;exact bq (bq (nO h _ _ _ hc.1) hc) ⟨ht,jC _ _⟩
theorem IQ(h:∀a,GT (R a)):KG eY (cu l R):=fun t a ht=>by have he:GT (cq l [41] (aV l (aL l (ad l (ag l a t.names).2.1 [40]).1 1).2.1 (cR (bd t (ag l a t.names).1) (aL l (ad l (ag l a t.names).2.1 [40]).1 1).1) (aL l (ad l (ag l a t.names).2.1 [40]).1 1).2.2 [58])):=mE (lP _ _ (ko ht rfl rfl) (mD _ _));exact bq (bq (bq (nO h _ _ _ he.1) he) ⟨ko ht rfl rfl,jC _ _⟩) ⟨ht,qu _ _⟩
theorem Ni(h:∀a,GT (R a))(a:Int)(t:Trm)(ht:eY t):GT (dO l R a t):=qv (iT (IQ h) [124] [125] t a ht)
theorem Ck(h:∀a,GT (R a)):KG eY (cZ l R):=fun t a ht=>bq (nO h _ _ _ (ko ht rfl rfl)) ⟨ht,qu _ _⟩
theorem IS(h:∀a,GT (R a))(a:Int)(t:Trm)(ht:eY t):GT (gD l R a t):=qv (iT (Ck h) [44] [125] t a ht)
theorem vj(hT:jq l)(h:∀a,GT (R a))(a:Int)(t:Trm)(k:Int)(ht:eY t):GT (fH l R a t k):=by have hs:eY (qi t (aL l a k).1):=fX.2 ⟨oz hT a k,(fX.1 ht).2⟩;exact bq (mE (nO h _ _ _ hs)) ⟨ht,mD _ _⟩
theorem LS(h:∀a,GT (R a))(a p:Int):GT (iw l R a p):=by have h15:eY (⟨15,[],[],0,[],[],[],[(R a).1],p⟩:Trm):=ru (OY _) rfl (h a).1;have hb:GT (aV l (R a).2.1 ⟨15,[],[],0,[],[],[],[(R a).1],p⟩ okF [97,115]):=lP _ _ h15 gZ;exact bq (bq (bq ⟨hb.1,jC _ _⟩ ⟨h15,hb.2⟩) ⟨(h a).1,jC _ _⟩) ⟨iB (OY _) rfl,(h a).2⟩
theorem Nj(hT:jq l)(h:∀a,GT (R a))(a:Int):GT (gy l R a):=by
 have k0:∀k p:Int,eY (dp k p):=fun k p=>iB (OY _) rfl
 exact bq ⟨iB (OY _) rfl,gZ⟩ (bq ⟨iB (rv hT a) rfl,gZ⟩ (bq (bq ⟨iB (oz hT _ _) rfl,mD _ _⟩ ⟨iB (rv hT a) rfl,gZ⟩)
  (bq ⟨k0 _ _,gZ⟩ (bq ⟨k0 _ _,gZ⟩ (bq (LS h _ _) (bq (IS h _ _ (k0 _ _)) (bq (vj hT h _ _ _ (k0 _ _)) (bq (vj hT h _ _ _ (k0 _ _)) (bq (vj hT h _ _ _ (k0 _ _)) ⟨k0 _ _,sD _⟩)))))))))
theorem vk(hT:jq l)(h:∀a,GT (R a))(p:Int):∀(n:Nat)(x:TR3),GT x->GT (eU l R p n x)
 |0,x,hx=>hx
 |n+1,x,hx=>by rw[eU];exact bq (vk hT h p n _ (G6 h _ _ _ (ru (OY _) rfl hx.1))) (bq (vk hT h p n _ ⟨ru (oz hT _ _) rfl hx.1,mD _ _⟩) hx)
theorem zj(hT:jq l):∀(n:Nat)(a:Int),GT (aa l n a)
 |0,a=>⟨iB (OY _) rfl,gZ⟩
 |n+1,a=>by
  have h:=zj hT n;have k0:∀k p:Int,eY (dp k p):=fun k p=>iB (OY _) rfl;show GT (pj l (aa l n) a);unfold pj;refine bq (O9 h _ _ (k0 _ _)) (bq (bq (nO h _ _ _ (iB (oz hT _ _) rfl)) ⟨k0 _ _,mD _ _⟩) (bq ?_ (bq ?_ (bq ?_ (vk hT h _ _ _ (Nj hT h a))))))
  ·have hb:=nO (l:=l) h [[105,102],[116,104,101,110],[101,108,115,101]] (dp 12 (az l a).pos) a (k0 _ _);exact lP _ _ hb.1 hb.2
  ·have hb:GT (cq l [123] (cq l [111,102] (aD l (aa l n) [[99,97,115,101]] (dp 13 (az l a).pos) a))):=mE (mE (nO h _ _ _ (k0 _ _)));have he:=Ni (l:=l) h (cq l [123] (cq l [111,102] (aD l (aa l n) [[99,97,115,101]] (dp 13 (az l a).pos) a))).2.1 _ hb.1;exact bq (lP _ _ he.1 he.2) hb
  ·have hb:=G6 (l:=l) h (a+1) (dp 11 (az l a).pos) [93] (k0 _ _);exact lP _ _ hb.1 hb.2
end
theorem IT{f g:Trm->Bool}:∀t:Trm,allT f t=true->allT g t=true->allT (fun x=>f x&&g x) t=true:=by
 intro t;generalize hn:szT t=n
 induction n using Nat.strongRecOn generalizing t with
 |_ n ih=>intro h1 h2;rw[iZ,OU,iP,Pp]at h1 h2⊢;refine⟨by rw[h1.1,h2.1];rfl,fun x hx=>ih (szT x) ?_ x rfl (h1.2 x hx) (h2.2 x hx)⟩;have:=jx hx;have:=nr t;omega
theorem LU{t:Trm}(h1:eY t)(h2:dD t=true):gn t=true:=IT t h1 h2
end Go.Pd
end
section
namespace Go.Pd
open Go.AL
theorem Cl{y z:Str}(hy:y≠[])(hz:∀c z',z=c::z'->c.toNat/64≠2):cM (y++z)=cM y:=by
 cases y with
 |nil=>exact absurd rfl hy
 |cons b r=>
  cases z with
  |nil=>rw[PY]
  |cons c z'=>
   have hc:=hz c z' rfl;rcases r with _|⟨x,_|⟨y,_|⟨w,t⟩⟩⟩<;>simp[cM,q8,qS,hc]
theorem zk{p:UInt8->Bool}:∀{l:Str} {c:UInt8} {z:Str},l.dropWhile p=c::z->p c=false
 |[],_,_,h=>by cases h
 |b::l,c,z,h=>by
  rw[RH]at h;by_cases hb:p b=true
  ·rw[OQ hb]at h;exact zk h
  ·rw[OP hb]at h;cases h;simpa using hb
theorem F8{p:UInt8->Bool}:∀{l:Str} {c:UInt8},c∈l.takeWhile p->p c=true
 |[],_,h=>by cases h
 |b::l,c,h=>by
  rw[Qn]at h;by_cases hb:p b=true
  ·rw[OQ hb]at h
   cases h with|head=>exact hb|tail _ k=>exact F8 k
  ·rw[OP hb]at h;cases h
theorem qw(s:Str)(a w:Nat):cut s (a:Int) ((a:Int)+(w:Int))=(s.drop a).take w:=by
 unfold cut;have e1:((a:Int)+(w:Int)).toNat=a+w:=by omega
 rw[e1,OW,List.drop_take];congr 1;omega
theorem iU(p:Int->Bool)(s:Str)(a:Nat):aj p s (a:Int)=((s.drop a).takeWhile fun b=>p (bI b)).length:=by unfold aj;rw[OW]
theorem Nk(p:UInt8->Bool)(l:Str):l.take (l.takeWhile p).length=l.takeWhile p:=by
 conv=>lhs;arg 2;rw[<-QI (p:=p) (l:=l)]
 exact List.take_left
theorem xn(p:Int->Bool)(s:Str)(a:Nat):cut s (a:Int) ((a:Int)+(aj p s (a:Int):Int))=(s.drop a).takeWhile fun b=>p (bI b):=by rw[qw,iU,Nk]
theorem kP(s:Str)(a:Nat):bAt s (a:Int)=if a<s.length then bI (s.getD a 0)else 0:=by
 unfold bAt;rw[OW];by_cases h:a<s.length
 ·rw[OQ h,OQ (by omega)]
 ·rw[OP h,OP (by omega)]
theorem fT(s:Str)(a i:Nat):(s.drop a).getD i 0=s.getD (a+i) 0:=by simp[OV]
theorem vl{t x z:Str}{n:Nat}(h:t.drop n=x++z)(hx:∀c∈x,bI c≠10)(hz:∀c z',z=c::z'->bI c=10)(j f:Nat)(hj:j<=x.length)(hf:x.length-j<f) :
  lK t f (n+j)=match gS x j with|none=>(((n+x.length:Nat):Int),⟨0,0⟩)|some k=>(0,⟨30,((n+k:Nat):Int)⟩):=by
 obtain⟨f,rfl⟩:∃g,f=g+1:=⟨f-1,by omega⟩;have hd:t.drop (n+j)=x.drop j++z:=by rw[<-Qj,h,List.drop_append_of_le_length hj]
 have hg:t.getD (n+j) 0=(x.drop j++z).getD 0 0:=by rw[<-hd,mh]
 have hlen:t.length-(n+j)=(x.length-j)+z.length:=by
  have:=Qi List.length hd
  rwa [Pq,OT,Pq]at this
 rw[lK];by_cases hjx:j=x.length
 ·subst hjx;rw[oa (P1 _),OP];rintro⟨a,b⟩
  cases z with|nil=>rw[Pk]at hlen;omega|cons c z'=>exact b (by rw[hg,P3];exact hz c z' rfl)
 ·have hj':j<x.length:=by omega
  obtain⟨c,y,hy⟩:∃c y,x.drop j=c::y:=by
   cases e:x.drop j with|nil=>have:=Qi List.length e;rw[Pq,Pk]at this;omega|cons c y=>exact⟨c,y,rfl⟩
  have hc:c∈x:=List.mem_of_mem_drop (by rw[hy];exact Q7);have hu:cM (t.drop (n+j))=cM (x.drop j):=by rw[hd];refine Cl (by rw[hy];exact List.cons_ne_nil _ _) (fun c z' e=>?_);have:=hz c z' e;unfold bI at this;omega
  rw[OQ ⟨by omega,by rw[hg,hy];exact hx c hc⟩,hu];by_cases hb:cM (x.drop j)=0
  ·rw[OQ hb,oc hj' hb]
  ·rw[OP hb,ke hj' hb,Qd];have hle:=j0 (s:=x) hj;exact vl h hx hz (j+cM (x.drop j)) f hle (by omega)
termination_by x.length-j
decreasing_by omega
theorem vm(c:Int):b6 c=true↔32<=c/\c≠34/\c≠92:=by unfold b6;simp only[OU,P8,OZ,Pe,and_assoc,ne_eq]
theorem Cm{t x z:Str}{i:Nat}(h:t.drop i=x++z)(hx:∀c∈x,b6 (bI c)=true)(hz:∀c z',z=c::z'->b6 (bI c)=false)(j f:Nat)(acc:Str)(hj:j<=x.length)(hf:t.length-(i+j)<f) :
  (gS x j=none->∃g,t.length-(i+x.length)<g/\bu t f acc (i+j)=bu t g (acc++x.drop j) (i+x.length))/\
  (∀k,gS x j=some k->bu t f acc (i+j)=(kS,0,⟨30,((i+k:Nat):Int)⟩)):=by
 by_cases hjx:j=x.length
 ·subst hjx;rw[oa (P1 _)];refine⟨fun _=>⟨f,hf,by rw[P3,PY]⟩,fun k e=>by cases e⟩
 ·have hj':j<x.length:=by omega
  obtain⟨f,rfl⟩:∃g,f=g+1:=⟨f-1,by omega⟩;have hd:t.drop (i+j)=x.drop j++z:=by rw[<-Qj,h,List.drop_append_of_le_length hj]
  have hg:t.getD (i+j) 0=(x.drop j++z).getD 0 0:=by rw[<-hd,mh]
  have hlen:t.length-(i+j)=(x.length-j)+z.length:=by
   have:=Qi List.length hd
   rwa [Pq,OT,Pq]at this
  obtain⟨c,y,hy⟩:∃c y,x.drop j=c::y:=by
   cases e:x.drop j with|nil=>have:=Qi List.length e;rw[Pq,Pk]at this;omega|cons c y=>exact⟨c,y,rfl⟩
  have hc:c∈x:=List.mem_of_mem_drop (by rw[hy];exact Q7);have hg':t.getD (i+j) 0=c:=by rw[hg,hy];rfl
  have hu:cM (t.drop (i+j))=cM (x.drop j):=by
   rw[hd];refine Cl (by rw[hy];exact List.cons_ne_nil _ _) (fun c z' e=>?_);have h2:=hz c z' e;have h3:=JT c;have h4:¬(b6 (bI c)=true):=by rw[h2];decide
   rw[vm]at h4;unfold bI at h3 h4;omega
  obtain⟨p1,p2,p3⟩:=(vm _).1 (hx c hc);have step:bu t (f+1) acc (i+j)=if cM (x.drop j)=0 then(kS,0,⟨30,((i+j:Nat):Int)⟩)else bu t f (acc++(x.drop j++z).take (cM (x.drop j))) (i+j+cM (x.drop j)):=by rw[bu,OQ (by omega),hg',OP p2,OP (by omega),OP p3,hu,hd]
  rw[step];by_cases hb:cM (x.drop j)=0
  ·rw[OQ hb,oc hj' hb];exact⟨fun e=>(by cases e),fun k e=>by cases e;rfl⟩
  ·rw[OP hb,ke hj' hb,Qd];have hle:=j0 (s:=x) hj;have hlx:=FT (x.drop j);obtain⟨r1,r2⟩:=Cm h hx hz (j+cM (x.drop j)) f (acc++(x.drop j++z).take (cM (x.drop j))) hle (by omega);refine⟨fun e=>?_,r2⟩;obtain⟨g,g1,g2⟩:=r1 e;refine⟨g,g1,?_⟩;rw[g2,Py,Qr hlx];congr 2;conv=>rhs;rw[<-List.take_append_drop (cM (x.drop j)) (x.drop j)]
   rw[Qj]
termination_by x.length-j
decreasing_by omega
theorem nP{s:Str}{a:Nat}(i n f:Nat)(acc:Str)(c:SC)(hc:c.pos=((a+i:Nat):Int))(hi:a+i<=s.length)(hn:s.length-(a+i)<n)(hf:s.length-(a+i)<f) :
  ((cW s a n acc c).2.1=true->∃w:Nat,(cW s a n acc c).2.2=cG c (a+w)/\bu (s.drop a) f acc i=okK 4 (cW s a n acc c).1 w)/\
  ((cW s a n acc c).2.1=false->bu (s.drop a) f acc i=(kS,0,⟨(cW s a n acc c).2.2.err,(cW s a n acc c).2.2.fat-a⟩)):=by
 obtain⟨n,rfl⟩:∃g,n=g+1:=⟨n-1,by omega⟩;have hl:(s.drop a).length=s.length-a:=Pq
 have hb:bAt s c.pos=if i<(s.drop a).length then bI ((s.drop a).getD i 0)else 0:=by
  rw[hc,kP,fT];by_cases h:a+i<s.length
  ·rw[OQ h,OQ (by omega)]
  ·rw[OP h,OP (by omega)]
 have bad:∀(c':SC),(kS,(0:Int),(⟨60,0⟩:Flt))=(kS,0,⟨(gf 60 (a:Int) c').2.err,(gf 60 (a:Int) c').2.fat-a⟩):=fun c'=>by show _=(kS,(0:Int),(⟨60,(a:Int)-a⟩:Flt));rw[Int.sub_self]
 rw[cW];obtain⟨g,rfl⟩:∃g,f=g+1:=⟨f-1,by omega⟩;by_cases h1:bAt s c.pos<32
 ·rw[OQ h1];refine⟨fun e=>(by cases e),fun _=>?_⟩;rw[bu];by_cases k:i<(s.drop a).length
  ·rw[OQ k]at hb;rw[OQ k,<-hb,OP (by omega),OQ h1];exact bad c
  ·rw[OP k];exact bad c
 rw[OP h1]
 have hlt:i<(s.drop a).length:=by
  rcases P7 i (s.drop a).length with k|k
  ·exact k
  ·rw[OP (by omega)]at hb;rw[hb]at h1;exact absurd (by decide) h1
 rw[OQ hlt]at hb;by_cases h2:bAt s c.pos=34
 ·rw[OQ h2];refine⟨fun _=>⟨i+1,?_,?_⟩,fun e=>by cases e⟩
  ·show cG c (c.pos+1)=_;rw[hc];congr 1
  ·rw[bu,OQ hlt,<-hb,OQ h2];rfl
 rw[OP h2];by_cases h3:bAt s c.pos=92
 ·rw[OQ h3]
  have hb2:bAt s (c.pos+1)=if i+1<(s.drop a).length then bI ((s.drop a).getD (i+1) 0)else 0:=by
   have e:c.pos+1=((a+(i+1):Nat):Int):=by omega
   rw[e,kP,fT];by_cases h:a+(i+1)<s.length
   ·rw[OQ h,OQ (by omega)]
   ·rw[OP h,OP (by omega)]
  have hr:bu (s.drop a) (g+1) acc i=if i+1=(s.drop a).length then nF else match jt (bI ((s.drop a).getD (i+1) 0))with
     |none=>nF
     |some x=>bu (s.drop a) g (acc++[UInt8.ofNat x.toNat]) (i+2):=by
   rw[bu,OQ hlt,<-hb,OP h2,OP h1,OQ h3];rfl
  rw[hr];by_cases k:i+1=(s.drop a).length
  ·rw[OQ k];rw[OP (by omega)]at hb2;rw[hb2];have e0:jt 0=none:=by decide
   rw[e0];exact⟨fun e=>(by cases e),fun _=>bad c⟩
  ·rw[OP k];rw[OQ (by omega)]at hb2;rw[<-hb2]
   cases he:jt (bAt s (c.pos+1))with|none=>exact⟨fun e=>(by cases e),fun _=>bad c⟩|some x=>exact nP (i+2) n g (acc++[UInt8.ofNat x.toNat]) (cG c (c.pos+2)) (by show c.pos+2=_;omega) (by omega) (by omega) (by omega)
 rw[OP h3];have hcut:cut s c.pos (c.pos+(aj b6 s c.pos:Int))=(s.drop (a+i)).takeWhile fun b=>b6 (bI b):=by rw[hc,xn]
 have hw:aj b6 s c.pos=((s.drop (a+i)).takeWhile fun b=>b6 (bI b)).length:=by rw[hc,iU]
 have hsplit:(s.drop a).drop i=((s.drop (a+i)).takeWhile fun b=>b6 (bI b))++((s.drop (a+i)).dropWhile fun b=>b6 (bI b)):=by rw[Qj];exact QI.symm
 have hpos:=(qV (s:=s) (a:=c.pos) h1 h2 h3).2 (by omega);rw[hcut,hw];rw[hw]at hpos;have hle:a+i+((s.drop (a+i)).takeWhile fun b=>b6 (bI b)).length<=s.length:=by have:=(Qv (fun b=>b6 (bI b)) (l:=s.drop (a+i))).length_le;rw[Pq]at this;omega
 have hx:∀c∈((s.drop (a+i)).takeWhile fun b=>b6 (bI b)),b6 (bI c)=true:=fun c h=>F8 (p:=fun b=>b6 (bI b)) h;have hz:∀c z',((s.drop (a+i)).dropWhile fun b=>b6 (bI b))=c::z'->b6 (bI c)=false:=fun c z' h=>zk (p:=fun b=>b6 (bI b)) h;generalize ((s.drop (a+i)).takeWhile fun b=>b6 (bI b))=x at *
 generalize ((s.drop (a+i)).dropWhile fun b=>b6 (bI b))=z at *
 obtain⟨r1,r2⟩:=Cm hsplit hx hz 0 (g+1) acc (OY _) (by omega);simp only[pb,Qt,Qk]at r1 r2
 cases he:dv x with
 |some k=>
  refine⟨fun e=>(by cases e),fun _=>?_⟩;rw[r2 k he];show _=(kS,(0:Int),(⟨30,c.pos+k-a⟩:Flt));have e:c.pos+k-a=((i+k:Nat):Int):=by omega
  rw[e]
 |none=>obtain⟨g',g1,g2⟩:=r1 he;rw[g2];exact nP (i+x.length) n g' (acc++x) (cG c (c.pos+x.length)) (by show c.pos+_=_;omega) (by omega) (by omega) (by omega)
termination_by s.length-(a+i)
decreasing_by all_goals omega
def LV(c:SC)(q:Bool×SC)(r:TK3):Prop:=
 (q.1=true->∃k tx,∃w:Nat,r=okK k tx w/\q.2=⟨c.pos+w,c.out++[⟨k,tx,c.pos⟩],c.err,c.fat⟩)/\(q.1=false->r.2.2=⟨q.2.err,q.2.fat-c.pos⟩)
theorem mF(c:SC)(k:Int)(t:Str)(w:Nat):LV c (je k t c.pos (cG c (c.pos+w))) (okK k t w):=⟨fun _=>⟨k,t,w,rfl,rfl⟩,fun e=>by cases e⟩
theorem vn(c:SC)(x:Int):LV c (gf 60 c.pos (cG c x)) nF:=⟨fun e=>(by cases e),fun _=>by
 show(⟨60,0⟩:Flt)=⟨60,c.pos-c.pos⟩;rw[Int.sub_self]⟩
theorem Cn:∀s:Str,(s.takeWhile fun b=>bT (bI b)).length=cN s
 |[]=>rfl
 |b::r=>by
  rw[Qn,cN];by_cases h:bT (bI b)=true
  ·rw[OQ h,OQ h,P4,Cn r]
  ·rw[OP h,OP h];rfl
theorem Co{t:Str}(h:1<=t.length):oR t=gA t:=by
 unfold oR gA eX;rw[show decide (1<=t.length)=true from Xd h,Qe];congr 1
 cases t with
 |nil=>exact absurd h (by decide)
 |cons b r=>
  cases r with
  |nil=>
   by_cases hb:b=48
   ·subst hb;rfl
   ·have:¬bI b=48:=fun e=>hb (UInt8.toNat_inj.1 (by unfold bI at e;have:(48:UInt8).toNat=48:=rfl;omega));simp[this]
  |cons x y=>simp
theorem F9{s:Str}{a:Nat}(ha:a<s.length)(out:List Tokn)(e fa:Int):LV ⟨a,out,e,fa⟩ (bg s ⟨a,out,e,fa⟩) (cb (s.drop a)):=by
 have hl:(s.drop a).length=s.length-a:=Pq;have hb:bAt s (a:Int)=bI ((s.drop a).getD 0 0):=by rw[kP,OQ ha,mh]
 unfold bg cb;simp only[hb];by_cases h1:bU (bI ((s.drop a).getD 0 0))=true∨bX (bI ((s.drop a).getD 0 0))=true
 ·rw[OQ h1,OQ h1];have hw:aj bT s (a:Int)=cN (s.drop a):=by rw[iU,Cn]
  have hcut:cut s (a:Int) ((a:Int)+(cN (s.drop a):Int))=(s.drop a).take (cN (s.drop a)):=qw _ _ _;simp only[hw,hcut];unfold yi mm;by_cases x:kz ((s.drop a).take (cN (s.drop a)))=true
  ·rw[OQ x,OQ x];exact mF ⟨a,out,e,fa⟩ _ _ _
  rw[OP x,OP x];by_cases y:aX ((s.drop a).take (cN (s.drop a)))=true
  ·rw[OQ y,OQ y];exact mF ⟨a,out,e,fa⟩ _ _ _
  rw[OP y,OP y];by_cases z:dI ((s.drop a).take (cN (s.drop a)))=true
  ·rw[OQ z,OQ z];exact mF ⟨a,out,e,fa⟩ _ _ _
  rw[OP z,OP z];exact vn ⟨a,out,e,fa⟩ _
 rw[OP h1,OP h1];by_cases h2:b8 (bI ((s.drop a).getD 0 0))=true
 ·rw[OQ h2,OQ h2];have hw0:aj aW (s.drop a) 0=aj aW s (a:Int):=by rw[iU];rfl
  rw[hw0];have hcut:cut s (a:Int) ((a:Int)+(aj aW s (a:Int):Int))=(s.drop a).take (aj aW s (a:Int)):=qw _ _ _;simp only[hcut]
  have hp:=cU (pr:=aW) (s:=s) (a:=a) (by omega) (by omega) (by
   have:s.getD (a:Int).toNat 0=(s.drop a).getD 0 0:=by rw[OW,mh]
   rw[this];unfold aW;rw[h2,Q3];rfl)
  have hle:=dX (pr:=aW) (s:=s) (a:=a) (by omega) (by omega);unfold Db mo;rw[Co (by rw[Qb];omega)];by_cases x:gA ((s.drop a).take (aj aW s (a:Int)))=true
  ·rw[OQ x,OQ x];exact mF ⟨a,out,e,fa⟩ _ _ _
  rw[OP x,OP x];by_cases y:(cz ((s.drop a).take (aj aW s (a:Int)))).2=0
  ·rw[OQ y,OQ y];exact mF ⟨a,out,e,fa⟩ _ _ _
  rw[OP y,OP y];exact vn ⟨a,out,e,fa⟩ _
 rw[OP h2,OP h2];by_cases h3:bI ((s.drop a).getD 0 0)=34
 ·rw[OQ h3,OQ h3];obtain⟨q1,q2⟩:=nP (s:=s) (a:=a) 1 (s.length+2) ((s.drop a).length+2) [] (cG ⟨a,out,e,fa⟩ ((a:Int)+1)) rfl (by omega) (by omega) (by omega);unfold Dc dm dA;by_cases x:(cW s a (s.length+2) [] (cG ⟨a,out,e,fa⟩ ((a:Int)+1))).2.1=true
  ·obtain⟨w,w1,w2⟩:=q1 x;simp only[x,PJ];refine⟨fun _=>⟨4,(cW s a (s.length+2) [] (cG ⟨a,out,e,fa⟩ ((a:Int)+1))).1,w,w2,?_⟩,fun e=>by cases e⟩;rw[w1];rfl
  ·have x':(cW s a (s.length+2) [] (cG ⟨a,out,e,fa⟩ ((a:Int)+1))).2.1=false:=by simpa using x
   simp only[x',Pm,Pr];refine⟨fun e=>(by cases e),fun _=>?_⟩;rw[q2 x']
 rw[OP h3,OP h3];unfold Ap oh ij;have c2:cut s (a:Int) ((a:Int)+2)=(s.drop a).take 2:=qw s a 2;have c1:cut s (a:Int) ((a:Int)+1)=(s.drop a).take 1:=qw s a 1;simp only[c2,c1];by_cases x:2<=(s.drop a).length/\ig ((s.drop a).take 2)=true
 ·rw[OQ x,OQ (by rw[x.2,Qe];exact Xd (by omega))];exact mF ⟨a,out,e,fa⟩ 6 _ 2
 rw[OP x,OP (fun h=>x (by simp only[OU,OZ]at h;exact⟨by omega,h.2⟩))];by_cases y:ig ((s.drop a).take 1)=true
 ·rw[OQ y,OQ (by rw[y,Qe];exact Xd (by omega))];exact mF ⟨a,out,e,fa⟩ 6 _ 1
 rw[OP y,OP (fun h=>y (by simp only[OU,OZ]at h;exact h.2))];exact vn ⟨a,out,e,fa⟩ _
theorem qx(s:Str):∀(w a n:Nat)(out:List Tokn)(e fa:Int),(∀i<w,aZ (bAt s ((a+i:Nat):Int))=true)->w<=n->
  fy s n ⟨a,out,e,fa⟩=fy s (n-w) ⟨((a+w:Nat):Int),out,e,fa⟩
 |0,a,n,out,e,fa,_,_=>rfl
 |w+1,a,n,out,e,fa,h,hn=>by obtain⟨n,rfl⟩:∃g,n=g+1:=⟨n-1,by omega⟩;have h0:aZ (bAt s (a:Int))=true:=h 0 (by omega);have hlt:=sC (s:=s) (a:=(a:Int)) (fun k=>by rw[k]at h0;exact absurd h0 (by decide));rw[fy,OP (by show ¬(a:Int)=_;omega),OQ h0];have:=qx s w (a+1) n out e fa (fun i hi=>by have:=h (i+1) (by omega);rwa [show a+1+i=a+(i+1) by omega]) (by omega);rw[show n+1-(w+1)=n-w by omega,show a+(w+1)=a+1+w by omega,<-this];rfl
theorem G7{p:UInt8->Bool}:∀{l:Str} {i:Nat},i<(l.takeWhile p).length->p (l.getD i 0)=true
 |[],i,h=>absurd h (Qq _)
 |b::l,i,h=>by
  rw[Qn]at h;by_cases hb:p b=true
  ·rw[OQ hb]at h
   cases i with|zero=>exact hb|succ i=>exact G7 (l:=l) (i:=i) (by rw[P4]at h;omega)
  ·rw[OP hb]at h;exact absurd h (Qq _)
theorem oA(s:Str)(a n f:Nat)(out:List Tokn)(e fa:Int)(ha:a<=s.length)(hn:s.length-a<n)(hf:s.length-a<f) :
  fy s n ⟨a,out,e,fa⟩=fG s f a out:=by
 obtain⟨f,rfl⟩:∃g,f=g+1:=⟨f-1,by omega⟩;by_cases hae:a=s.length
 ·obtain⟨n,rfl⟩:∃g,n=g+1:=⟨n-1,by omega⟩;rw[fy,fG,OQ (by show(a:Int)=_;omega),OP (by omega)]
 have hlt:a<s.length:=by omega
 have hl:(s.drop a).length=s.length-a:=Pq;have hw0:aj aZ (s.drop a) 0=((s.drop a).takeWhile fun b=>aZ (bI b)).length:=iU aZ (s.drop a) 0;have hwle:aj aZ (s.drop a) 0<=s.length-a:=by rw[hw0,<-hl];exact(Qv _).length_le
 have hblank:∀i<aj aZ (s.drop a) 0,aZ (bAt s ((a+i:Nat):Int))=true:=fun i hi=>by rw[kP,OQ (by omega),<-fT];rw[hw0]at hi;exact G7 (p:=fun b=>aZ (bI b)) hi
 have hstop:a+aj aZ (s.drop a) 0<s.length->aZ (bAt s ((a+aj aZ (s.drop a) 0:Nat):Int))=false:=fun h=>by rw[kP,OQ h,<-fT,hw0];exact yL (fun b=>aZ (bI b)) (s.drop a) (by rw[<-hw0,hl];omega)
 have hP:cx (s.drop a)=if(s.drop a).length<=aj aZ (s.drop a) 0+1∨bI ((s.drop a).getD (aj aZ (s.drop a) 0) 0)≠45∨bI ((s.drop a).getD (aj aZ (s.drop a) 0+1) 0)≠45 then((aj aZ (s.drop a) 0:Int),⟨0,0⟩)else lK (s.drop a) ((s.drop a).length+1) (aj aZ (s.drop a) 0):=rfl
 rw[qx s _ a n out e fa hblank (by omega),fG,OQ hlt];generalize aj aZ (s.drop a) 0=w at *
 by_cases hr:(s.drop a).length<=w+1∨bI ((s.drop a).getD w 0)≠45∨bI ((s.drop a).getD (w+1) 0)≠45
 ·rw[OQ hr]at hP;rw[hP,OP (by simp)];by_cases hw:0<w
  ·rw[OQ (by show(0:Int)<w;omega)];exact oA s (a+w) (n-w) f out e fa (by omega) (by omega) (by omega)
  ·obtain rfl:w=0:=by omega
   rw[OP (by show ¬(0:Int)<(0:Nat);omega)];obtain⟨n,rfl⟩:∃g,n=g+1:=⟨n-1,by omega⟩;have hnb:¬aZ (bAt s ((a+0:Nat):Int))=true:=by rw[hstop (by omega)];decide
   have hnr:¬(bAt s ((a+0:Nat):Int)=45/\bAt s (((a+0:Nat):Int)+1)=45):=fun k=>by
    have k1:=k.1;have k2:=k.2;rw[show(((a+0:Nat):Int)+1)=((a+1:Nat):Int) by omega]at k2;have l2:=sC (s:=s) (a:=((a+1:Nat):Int)) (by rw[k2];decide);rw[kP,OQ (by omega),<-fT]at k1 k2;rcases hr with h|h|h
    ·omega
    ·exact h k1
    ·exact h k2
   rw[show n+1-0=n+1 from rfl,fy,OP (by show ¬((a+0:Nat):Int)=_;omega),OP hnb,OP hnr];have hs:=F9 hlt out e fa;obtain⟨s1,s2⟩:=hs;show(if(bg s ⟨(a:Int),out,e,fa⟩).1=true then fy s n (bg s ⟨(a:Int),out,e,fa⟩).2 else _)=_;by_cases ht:(bg s ⟨(a:Int),out,e,fa⟩).1=true
   ·obtain⟨k,tx,w,r1,r2⟩:=s1 ht;obtain⟨f1,f2,f3⟩:=jz (s:=s) (c:=⟨a,out,e,fa⟩) (by show(0:Int)<=(a:Int);omega) (by show(a:Int)<_;omega) ht;rw[OQ ht,r1,OP (by show ¬¬(0:Int)=0;simp)];rw[r2]at f1 f2⊢;have f1':(a:Int)<a+w:=f1;have f2':(a:Int)+w<=(s.length:Int):=f2;have:=oA s (a+w) n f (out++[⟨k,tx,a⟩]) e fa (by omega) (by omega) (by omega);rw[show((a+w:Nat):Int)=(a:Int)+(w:Int) by omega]at this;rw[this];rfl
   ·have ht':(bg s ⟨(a:Int),out,e,fa⟩).1=false:=by simpa using ht
    have he:=ud (s:=s) (c:=⟨a,out,e,fa⟩) (by show(0:Int)<=(a:Int);omega) (by show(a:Int)<_;omega) ht';rw[OP ht,s2 ht',OQ he];show _=(([]:List Tokn),(⟨_,(a:Int)+(_-(a:Int))⟩:Flt));rw[show ∀x:Int,(a:Int)+(x-(a:Int))=x from fun x=>by omega];rfl
 ·rw[OP hr]at hP;simp only[RD,Nat.not_le,ne_eq,Decidable.not_not]at hr;obtain⟨r1,r2,r3⟩:=hr;have hb1:bAt s ((a+w:Nat):Int)=45:=by rw[kP,OQ (by omega),<-fT];exact r2
  have hb2:bAt s (((a+w:Nat):Int)+1)=45:=by rw[show(((a+w:Nat):Int)+1)=((a+(w+1):Nat):Int) by omega,kP,OQ (by omega),<-fT];exact r3
  obtain⟨m,hm⟩:∃g,n-w=g+1:=⟨n-w-1,by omega⟩;rw[hm,fy,OP (by show ¬((a+w:Nat):Int)=_;omega),OP (by rw[hb1];decide),OQ ⟨hb1,hb2⟩];have hcut:=xn cD s (a+w);have hwn:=iU cD s (a+w);have hsplit:(s.drop a).drop w=((s.drop (a+w)).takeWhile fun b=>cD (bI b))++((s.drop (a+w)).dropWhile fun b=>cD (bI b)):=by rw[Qj];exact QI.symm
  have hx:∀c∈((s.drop (a+w)).takeWhile fun b=>cD (bI b)),bI c≠10:=fun c h=>by have:=F8 (p:=fun b=>cD (bI b)) h;simpa[cD]using this
  have hz:∀c z',((s.drop (a+w)).dropWhile fun b=>cD (bI b))=c::z'->bI c=10:=fun c z' h=>by have:=zk (p:=fun b=>cD (bI b)) h;simpa[cD]using this
  have hone:1<=((s.drop (a+w)).takeWhile fun b=>cD (bI b)).length:=by
   have:=cU (pr:=cD) (s:=s) (a:=((a+w:Nat):Int)) (by omega) (by omega) (by
    have:s.getD (((a+w:Nat):Int)).toNat 0=(s.drop a).getD w 0:=by rw[OW,fT]
    rw[this,r2];decide)
   omega
  have hle:a+w+((s.drop (a+w)).takeWhile fun b=>cD (bI b)).length<=s.length:=by have:=(Qv (fun b=>cD (bI b)) (l:=s.drop (a+w))).length_le;rw[Pq]at this;omega
  have hmove:∀o e' fa' (y:Nat),cG ⟨((a+w:Nat):Int),o,e',fa'⟩ (((a+w:Nat):Int)+(y:Int))=⟨((a+w+y:Nat):Int),o,e',fa'⟩:=fun o e' fa' y=>by unfold cG;congr 1
  show(match dv (cut s ((a+w:Nat):Int) (((a+w:Nat):Int)+(aj cD s ((a+w:Nat):Int):Int)))with
   |some k=>(([]:List Tokn),(⟨30,((a+w:Nat):Int)+(k:Int)⟩:Flt))
   |none=>fy s m (cG ⟨((a+w:Nat):Int),out,e,fa⟩ (((a+w:Nat):Int)+(aj cD s ((a+w:Nat):Int):Int))))=_
  rw[hcut,hwn,hmove];generalize ((s.drop (a+w)).takeWhile fun b=>cD (bI b))=x at *
  generalize ((s.drop (a+w)).dropWhile fun b=>cD (bI b))=z at *
  have hrem:=vl hsplit hx hz 0 ((s.drop a).length+1) (OY _) (by omega);simp only[Qt,pb]at hrem;rw[<-hP]at hrem
  cases he:dv x with|some k=>rw[he]at hrem;rw[hrem,OQ (by show ¬(30:Int)=0;decide)];show(([]:List Tokn),(⟨30,((a+w:Nat):Int)+(k:Int)⟩:Flt))=([],⟨30,(a:Int)+((w+k:Nat):Int)⟩);congr 2;omega|none=>rw[he]at hrem;rw[hrem,OP (by show ¬¬(0:Int)=0;simp),OQ (by show(0:Int)<((w+x.length:Nat):Int);omega)];have:=oA s (a+w+x.length) m f out e fa (by omega) (by omega) (by omega);show fy s m ⟨((a+w+x.length:Nat):Int),out,e,fa⟩=fG s f (a+((w+x.length:Nat):Int).toNat) out;rw[this,OW,Qd]
termination_by s.length-a
decreasing_by all_goals omega
theorem ry(s:Str):fS s=bB s:=by
 unfold fS bB;by_cases h:4096<s.length
 ·rw[OQ h,OQ h]
 ·rw[OP h,OP h];exact(oA s 0 (s.length+2) (s.length+2) [] 0 0 (OY _) (by omega) (by omega)).symm
end Go.Pd
end
section
namespace Go.Pd
open Go.AL
def TX(s:Str)(x:TK3):Prop:=x.1.text.length<=s.length
theorem nQ(s:Str):TX s nF:=OY _
theorem kV(s:Str):∀(f:Nat)(acc:Str)(i:Nat),i<=s.length->acc.length<=i->TX s (bu s f acc i)
 |0,_,_,_,_=>nQ s
 |f+1,acc,i,h,ha=>by
  unfold bu;split
  ·split
   ·exact Q5 ha h
   split
   ·exact nQ s
   split
   ·split
    ·exact nQ s
    split
    ·exact nQ s
    ·exact kV s f _ _ (by omega) (by rw[OT,OS];omega)
   split
   ·exact OY _
   ·exact kV s f _ _ (j0 h) (by rw[OT,Qb];omega)
  ·exact nQ s
theorem Cp(s:Str)(h:0<s.length):TX s (cb s):=by
 have tk:∀n:Nat,(s.take n).length<=s.length:=fun n=>by rw[Qb];omega
 unfold cb;split
 ·unfold mm
  repeat' split
  all_goals first|exact tk _|exact nQ s
 split
 ·unfold mo
  repeat' split
  all_goals first|exact tk _|exact nQ s
 split
 ·exact kV s _ _ _ h (OY _)
 ·unfold oh
  repeat' split
  all_goals first|exact tk _|exact nQ s
theorem nR(s:Str):∀(f a:Nat)(out:List Tokn),(∀t∈out,t.text.length<=s.length)->∀t∈(fG s f a out).1,t.text.length<=s.length
 |0,a,out,h=>fun t ht=>by cases ht
 |f+1,a,out,h=>by
  unfold fG;split
  ·rename_i ha;split
   ·exact fun t ht=>by cases ht
   split
   ·exact nR s f _ _ h
   split
   ·exact fun t ht=>by cases ht
   ·refine nR s f _ _ (fun t ht=>?_);rcases Pz.1 ht with k|k
    ·exact h t k
    ·rw[Px.1 k];have:=Cp (s.drop a) (by rw[Pq];omega);unfold TX at this;rw[Pq]at this;show(cb (s.drop a)).1.text.length<=_;omega
  ·intro t ht;rcases Pz.1 ht with k|k
   ·exact h t k
   ·rw[Px.1 k];exact OY _
theorem Cq(s:Str):jq (bB s).1:=by
 intro t ht;rw[<-ry]at ht;unfold fS at ht;split at ht
 ·cases ht
 ·rename_i c;have:=nR s _ _ [] (fun t ht=>by cases ht) t ht;omega
def Fa(l:List Tokn)(a:Int):Shape×Int×Flt:=
 if(fB l a).2.err=0 then(if(cE l (fB l a).1).2.2.err=0 then cE l (fB l a).1 else(tO,0,(cE l (fB l a).1).2.2))else(tO,0,(fB l a).2)
def kW(l:List Tokn)(a:Int):Flt:=
 if(aa l 5000 a).2.2.err=0/\(bJ (aa l 5000 a).1=3∨bJ (aa l 5000 a).1=91)then⟨bJ (aa l 5000 a).1,(az l a).pos⟩else(aa l 5000 a).2.2
def Fb(l:List Tokn)(a:Int):Trm×Int×Flt:=
 if(fB l a).2.err=0 then(if(kW l (fB l a).1).err=0 then((aa l 5000 (fB l a).1).1,(aa l 5000 (fB l a).1).2.1,kW l (fB l a).1)else(oM,0,kW l (fB l a).1))else(oM,0,(fB l a).2)
theorem mG(l:List Tokn)(a:Int):((fB l a).2.err=0/\fB l a=(a,okF)/\bH l a=st l a/\0<=a/\a<=(l.length:Int)/\l.length<=4097)∨(¬(fB l a).2.err=0/\b7 (bH l a)=true/\(⟨(bH l a).err,(bH l a).fat⟩:Flt)=(fB l a).2):=by
 unfold fB bH;by_cases c:a<0∨(l.length:Int)<a
 ·rw[OQ c,OQ c];exact .inr ⟨by show ¬(2:Int)=0;decide,rfl,rfl⟩
 ·rw[OP c,OP c];by_cases d:4097<l.length
  ·rw[OQ d,OQ d];exact .inr ⟨by show ¬(3:Int)=0;decide,rfl,rfl⟩
  ·rw[OP d,OP d];exact .inl ⟨rfl,rfl,rfl,by omega,by omega,by omega⟩
theorem LW{f g:Flt}(h1:f.err=g.err)(h2:f.pos=g.pos):f=g:=by cases f;cases g;simp_all
theorem LX{α:Type}{z:α}{l:List Tokn}{p:α×Par}{r:α×Int×Flt}(h:Rel l p r)(hz:Zf r.2.2):pZ z p=if r.2.2.err=0 then r else(z,0,r.2.2):=by
 unfold Rel at h;by_cases e:r.2.2.err=0
 ·rw[OQ e]at h;rw[OQ e,h];have e2:r=(r.1,r.2.1,okF):=by rw[<-hz e]
  conv=>rhs;rw[e2]
  rfl
 ·rw[OP e]at h;rw[OP e];unfold pZ;rw[OQ (cP.2 (by rw[h.1];exact e))];rw[show(⟨p.2.err,p.2.fat⟩:Flt)=r.2.2 from LW h.1 h.2]
theorem IU(l:List Tokn)(a:Int):Fa l a=eV l a:=by
 unfold Fa eV;rcases mG l a with⟨h1,h2,h3,_⟩|⟨h1,h2,h3⟩
 ·rw[OQ h1,h2,h3,OP (show ¬b7 (st l a)=true by simp[b7]),LX (ox l a) (Cj a)]
 ·rw[OP h1,OQ h2,h3]
theorem IV{l:List Tokn}(hT:jq l)(a:Int):Fb l a=bE l a:=by
 unfold Fb bE;rcases mG l a with⟨h1,h2,h3,_⟩|⟨h1,h2,h3⟩
 ·rw[OQ h1,h2,h3,OP (show ¬b7 (st l a)=true by simp[b7])];unfold FM;rw[h3];have hr:=nM l 5000 a;have hz:=(zj hT 5000 a).2;have nb:∀b:Int,¬b7 (st l b)=true:=fun b=>by simp[b7]
  simp only;rcases hr.elim with⟨e,g⟩|⟨e,gb,g⟩
  ·rw[g];by_cases c:bJ (aa l 5000 a).1=3∨bJ (aa l 5000 a).1=91
   ·have hE:kW l a=⟨bJ (aa l 5000 a).1,(az l a).pos⟩:=by unfold kW;rw[OQ ⟨e,c⟩]
    have hne:¬bJ (aa l 5000 a).1=0:=by rcases c with c|c<;>rw[c]<;>decide
    rw[hE,OP (show ¬(⟨bJ (aa l 5000 a).1,(az l a).pos⟩:Flt).err=0 from hne)];simp only;rw[OP (nb _),OQ c];unfold pZ dr;rw[OQ (show((st l (aa l 5000 a).2.1).err=0)from rfl),OQ (cP.2 hne)];rfl
   ·have hE:kW l a=(aa l 5000 a).2.2:=by unfold kW;rw[OP (fun q=>c q.2)]
    rw[hE,OQ e];simp only;rw[OP (nb _),OP c,hz e];rfl
  ·have hE:kW l a=(aa l 5000 a).2.2:=by unfold kW;rw[OP (fun q=>e q.1)]
   rw[hE,OP e,OQ (cP.2 gb)];unfold pZ;rw[OQ (cP.2 gb)];rw[show(⟨(a7 5000 (st l a)).2.err,(a7 5000 (st l a)).2.fat⟩:Flt)=(aa l 5000 a).2.2 from LW g.1 g.2]
 ·rw[OP h1,OQ h2,h3]
theorem Cr{l:List Tokn}(hT:jq l)(hl:l.length<=4097){a:Int}(e:(aa l 5000 a).2.2.err=0):gn (aa l 5000 a).1=true:=by have h1:=(zj hT 5000 a).1;have h2:=(uc hl 5000 (st l a) rfl).1;have hr:=nM l 5000 a;unfold Rel at hr;rw[OQ e]at hr;rw[hr]at h2;exact LU h1 h2
theorem Fc{l:List Tokn}{a:Int}(h0:0<=a)(h1:a<(l.length:Int)):(if a=(l.length:Int)-1 then(⟨0,0⟩:Flt)else gW l a)=cC l a:=by unfold cC gW az;rw[OQ h1]
end Go.Pd
end
section
namespace Go.Pd
open Go.AL
def vo(F:Str->Shape×Flt)(G:Str->Trm×Flt):Bool:=
 decide ((F [40,73,110,116,44,32,91,75,101,121,93,41,32,45,62,32,123,97,58,32,113,47,73,100,125]).2.err=0)&&
 decide ((F [40,73,110,116,44,32,91,75,101,121,93,41,32,45,62,32,123,97,58,32,113,47,73,100,125]).1.kind=8)&&
 decide ((F [40,73,110,116,44,32,91,75,101,121,93,41,32,45,62,32,123,97,58,32,113,47,73,100,125]).1.parts.length=3)&&
 decide ((F [123,97,58,32,73,110,116,44,32,97,58,32,73,110,116,125]).2.err=111)&&
 decide ((F [123,97,58,32,73,110,116,44,32,97,58,32,73,110,116,125]).2.pos=9)&&
 decide ((G [102,46,97,40,49,41]).2.err=0)&&
 decide ((G [102,46,97,40,49,41]).1.kind=7)&&
 decide ((G [102,46,97,40,49,41]).1.parts.length=2)&&
 decide (((G [102,46,97,40,49,41]).1.parts.getD 1 (dfl (.st .term))).pos=4)&&
 decide ((G [91,73,110,116]).2.err=90)
set_option maxRecDepth 100000 in
theorem Fe:vo kf kg=true:=by decide+kernel
end Go.Pd
end
section
open Go Go.AL Go.Pd
namespace Go.AL.Seat
theorem IW(l:List Tokn)(a:Int)(hl:Wf (.lst (.st .token)) l)(hN:aO l) :
  let A:=fB l a;let B:=(0:Int);let C:=eV l a;let D:=B=C.1.kind;let E:=[]=C.1.pkg;let F:=[]=C.1.name;let G:=C.1.names=[];let H:=C.1.parts=[];let I:=cE l A.1;let J:=I.2.2=C.2.2/\True;if(!decide (A.2.err=B))=true then True/\D/\E/\F/\G/\H/\B=C.2.1/\A.2=C.2.2/\True else(List.length l<=(4097:Nat)/\aO l/\B<=A.1/\A.1<=(↑(List.length l):Int))/\if(!decide (I.2.2.err=B))=true then True/\D/\E/\F/\G/\H/\B=C.2.1/\J else True/\I.1=C.1/\I.2.1=C.2.1/\J:=by
 conv=>zeta
 obtain⟨G,hG⟩:∃G,G=eV l a:=⟨_,rfl⟩;rw[<-hG];rw[<-IU]at hG;unfold Fa at hG;rcases mG l a with⟨h1,h2,_,h3,h4,h5⟩|⟨h1,_⟩
 ·rw[OQ h1]at hG;refine a6 (fun k=>absurd h1 (by simpa using k)) (fun _=>?_);have e1:(fB l a).1=a:=by rw[h2]
  rw[e1]at hG⊢;refine⟨⟨h5,hN,by omega,by omega⟩,a6 (fun k=>?_) (fun k=>?_)⟩
  ·have k:¬(cE l a).2.2.err=0:=by simpa using k
   rw[OP k]at hG;rw[hG]
   repeat' (first|exact trivial|rfl|apply And.intro)
  ·have k:(cE l a).2.2.err=0:=by simpa using k
   rw[OQ k]at hG;rw[hG]
   repeat' (first|exact trivial|rfl|apply And.intro)
 ·rw[OP h1]at hG;refine a6 (fun _=>?_) (fun k=>absurd (by simpa using k) h1);rw[hG]
  repeat' (first|exact trivial|rfl|apply And.intro)
theorem IX(l:List Tokn)(a:Int)(hl:Wf (.lst (.st .token)) l)(hN:aO l/\jq l) :
  let A:=fB l a;let B:=(0:Int);let C:=True;let D:=bE l a;let E:=B=D.1.kind;let F:=[]=D.1.pkg;let G:=[]=D.1.name;let H:=B=D.1.n;let I:=D.1.names=[];let J:=D.1.vars=[];let K:=D.1.shapes=[];let L:=D.1.parts=[];let M:=B=D.1.pos;let N:=B=D.2.1;let O:=(↑(List.length l):Int);let P:=(aa l (5000:Nat) A.1);let Q:=bJ P.1=D.2.2.err/\(az l A.1).pos=D.2.2.pos/\C;let R:=P.2.1=D.2.1;let S:=B<=A.1/\if(!decide (bJ P.1=B))=true then C/\E/\F/\G/\H/\I/\J/\K/\L/\M/\N/\Q else C/\P.1=D.1/\R/\Q;let T:=P.2.2=D.2.2/\C;let U:=if(!decide (P.2.2.err=B))=true then C/\E/\F/\G/\H/\I/\J/\K/\L/\M/\N/\T else C/\P.1=D.1/\R/\T;if(!decide (A.2.err=B))=true then C/\E/\F/\G/\H/\I/\J/\K/\L/\M/\N/\A.2=D.2.2/\C else(List.length l<=(4097:Nat)/\aO l/\B<=A.1/\A.1<=O/\Int.toNat (O-A.1)+(1:Nat)<(5000:Nat))/\if decide (P.2.2.err=B)=true then gn P.1=true/\if decide (bJ P.1=(3:Int))=true then S else if decide (bJ P.1=(91:Int))=true then S else U else U:=by
 conv=>zeta
 obtain⟨hN,hT⟩:=hN;obtain⟨G,hG⟩:∃G,G=bE l a:=⟨_,rfl⟩;rw[<-hG];rw[<-IV hT]at hG;unfold Fb at hG;rcases mG l a with⟨h1,h2,_,h3,h4,h5⟩|⟨h1,_⟩
 ·rw[OQ h1]at hG;refine a6 (fun k=>absurd h1 (by simpa using k)) (fun _=>?_);have e1:(fB l a).1=a:=by rw[h2]
  rw[e1]at hG⊢;have hs:=Cr hT h5 (a:=a);unfold kW at hG;generalize aa l 5000 a=x at hG hs⊢;generalize (az l a).pos=p at hG⊢;refine⟨⟨h5,hN,by omega,by omega,by omega⟩,a6 (fun k=>?_) (fun k=>?_)⟩
  ·replace k:=Xo k
   have big:∀c:bJ x.1=3∨bJ x.1=91,G=(oM,0,⟨bJ x.1,p⟩)/\¬bJ x.1=0:=fun c=>by
    have hne:¬bJ x.1=0:=by rcases c with c|c<;>rw[c]<;>decide
    rw[OQ (show x.2.2.err=0/\(bJ x.1=3∨bJ x.1=91)from⟨k,c⟩),OP (show ¬(⟨bJ x.1,p⟩:Flt).err=0 from hne)]at hG;exact⟨hG,hne⟩
   refine⟨hs k,a6 (fun c=>?_) (fun c=>?_)⟩
   ·obtain⟨g,hne⟩:=big (.inl (Xo c));refine⟨h3,a6 (fun _=>?_) (fun q=>absurd (by simpa using q) hne)⟩;rw[g]
    repeat' (first|exact trivial|rfl|apply And.intro)
   apply a6<;>intro d
   ·obtain⟨g,hne⟩:=big (.inr (Xo d));refine⟨h3,a6 (fun _=>?_) (fun q=>absurd (by simpa using q) hne)⟩;rw[g]
    repeat' (first|exact trivial|rfl|apply And.intro)
   have e:¬(x.2.2.err=0/\(bJ x.1=3∨bJ x.1=91)):=fun q=>q.2.elim (fun e=>c (Xd e)) (fun e=>d (Xd e));rw[OP e,OQ k]at hG;refine a6 (fun q=>absurd k (by simpa using q)) (fun _=>?_);rw[hG]
   repeat' (first|exact trivial|rfl|apply And.intro)
  ·have k:¬x.2.2.err=0:=fun e=>k (Xd e);rw[OP (fun q:x.2.2.err=0/\(bJ x.1=3∨bJ x.1=91)=>k q.1),OP k]at hG;refine a6 (fun _=>?_) (fun q=>absurd (by simpa using q) k);rw[hG]
   repeat' (first|exact trivial|rfl|apply And.intro)
 ·rw[OP h1]at hG;refine a6 (fun _=>?_) (fun k=>absurd (by simpa using k) h1);rw[hG]
  repeat' (first|exact trivial|rfl|apply And.intro)
theorem Cs(l:List Tokn)(a:Int)(hl:Wf (.lst (.st .token)) l)(ho:0<=a/\a<(l.length:Int)) :
  let A:=(↑(List.length l):Int);let B:=(0:Int);inR IntKind.i64 (A-(1:Int))/\if decide (a=A-(1:Int))=true then True/\B=(cC l a).err/\B=(cC l a).pos/\True else B<=a/\True/\gW l a=cC l a/\True:=by
 conv=>zeta
 have hb:=Fc ho.1 ho.2;have ln:=hl.len;refine⟨ak (by omega) (by omega),a6 (fun k=>?_) (fun k=>?_)⟩
 ·rw[OQ (Xo k)]at hb;rw[<-hb];exact Xr
 ·rw[OP (fun e=>k (Xd e))]at hb;exact⟨ho.1,trivial,hb,trivial⟩
theorem w4(s:Str)(hs:Wf .str s) :
  let A:=fS s;let B:=(0:Int);let C:=True;let D:=kf s;let E:=B=D.1.kind;let F:=[]=D.1.pkg;let G:=[]=D.1.name;let H:=D.1.names=[];let I:=D.1.parts=[];let J:=eV A.1 B;let K:=cC A.1 J.2.1=D.2/\C;let L:=J.2.2=D.2/\C;if(!decide (A.2.err=B))=true then C/\E/\F/\G/\H/\I/\A.2=D.2/\C else aO A.1/\if decide (J.2.2.err=B)=true then(B<=J.2.1/\J.2.1<(↑(List.length A.1):Int))/\if(!decide ((cC A.1 J.2.1).err=B))=true then C/\E/\F/\G/\H/\I/\K else C/\J.1=D.1/\K else if(!decide (J.2.2.err=B))=true then C/\E/\F/\G/\H/\I/\L else C/\J.1=D.1/\L:=by
 conv=>zeta
 have e0:kf s=oQ tO (fun l=>eV l 0) s:=rfl;unfold oQ at e0;simp only at e0;rw[ry];apply a6<;>intro h
 ·have h:¬(bB s).2.err=0:=by simpa using h
  rw[OP h]at e0;rw[e0]
  repeat' (first|exact trivial|rfl|apply And.intro)
 have h:(bB s).2.err=0:=by simpa using h
 rw[OQ h]at e0;have hN:=mj h;obtain⟨l1,l2⟩:=ml h;refine⟨hN,a6 (fun k=>?_) (fun k=>?_)⟩
 ·replace k:=Xo k;rw[OQ k]at e0;refine⟨wL hN l1 l2 k,a6 (fun j=>?_) (fun j=>?_)⟩
  ·have j:¬(cC (bB s).1 (eV (bB s).1 0).2.1).err=0:=by simpa using j
   rw[OP j]at e0;rw[e0]
   repeat' (first|exact trivial|rfl|apply And.intro)
  ·have j:(cC (bB s).1 (eV (bB s).1 0).2.1).err=0:=by simpa using j
   rw[OQ j]at e0;rw[e0]
   repeat' (first|exact trivial|rfl|apply And.intro)
 ·have k:¬(eV (bB s).1 0).2.2.err=0:=fun e=>k (Xd e);rw[OP k]at e0;refine a6 (fun _=>?_) (fun j=>absurd (by simp[k]) j);rw[e0]
  repeat' (first|exact trivial|rfl|apply And.intro)
theorem w5(s:Str)(hs:Wf .str s) :
  let A:=fS s;let B:=(0:Int);let C:=True;let D:=kg s;let E:=B=D.1.kind;let F:=[]=D.1.pkg;let G:=[]=D.1.name;let H:=B=D.1.n;let I:=D.1.names=[];let J:=D.1.vars=[];let K:=D.1.shapes=[];let L:=D.1.parts=[];let M:=B=D.1.pos;let N:=bE A.1 B;let O:=cC A.1 N.2.1=D.2/\C;let P:=N.2.2=D.2/\C;if(!decide (A.2.err=B))=true then C/\E/\F/\G/\H/\I/\J/\K/\L/\M/\A.2=D.2/\C else(aO A.1/\jq A.1)/\if decide (N.2.2.err=B)=true then(B<=N.2.1/\N.2.1<(↑(List.length A.1):Int))/\if(!decide ((cC A.1 N.2.1).err=B))=true then C/\E/\F/\G/\H/\I/\J/\K/\L/\M/\O else C/\N.1=D.1/\O else if(!decide (N.2.2.err=B))=true then C/\E/\F/\G/\H/\I/\J/\K/\L/\M/\P else C/\N.1=D.1/\P:=by
 conv=>zeta
 have e0:kg s=oQ oM (fun l=>bE l 0) s:=rfl;unfold oQ at e0;simp only at e0;rw[ry];apply a6<;>intro h
 ·have h:¬(bB s).2.err=0:=by simpa using h
  rw[OP h]at e0;rw[e0]
  repeat' (first|exact trivial|rfl|apply And.intro)
 have h:(bB s).2.err=0:=by simpa using h
 rw[OQ h]at e0;have hN:=mj h;obtain⟨l1,l2⟩:=ml h;refine⟨⟨hN,Cq s⟩,a6 (fun k=>?_) (fun k=>?_)⟩
 ·replace k:=Xo k;rw[OQ k]at e0;refine⟨uh hN l1 l2 k,a6 (fun j=>?_) (fun j=>?_)⟩
  ·have j:¬(cC (bB s).1 (bE (bB s).1 0).2.1).err=0:=by simpa using j
   rw[OP j]at e0;rw[e0]
   repeat' (first|exact trivial|rfl|apply And.intro)
  ·have j:(cC (bB s).1 (bE (bB s).1 0).2.1).err=0:=by simpa using j
   rw[OQ j]at e0;rw[e0]
   repeat' (first|exact trivial|rfl|apply And.intro)
 ·have k:¬(bE (bB s).1 0).2.2.err=0:=fun e=>k (Xd e);rw[OP k]at e0;refine a6 (fun _=>?_) (fun j=>absurd (by simp[k]) j);rw[e0]
  repeat' (first|exact trivial|rfl|apply And.intro)
theorem IY(F:Str->Shape×Flt)(G:Str->Trm×Flt)  :
  let A:=(F ([40,73,110,116,44,32,91,75,101,121,93,41,32,45,62,32,123,97,58,32,113,47,73,100,125]:Str));let B:=(0:Int);let C:=(F ([123,97,58,32,73,110,116,44,32,97,58,32,73,110,116,125]:Str));let D:=(G ([102,46,97,40,49,41]:Str));let E:=(↑(List.length D.1.parts):Int);let H:=(1:Int);let I:=True/\false=vo F G/\True;if decide (A.2.err=B)=true then if decide (A.1.kind=(8:Int))=true then if decide ((↑(List.length A.1.parts):Int)=(3:Int))=true then if(decide (C.2.err=(111:Int))&&(decide (C.2.pos=(9:Int))&&true))=true then if decide (D.2.err=B)=true then if decide (D.1.kind=(7:Int))=true then if decide (E=(2:Int))=true then(B<=H/\H<E)/\if decide ((List.getD D.1.parts (Int.toNat H) (dfl (Ty.st SN.term))).pos=(4:Int))=true then True/\decide ((G ([91,73,110,116]:Str)).2.err=(90:Int))=vo F G/\True else I else I else I else I else I else I else I else I:=by
 conv=>zeta
 unfold vo;simp only[Qc,PD,Pu,Int.toNat_one];apply a6<;>intro h1
 ·rw[h1];apply a6<;>intro h2
  ·rw[h2];apply a6<;>intro h3
   ·have h3n:=Xo h3;rw[Xd (show _=3 by omega)];apply a6<;>intro h4
    ·rw[OU,Qe]at h4;rw[h4.1,h4.2];apply a6<;>intro h5
     ·rw[h5];apply a6<;>intro h6
      ·rw[h6];apply a6<;>intro h7
       ·have h7n:=Xo h7;rw[Xd (show _=2 by omega)];refine⟨by omega,a6 (fun h8=>?_) (fun h8=>?_)⟩
        ·rw[h8];simp
        ·rw[Pv]at h8;rw[h8];simp
       ·rw[Xf (fun e=>h7 (Xd (by omega)))];simp
      ·rw[Pv]at h6;rw[h6];simp
     ·rw[Pv]at h5;rw[h5];simp
    ·rw[Pv,Qe,QX]at h4;rcases h4 with h4|h4<;>rw[h4]<;>simp
   ·rw[Xf (fun e=>h3 (Xd (by omega)))];simp
  ·rw[Pv]at h2;rw[h2];simp
 ·rw[Pv]at h1;rw[h1];simp
theorem vp(F:Str->Shape×Flt)(G:Str->Trm×Flt)(s:Str)(hs:Wf .str s) :
  let A:=F s;let B:=G s;let C:=True/\false=true/\True;sz A.1<=sz A.1/\if eqS A.1 A.1=true then if(decide (A.2.err=A.2.err)&&(decide (A.2.pos=A.2.pos)&&true))=true then szT B.1<=szT B.1/\if eqT B.1 B.1 true=true then if(decide (B.2.err=B.2.err)&&(decide (B.2.pos=B.2.pos)&&true))=true then True/\true=true/\True else C else C else C else C:=by
 conv=>zeta
 refine⟨P1 _,?_⟩;rw[eqS_self,OQ rfl,OQ (by simp)];refine⟨P1 _,?_⟩;rw[eqT_self,OQ rfl,OQ (by simp)];exact Xr
end Go.AL.Seat
end
section
open Go Go.AL Go.Proofs Go.Shelf Go.Pd
namespace Go.AL.Seat
open Go.Proofs.Tryz
variable [Tabs]
variable [SeatLaid]
theorem Ff:ab prog 13 (p2 (.lst (.st .token)) (.int .i64) fun l a=>⟨some (aO l),none,.tup [.st .shape (eV l a).1,.int .i64 (eV l a).2.1,.st .fault (eV l a).2.2],[]⟩):=
 dy (ee func13) fun l a hl _ ho=>g0 (sc uT (sc kO sn)) a0 func13 (IW l a hl (ho _ rfl))
theorem Fg:ab prog 16 (p2 (.lst (.st .token)) (.int .i64) fun l a=>⟨some (aO l/\jq l),none,.tup [.st .term (bE l a).1,.int .i64 (bE l a).2.1,.st .fault (bE l a).2.2],[]⟩):=
 dy (ee func16) fun l a hl _ ho=>g0 (sc uT (sc (vd 5000) (sc F6 (sc fD sn)))) a0 func16 (IX l a hl (ho _ rfl))
theorem qy:ab prog 44 (p2 (.lst (.st .token)) (.int .i64) fun l a=>⟨some (0<=a/\a<(l.length:Int)),none,.st .fault (cC l a),[]⟩):=
 dy (ee func44) fun l a hl _ ho=>g0 (sc lO sn) a0 func44 (Cs l a hl (ho _ rfl))
theorem vq:ab prog 19 ON:=
 ba (ee func19) fun s hs _=>g0 (sc xb (sc Ff (sc qy sn))) a0 func19 (w4 s hs)
theorem vr:ab prog 21 OO:=
 ba (ee func21) fun s hs _=>g0 (sc xb (sc Fg (sc qy sn))) a0 func21 (w5 s hs)
theorem IZ:aA prog 11:=ee func11
def OH(F:Str->Shape×Flt):=p1 .str fun s=>.ret (.tup [.st .shape (F s).1,.st .fault (F s).2])
def OJ(G:Str->Trm×Flt):=p1 .str fun s=>.ret (.tup [.st .term (G s).1,.st .fault (G s).2])
theorem zl(F:Str->Shape×Flt)(G:Str->Trm×Flt) (hF:ab prog 18 (OH F))(hG:ab prog 20 (OJ G)):aB prog 11 [] [] (.ret (.bool (vo F G))):=
 g0 (sc (hF) (sc (hG) sn)) a0 func11 (IY F G)
theorem Fh:ab prog 11 (p0 (.ret (.bool true))):=Oq IZ (Fe ▸ zl kf kg qe qf)
theorem qz(F:Str->Shape×Flt)(G:Str->Trm×Flt)(s:Str)(hs:Wf .str s)(hF:ab prog 18 (OH F))(hG:ab prog 20 (OJ G))(hH:ab prog 19 (OH F))(hK:ab prog 21 (OJ G)):aB prog 5 [.str s] [] (.ret (.bool true)):=
 g0 (sc (hF) (sc (hG) (sc (hH) (sc (hK) (sc (Fh) (sc (uS (sz (F s).1)) (sc (F7 (szT (G s).1)) sn))))))) a0 func5 (vp F G s hs)
end Go.AL.Seat
end
