/- What the functions' conditions say, proved. The contracts of the functions. Plain facts. No condition. -/
import Derived.Test.YtdmbjejhifjhbaaGreatDoorT07
set_option linter.all false
set_option maxRecDepth 100000
section
open Go Go.AL Go.Pd
namespace Go.AL.Seat
theorem Ij(n:Nat)(a b:Trm)(p:Bool)(ha:Wf (.st .term) a)(hb:Wf (.st .term) b)(hn:szT a<=n+1) :
  let A:=True/\false=eqT a b p/\True;let B:=(↑(List.length a.shapes):Int);let C:=(↑(List.length b.shapes):Int);let D:=(↑(List.length a.parts):Int);let E:=(↑(List.length b.parts):Int);let F:=List.length a.shapes=List.length b.shapes;let G:=List.length a.parts=List.length b.parts;let H:=(0:Int);let I:=false=false;let J:=I/\I/\a=a/\b=b/\True;let K:=a=a/\b=b/\p=p/\J;let L:=dfl (Ty.st SN.shape);let M:=(1:Int);let N:=a=a/\b=b/\p=p/\I/\J;let O:=dfl (Ty.st SN.term);let P:=if(!decide (a.names=b.names))=true then A else if(!decide (a.vars=b.vars))=true then A else if(!decide (B=C))=true then A else if(!decide (D=E))=true then A else(∃(x:Nat),(x<=List.length a.shapes/\F/\G/\eqT a b p=(eqL (List.drop x a.shapes) (List.drop x b.shapes)&&eqTL a.parts b.parts p))/\H=(↑x:Int)/\K)/\∀(x:Nat),let Q:=(↑x:Int);let R:=List.getD a.shapes (Int.toNat Q) L;x<=List.length a.shapes/\F/\G/\eqT a b p=(eqL (List.drop x a.shapes) (List.drop x b.shapes)&&eqTL a.parts b.parts p)->if decide (Q<B)=true then(H<=Q/\Q<B)/\(H<=Q/\Q<C)/\sz R<=szL a.shapes/\if(!eqS R (List.getD b.shapes (Int.toNat Q) L))=true then A else inR IntKind.i64 (Q+M)/\∃(y:Nat),(y<=List.length a.shapes/\F/\G/\eqT a b p=(eqL (List.drop y a.shapes) (List.drop y b.shapes)&&eqTL a.parts b.parts p))/\List.length a.shapes-y<List.length a.shapes-x/\Q+M=(↑y:Int)/\K else(∃(x_1:Nat),(x_1<=List.length a.parts/\G/\eqT a b p=eqTL (List.drop x_1 a.parts) (List.drop x_1 b.parts) p)/\H=(↑x_1:Int)/\Q=Q/\N)/\∀(x_1:Nat),let S:=(↑x_1:Int);let T:=List.getD a.parts (Int.toNat S) O;x_1<=List.length a.parts/\G/\eqT a b p=eqTL (List.drop x_1 a.parts) (List.drop x_1 b.parts) p->if decide (S<D)=true then(H<=S/\S<D)/\(H<=S/\S<E)/\szT T<=n/\if(!eqT T (List.getD b.parts (Int.toNat S) O) p)=true then A else inR IntKind.i64 (S+M)/\∃(y:Nat),(y<=List.length a.parts/\G/\eqT a b p=eqTL (List.drop y a.parts) (List.drop y b.parts) p)/\List.length a.parts-y<List.length a.parts-x_1/\S+M=(↑y:Int)/\Q=Q/\N else True/\true=eqT a b p/\True;if(!decide (a.kind=b.kind))=true then A else if(!decide (a.pkg=b.pkg))=true then A else if(!decide (a.name=b.name))=true then A else if(!decide (a.n=b.n))=true then A else if p=true then if(!decide (a.pos=b.pos))=true then A else P else P:=by
 conv=>zeta
 have lnS:=ha.term_shapes.len;have lnP:=ha.term_parts.len;have hz:=mW a;simp only[OH,PO,Ph,Pb];refine a6 (fun h=>?_) (fun h1=>?_)
 ·have h:¬a.kind=b.kind:=by simpa using h
  rw[gB,Xf h];simp
 have h1:a.kind=b.kind:=by simpa using h1
 refine a6 (fun h=>?_) (fun h2=>?_)
 ·have h:¬a.pkg=b.pkg:=by simpa using h
  rw[gB,Xf h];simp
 have h2:a.pkg=b.pkg:=by simpa using h2
 refine a6 (fun h=>?_) (fun h3=>?_)
 ·have h:¬a.name=b.name:=by simpa using h
  rw[gB,Xf h];simp
 have h3:a.name=b.name:=by simpa using h3
 refine a6 (fun h=>?_) (fun h4=>?_)
 ·have h:¬a.n=b.n:=by simpa using h
  rw[gB,Xf h];simp
 have h4:a.n=b.n:=by simpa using h4
 apply a6<;>intro hp
 ·refine a6 (fun h=>?_) (fun h5=>?_)
  ·have h:¬a.pos=b.pos:=by simpa using h
   rw[gB,Xf h,hp];simp
  have h5:a.pos=b.pos:=by simpa using h5
  have h5:(!p||decide (a.pos=b.pos))=true:=by rw[Xd h5,PN]
  refine a6 (fun h=>?_) (fun h6=>?_)
  ·have h:¬a.names=b.names:=by simpa using h
   rw[gB,Xf h];simp
  have h6:a.names=b.names:=by simpa using h6
  refine a6 (fun h=>?_) (fun h7=>?_)
  ·have h:¬a.vars=b.vars:=by simpa using h
   rw[gB,Xf h];simp
  have h7:a.vars=b.vars:=by simpa using h7
  refine a6 (fun h=>?_) (fun h8=>?_)
  ·have h:¬(a.shapes.length:Int)=b.shapes.length:=by simpa using h
   rw[gB,rX (by omega)];simp
  have h8:(a.shapes.length:Int)=b.shapes.length:=by simpa using h8
  refine a6 (fun h=>?_) (fun h9=>?_)
  ·have h:¬(a.parts.length:Int)=b.parts.length:=by simpa using h
   rw[gB,uE (by omega)];simp
  have h9:(a.parts.length:Int)=b.parts.length:=by simpa using h9
  have hS:a.shapes.length=b.shapes.length:=by omega
  have hP:a.parts.length=b.parts.length:=by omega
  have e0:eqT a b p=(eqL a.shapes b.shapes&&eqTL a.parts b.parts p):=by rw[gB,Xd h1,Xd h2,Xd h3,Xd h4,h5,Xd h6,Xd h7];simp
  refine⟨⟨0,⟨OJ _,hS,hP,e0⟩,rfl⟩,?_⟩;rintro k ⟨q1,_,_,q4⟩;apply a6<;>intro h
  ·replace h:=Xo h;have hk:k<a.shapes.length:=by omega
   have hk':k<b.shapes.length:=by omega
   have hm:=jU (bO a.shapes k (dfl (.st .shape)) hk);rw[aJ a.shapes k (dfl (.st .shape)) hk,aJ b.shapes k (dfl (.st .shape)) hk',eqL]at q4;refine⟨by omega,by omega,hm,a6 (fun e=>?_) (fun e=>?_)⟩
   ·have e:eqS (a.shapes.getD k (dfl (.st .shape))) (b.shapes.getD k (dfl (.st .shape)))=false:=by simpa using e
    rw[q4,e];rfl
   ·have e:eqS (a.shapes.getD k (dfl (.st .shape))) (b.shapes.getD k (dfl (.st .shape)))=true:=by simpa using e
    rw[e,OY]at q4;exact⟨ba hk lnS,k+1,⟨by omega,hS,hP,q4⟩,by omega,by omega⟩
  have ek:k=a.shapes.length:=by have:¬((k:Int)<(a.shapes.length:Int)):=fun e=>h (Xd e);omega
  have e1:eqT a b p=eqTL a.parts b.parts p:=by rw[q4,ek,OO,hS,OO];rfl
  refine⟨⟨0,⟨OJ _,hP,e1⟩,rfl⟩,?_⟩;rintro j ⟨r1,_,r4⟩;apply a6<;>intro h
  ·replace h:=Xo h;have hk:j<a.parts.length:=by omega
   have hk':j<b.parts.length:=by omega
   have hm:=jt (bO a.parts j (dfl (.st .term)) hk);rw[aJ a.parts j (dfl (.st .term)) hk,aJ b.parts j (dfl (.st .term)) hk',eqTL]at r4;refine⟨by omega,by omega,by omega,a6 (fun e=>?_) (fun e=>?_)⟩
   ·have e:eqT (a.parts.getD j (dfl (.st .term))) (b.parts.getD j (dfl (.st .term))) p=false:=by simpa using e
    rw[r4,e];rfl
   ·have e:eqT (a.parts.getD j (dfl (.st .term))) (b.parts.getD j (dfl (.st .term))) p=true:=by simpa using e
    rw[e,OY]at r4;exact⟨ba hk lnP,j+1,⟨by omega,hP,r4⟩,by omega,by omega⟩
  ·have ej:j=a.parts.length:=by have:¬((j:Int)<(a.parts.length:Int)):=fun e=>h (Xd e);omega
   rw[r4,ej,OO,hP,OO];rfl
 ·have hp:p=false:=by simpa using hp
  have h5:(!p||decide (a.pos=b.pos))=true:=by rw[hp];rfl
  refine a6 (fun h=>?_) (fun h6=>?_)
  ·have h:¬a.names=b.names:=by simpa using h
   rw[gB,Xf h];simp
  have h6:a.names=b.names:=by simpa using h6
  refine a6 (fun h=>?_) (fun h7=>?_)
  ·have h:¬a.vars=b.vars:=by simpa using h
   rw[gB,Xf h];simp
  have h7:a.vars=b.vars:=by simpa using h7
  refine a6 (fun h=>?_) (fun h8=>?_)
  ·have h:¬(a.shapes.length:Int)=b.shapes.length:=by simpa using h
   rw[gB,rX (by omega)];simp
  have h8:(a.shapes.length:Int)=b.shapes.length:=by simpa using h8
  refine a6 (fun h=>?_) (fun h9=>?_)
  ·have h:¬(a.parts.length:Int)=b.parts.length:=by simpa using h
   rw[gB,uE (by omega)];simp
  have h9:(a.parts.length:Int)=b.parts.length:=by simpa using h9
  have hS:a.shapes.length=b.shapes.length:=by omega
  have hP:a.parts.length=b.parts.length:=by omega
  have e0:eqT a b p=(eqL a.shapes b.shapes&&eqTL a.parts b.parts p):=by rw[gB,Xd h1,Xd h2,Xd h3,Xd h4,h5,Xd h6,Xd h7];simp
  refine⟨⟨0,⟨OJ _,hS,hP,e0⟩,rfl⟩,?_⟩;rintro k ⟨q1,_,_,q4⟩;apply a6<;>intro h
  ·replace h:=Xo h;have hk:k<a.shapes.length:=by omega
   have hk':k<b.shapes.length:=by omega
   have hm:=jU (bO a.shapes k (dfl (.st .shape)) hk);rw[aJ a.shapes k (dfl (.st .shape)) hk,aJ b.shapes k (dfl (.st .shape)) hk',eqL]at q4;refine⟨by omega,by omega,hm,a6 (fun e=>?_) (fun e=>?_)⟩
   ·have e:eqS (a.shapes.getD k (dfl (.st .shape))) (b.shapes.getD k (dfl (.st .shape)))=false:=by simpa using e
    rw[q4,e];rfl
   ·have e:eqS (a.shapes.getD k (dfl (.st .shape))) (b.shapes.getD k (dfl (.st .shape)))=true:=by simpa using e
    rw[e,OY]at q4;exact⟨ba hk lnS,k+1,⟨by omega,hS,hP,q4⟩,by omega,by omega⟩
  have ek:k=a.shapes.length:=by have:¬((k:Int)<(a.shapes.length:Int)):=fun e=>h (Xd e);omega
  have e1:eqT a b p=eqTL a.parts b.parts p:=by rw[q4,ek,OO,hS,OO];rfl
  refine⟨⟨0,⟨OJ _,hP,e1⟩,rfl⟩,?_⟩;rintro j ⟨r1,_,r4⟩;apply a6<;>intro h
  ·replace h:=Xo h;have hk:j<a.parts.length:=by omega
   have hk':j<b.parts.length:=by omega
   have hm:=jt (bO a.parts j (dfl (.st .term)) hk);rw[aJ a.parts j (dfl (.st .term)) hk,aJ b.parts j (dfl (.st .term)) hk',eqTL]at r4;refine⟨by omega,by omega,by omega,a6 (fun e=>?_) (fun e=>?_)⟩
   ·have e:eqT (a.parts.getD j (dfl (.st .term))) (b.parts.getD j (dfl (.st .term))) p=false:=by simpa using e
    rw[r4,e];rfl
   ·have e:eqT (a.parts.getD j (dfl (.st .term))) (b.parts.getD j (dfl (.st .term))) p=true:=by simpa using e
    rw[e,OY]at r4;exact⟨ba hk lnP,j+1,⟨by omega,hP,r4⟩,by omega,by omega⟩
  ·have ej:j=a.parts.length:=by have:¬((j:Int)<(a.parts.length:Int)):=fun e=>h (Xd e);omega
   rw[r4,ej,OO,hP,OO];rfl
end Go.AL.Seat
end
section
open Go Go.AL Go.Proofs Go.Shelf Go.Pd
namespace Go.AL.Seat
open Go.Proofs.Tryz
variable [Tabs]
variable [SeatLaid]
theorem EB:ab prog 176 (p2 (.lst .str) .bool fun ns b=>.ret (.bool (fY ns b))):=
 dB (ee func176) fun ns b hl _ _=>g0 (sc lD sn) ⟨[(2,fun S0=>⟨Nat,fun k=>k<=ns.length/\(ns.take k).all aX=true/\(b=true->(ns.take k).Nodup),fun k=>[(5,.int .i64 k)],fun _=>[],fun k=>ns.length-k⟩),(7,fun S0=>IK S0 5 fun k0=>⟨Nat,fun j=>(j:Int)<=k0/\(b=true->(ns.getD k0.toNat (dfl .str))∉ns.take j)/\(b=false->j=0),fun j=>[(6,.int .i64 j)],fun _=>[],fun j=>k0.toNat-j⟩)],[],[]⟩ func176 (Ie ns b hl)
theorem uI:aA prog 215:=ee func215
theorem vt(n:Nat)(s:AL.Shape)(hs:Wf (.st .shape) s)(hn:sz s<=n+1)(hA:ab prog 215 (p1 (.st .shape) fun s=>⟨some (sz s<=n),none,.bool (!allS bh s),[]⟩)):aB prog 215 [.st .shape s] [] (.ret (.bool (!allS bh s))):=
 g0 (sc (hA) sn) ⟨[(2,fun S0=>⟨Nat,fun k=>k<=s.parts.length/\allS bh s=(bh s&&allL bh (s.parts.drop k)),fun k=>[(3,.int .i64 k)],fun _=>[],fun k=>s.parts.length-k⟩)],[],[]⟩ func215 (Ey n s hs hn)
theorem BH:∀n:Nat,ab prog 215 (p1 (.st .shape) fun s=>⟨some (sz s<=n),none,.bool (!allS bh s),[]⟩):=by
 intro n
 induction n with
 |zero=>exact b7 uI fun a _ ho=>absurd (ho _ rfl) (by have:=jV a;omega)
 |succ n ih=>exact b7 uI fun a hs ho=>vt n a hs (ho _ rfl) ih
theorem BI:ab prog 177 (p1 (.lst (.st .shape)) fun l=>.ret (.bool (l.all cm))):=
 b7 (ee func177) fun l hl _=>g0 (sc um (sc (BH 400) sn)) ⟨[(2,fun S0=>⟨Nat,fun k=>k<=l.length/\l.all cm=(l.drop k).all cm,fun k=>[(3,.int .i64 k)],fun _=>[],fun k=>l.length-k⟩)],[],[]⟩ func177 (Ez l hl)
theorem EC:ab prog 178 (p5 (.st .term) (.int .i64) (.int .i64) (.int .i64) (.int .i64) fun t n v s p=>.ret (.bool (jg t n v s p))):=
 Ng (ee func178) fun t n v s p _ _ _ _=>g0 sn a0 func178 (Ig t n v s p)
theorem BJ:ab prog 216 (p1 .str fun s=>⟨some (s.length<=100000),none,.tup [.lst (.int .i64) (kK s).1 none,.st .fault (kK s).2],[]⟩):=
 b7 (ee func216) fun s hs ho=>g0 (sc qM sn) ⟨[(3,fun S0=>⟨Nat×Nat×List Int,fun y=>y.2.1<=s.length/\s.length-y.2.1<y.1/\y.2.2.length<=y.2.1/\mg s y.1 y.2.1 y.2.2=kK s,fun y=>[(5,.int .i64 (y.2.1:Int)),(4,.lst (.int .i64) y.2.2 (some 701))],fun y=>[(701,.tail (.int .i64) y.2.2.length)],fun y=>s.length-y.2.1⟩)],[],[]⟩ func216 (EA s hs (ho _ rfl))
theorem Ik:ab prog 179 (p1 .str fun s=>⟨some (s.length<=100000),none,.bool (kx s),[]⟩):=
 b7 (ee func179) fun s hs ho=>g0 (sc BJ sn) ⟨[(2,fun S0=>⟨Nat,fun k=>k<=s.length/\s.all eJ=(s.drop k).all eJ,fun k=>[(3,.int .i64 k)],fun _=>[],fun k=>s.length-k⟩)],[],[]⟩ func179 (Lm s hs (ho _ rfl))
theorem Il:ab prog 122 (p1 (.st .term) fun t=>⟨some (t.name.length<=100000/\t.names.length<=1000000),none,.bool (aS t),[]⟩):=
 b7 (ee func122) fun t ht ho=>g0 (sc EB (sc BI (sc lD (sc oU (sc EC (sc Ik sn)))))) a0 func122 (Ln t ht (ho _ rfl))
theorem wH:aA prog 79:=ee func79
theorem yI(n:Nat)(t:Trm)(ht:Wf (.st .term) t)(hn:szT t<=n+1)(ho:fZ t=true)(hA:ab prog 79 (p1 (.st .term) fun t=>⟨some (szT t<=n/\fZ t=true),none,.bool (allT aS t),[]⟩)):aB prog 79 [.st .term t] [] (.ret (.bool (allT aS t))):=
 g0 (sc Il (sc (hA) sn)) ⟨[(4,fun S0=>⟨Nat,fun k=>k<=t.parts.length/\allT aS t=allTL aS (t.parts.drop k),fun k=>[(3,.int .i64 k)],fun _=>[],fun k=>t.parts.length-k⟩)],[],[]⟩ func79 (Ih n t ht hn ho)
theorem ED:∀n:Nat,ab prog 79 (p1 (.st .term) fun t=>⟨some (szT t<=n/\fZ t=true),none,.bool (allT aS t),[]⟩):=by
 intro n
 induction n with
 |zero=>exact b7 wH fun a _ ho=>absurd (ho _ rfl).1 (by have:=kt a;omega)
 |succ n ih=>exact b7 wH fun a hs ho=>yI n a hs (ho _ rfl).1 (ho _ rfl).2 ih
theorem BK:aA prog 77:=ee func77
theorem BL(n:Nat)(s:Trm)(m:Int)(hs:Wf (.st .term) s)(ho:szT s<=n+1/\0<=m/\m<=1000000)(hA:ab prog 77 (p2 (.st .term) (.int .i64) fun s m=>⟨some (szT s<=n/\0<=m/\m<=1000000),none,.int .i64 (fF s m),[]⟩)):aB prog 77 [.st .term s,.int .i64 m] [] (.ret (.int .i64 (fF s m))):=
 g0 (sc (hA) sn) ⟨[(3,fun S0=>⟨Nat×Int,fun x=>x.1<=s.parts.length/\1<=x.2/\x.2<=m+1/\sizeTL (s.parts.drop x.1) x.2 m=fF s m,fun x=>[(5,.int .i64 x.2),(6,.int .i64 x.1)],fun _=>[],fun x=>s.parts.length-x.1⟩)],[],[]⟩ func77 (Lo n s m hs ho)
theorem Im:∀n:Nat,ab prog 77 (p2 (.st .term) (.int .i64) fun s m=>⟨some (szT s<=n/\0<=m/\m<=1000000),none,.int .i64 (fF s m),[]⟩):=by
 intro n
 induction n with
 |zero=>exact dB BK fun a m _ _ ho=>absurd (ho _ rfl).1 (by have:=kt a;omega)
 |succ n ih=>exact dB BK fun a m ha _ ho=>BL n a m ha (ho _ rfl) ih
theorem BM:aA prog 78:=ee func78
theorem BN(n:Nat)(s:Trm)(hs:Wf (.st .term) s)(hn:szT s<=n+1)(hb:n<=1000000)(hA:ab prog 78 (p1 (.st .term) fun s=>⟨some (szT s<=n),none,.int .i64 (deepT s:Int),[]⟩)):aB prog 78 [.st .term s] [] (.ret (.int .i64 (deepT s:Int))):=
 g0 (sc (hA) sn) ⟨[(3,fun S0=>⟨Nat×Int,fun x=>x.1<=s.parts.length/\0<=x.2/\max x.2 (maxDT (s.parts.drop x.1):Int)=maxDT s.parts,fun x=>[(3,.int .i64 x.2),(4,.int .i64 x.1)],fun _=>[],fun x=>s.parts.length-x.1⟩)],[],[]⟩ func78 (Lp n s hs hn hb)
theorem Io:∀n:Nat,n<=1000000->ab prog 78 (p1 (.st .term) fun s=>⟨some (szT s<=n),none,.int .i64 (deepT s:Int),[]⟩):=by
 intro n
 induction n with
 |zero=>exact fun _=>b7 BM fun a _ ho=>absurd (ho _ rfl) (by have:=kt a;omega)
 |succ n ih=>exact fun hb=>b7 BM fun a hs ho=>BN n a hs (ho _ rfl) (by omega) (ih (by omega))
theorem EE:ab prog 38 (p1 (.st .term) fun s=>⟨some (fZ s=true),none,.int .i64 (bF s),[]⟩):=
 b7 (ee func38) fun s hs ho=>g0 (sc (Im (szT s)) (sc (Io 4096 (by decide)) (sc (ED 4096) sn))) a0 func38 (Ii s hs (ho _ rfl))
theorem yJ:ab prog 40 (p2 (.lst .str) (.lst .str) fun a b=>.ret (.bool (decide (a=b)))):=
 dB (ee func40) fun a b ha hb _=>g0 sn ⟨[(4,fun S0=>⟨Nat,fun k=>k<=a.length/\a.length=b.length/\(a=b↔a.drop k=b.drop k),fun k=>[(5,.int .i64 k)],fun _=>[],fun k=>a.length-k⟩)],[],[]⟩ func40 (BG a b ha hb)
theorem wI:aA prog 17:=ee func17
theorem yK(n:Nat)(a b:Trm)(p:Bool)(ha:Wf (.st .term) a)(hb:Wf (.st .term) b)(hn:szT a<=n+1)(hA:ab prog 17 (p3 (.st .term) (.st .term) .bool fun a b p=>⟨some (szT a<=n),none,.bool (eqT a b p),[]⟩)):aB prog 17 [.st .term a,.st .term b,.bool p] [] (.ret (.bool (eqT a b p))):=
 g0 (sc yJ (sc (E1 (szL a.shapes)) (sc (hA) sn))) ⟨[(6,fun S0=>⟨Nat,fun k=>k<=a.shapes.length/\a.shapes.length=b.shapes.length/\a.parts.length=b.parts.length/\eqT a b p=(eqL (a.shapes.drop k) (b.shapes.drop k)&&eqTL a.parts b.parts p),fun k=>[(7,.int .i64 k)],fun _=>[],fun k=>a.shapes.length-k⟩),(11,fun S0=>⟨Nat,fun k=>k<=a.parts.length/\a.parts.length=b.parts.length/\eqT a b p=eqTL (a.parts.drop k) (b.parts.drop k) p,fun k=>[(8,.int .i64 k)],fun _=>[],fun k=>a.parts.length-k⟩)],[],[]⟩ func17 (Ij n a b p ha hb hn)
theorem EF:∀n:Nat,ab prog 17 (p3 (.st .term) (.st .term) .bool fun a b p=>⟨some (szT a<=n),none,.bool (eqT a b p),[]⟩):=by
 intro n
 induction n with
 |zero=>exact vK wI fun a b _ _ _ _ ho=>absurd (ho _ rfl) (by have:=kt a;omega)
 |succ n ih=>exact vK wI fun a b p ha hb _ ho=>yK n a b p ha hb (ho _ rfl) ih
end Go.AL.Seat
end
section
namespace Go.Pd
open Go.AL
def Zf(f:Flt):Prop:=f.err=0->f=okF
theorem gP:Zf okF:=fun _=>rfl
section
variable {l:List Tokn}
theorem sa(a:Int):Zf (jc l a):=fun e=>absurd e (by rw[pS];decide)
theorem jy(a:Int)(t:Str):Zf (ad l a t).2:=by
 unfold ad;split
 ·exact gP
 ·exact sa a
theorem mh(a k:Int):Zf (aL l a k).2.2:=by
 unfold aL;split
 ·exact gP
 ·exact sa a
theorem pW(a:Int)(ns:List Str):Zf (ag l a ns).2.2:=by
 show Zf (if _ then _ else _);split
 ·exact fun e=>absurd e (by show ¬(111:Int)=0;decide)
 ·exact mh a 1
def GG{σ:Type}(p:σ->Prop)(b:σ×Int×Flt):Prop:=p b.1/\Zf b.2.2
def KG{σ:Type}(p:σ->Prop)(r:σ->Int->σ×Int×Flt):Prop:=∀x a,p x->GG p (r x a)
theorem bj{σ:Type}{p:σ->Prop}{c:Prop}[Decidable c]{x y:σ×Int×Flt}(h1:GG p x)(h2:GG p y):GG p (if c then x else y):=by
 split
 ·exact h1
 ·exact h2
theorem wJ{σ:Type}{p:σ->Prop}{r:σ->Int->σ×Int×Flt}(h:KG p r)(btw en:Str):∀(k:Nat)(x:σ)(a:Int),p x->GG p (aP l r btw en k x a)
 |0,x,a,hx=>⟨hx,gP⟩
 |k+1,x,a,hx=>by have h1:=h x a hx;rw[aP];exact bj (bj ⟨h1.1,gP⟩ (bj (wJ h btw en k _ _ h1.1) ⟨h1.1,jy _ _⟩)) h1
theorem iM{σ:Type}{p:σ->Prop}{r:σ->Int->σ×Int×Flt}(h:KG p r)(btw en:Str)(x:σ)(a:Int)(hx:p x):GG p (aw l r btw en x a):=bj ⟨hx,gP⟩ (wJ h btw en _ x a hx)
theorem pX{σ:Type}{p:σ->Prop}{b:σ×Int×Flt}(h:GG p b):GG p (dM b):=bj ⟨h.1,gP⟩ h
theorem mi{σ:Type}{p:σ->Prop}{t:Str}{b:σ×Int×Flt}(h:GG p b):GG p (cn l t b):=bj ⟨h.1,jy _ _⟩ h
end
section
variable {l:List Tokn}
abbrev GS(b:SR3):Prop:=GG (fun _=>True) b
theorem Lq{R:Int->SR3}(h:∀a,GS (R a)):KG (fun _=>True) (cA l R):=fun x a _=>by have hb:GG (fun _=>True) (cn l [58] (ag l a x.names)):=mi ⟨trivial,pW _ _⟩;exact bj (bj ⟨trivial,gP⟩ ⟨trivial,(h _).2⟩) ⟨trivial,hb.2⟩
theorem MU{R:Int->SR3}(h:∀a,GS (R a)):KG (fun _=>True) (cJ R):=fun x a _=>bj ⟨trivial,gP⟩ ⟨trivial,(h _).2⟩
theorem wK{R:Int->SR3}(h:∀a,GS (R a))(a k:Int)(btw en:Str):GS (eL l R a k btw en):=pX (iM (Lq h) btw en _ a trivial)
theorem BO{R:Int->SR3}(h:∀a,GS (R a))(a:Int):GS (dv l R a):=by have hc:GS (cn l [45,62] (dM (aw l (cJ R) [44] [41] ⟨8,[],[],[],[]⟩ a))):=mi (pX (iM (MU h) [44] [41] _ a trivial));exact bj ⟨trivial,(h _).2⟩ hc
theorem BP:∀(n:Nat)(a:Int),GS (ay l n a)
 |0,a=>⟨trivial,gP⟩
 |n+1,a=>by have ih:=BP n;show GS (mc l (ay l n) a);unfold mc;refine bj ⟨trivial,gP⟩ (bj (bj ⟨trivial,mh _ _⟩ ⟨trivial,jy _ _⟩) (bj ?_ (bj (wK ih _ _ _ _) (bj (wK ih _ _ _ _) (bj (BO ih _) ⟨trivial,sa _⟩)))));exact⟨trivial,(mi (l:=l) (t:=[93]) (ih (a+1))).2⟩
theorem Lr(a:Int):Zf (dk l a).2.2:=by
 show Zf (if(ay l big a).2.2.err=0/\¬bD (ay l big a).1=0 then(⟨bD (ay l big a).1,(az l a).pos⟩:Flt)else(ay l big a).2.2);split
 ·exact fun e=>absurd e (by rename_i c;exact c.2)
 ·exact(BP big a).2
end
def eX(t:Trm):Prop:=allT (fun x=>decide (x.name.length<=100000)) t=true
theorem fS{t:Trm}:eX t↔t.name.length<=100000/\∀x∈t.parts,eX x:=by unfold eX;rw[iT,OF,iI,OK,P0]
theorem iq{t:Trm}(h1:t.name.length<=100000)(h2:t.parts=[]):eX t:=fS.2 ⟨h1,fun x hx=>by rw[h2]at hx;cases hx⟩
theorem qQ{t u:Trm}(h1:t.name.length<=100000)(h2:t.parts=[u])(hu:eX u):eX t:=fS.2 ⟨h1,fun x hx=>by rw[h2,Pp]at hx;rw[hx];exact hu⟩
theorem kf{t u:Trm}(h:eX t)(h1:u.name=t.name)(h2:u.parts=t.parts):eX u:=by rw[fS,h1,h2];exact fS.1 h
theorem wL{t u:Trm}(h:eX t)(hu:eX u):eX (ar t u):=fS.2 ⟨(fS.1 h).1,fun x hx=>by
 rcases Po.1 hx with k|k
 ·exact(fS.1 h).2 x k
 ·rw[Pp.1 k];exact hu⟩
section
variable {l:List Tokn}
def iN(l:List Tokn):Prop:=∀t∈l,t.text.length<=100000
theorem qR(hT:iN l)(a:Int):(az l a).text.length<=100000:=by
 unfold az;split
 ·by_cases h:a.toNat<l.length
  ·exact hT _ (bO l a.toNat _ h)
  ·rw[OG,OI (by omega)];exact OJ _
 ·split
  ·exact OJ _
  ·exact OJ _
theorem o7(hT:iN l)(a k:Int):(aL l a k).1.length<=100000:=by
 unfold aL;split
 ·exact qR hT a
 ·exact OJ _
abbrev GT(b:TR3):Prop:=GG eX b
variable {R:Int->TR3}
theorem nC(h:∀a,GT (R a)):∀(ws:List Str)(t:Trm)(a:Int),eX t->GT (aD l R ws t a)
 |[],t,a,ht=>⟨ht,gP⟩
 |w::ws,t,a,ht=>by rw[aD];exact bj (bj (nC h ws _ _ (wL ht (h _).1)) ⟨ht,(h _).2⟩) ⟨ht,jy _ _⟩
theorem lE{t:Trm}{f:Flt}(a:Int)(ahead:Str)(ht:eX t)(hf:Zf f):GT (aV l a t f ahead):=bj (bj ⟨kf ht rfl rfl,Lr _⟩ ⟨ht,jy _ _⟩) ⟨ht,hf⟩
theorem NR(h:∀a,GT (R a)):KG eX (cH R):=fun t a ht=>bj ⟨wL ht (h _).1,gP⟩ ⟨ht,(h _).2⟩
theorem FA(h:∀a,GT (R a))(a:Int)(t:Trm)(en:Str)(ht:eX t):GT (dU l R a t en):=pX (iM (NR h) [44] en t a ht)
theorem Ip:KG eX (dj l):=fun t a ht=>bj (lE _ _ (kf ht rfl rfl) gP) ⟨ht,pW _ _⟩
theorem NS(h:∀a,GT (R a))(a:Int)(t:Trm)(ht:eX t):GT (qC l R a t):=by have hc:GT (aw l (dj l) [44] [41] t (ad l a [40]).1):=iM Ip [44] [41] t _ ht;exact bj (bj (nC h _ _ _ hc.1) hc) ⟨ht,jy _ _⟩
theorem Iq(h:∀a,GT (R a)):KG eX (cr l R):=fun t a ht=>by have he:GT (cn l [41] (aV l (aL l (ad l (ag l a t.names).2.1 [40]).1 1).2.1 (cK (bc t (ag l a t.names).1) (aL l (ad l (ag l a t.names).2.1 [40]).1 1).1) (aL l (ad l (ag l a t.names).2.1 [40]).1 1).2.2 [58])):=mi (lE _ _ (kf ht rfl rfl) (mh _ _));exact bj (bj (bj (nC h _ _ _ he.1) he) ⟨kf ht rfl rfl,jy _ _⟩) ⟨ht,pW _ _⟩
theorem MV(h:∀a,GT (R a))(a:Int)(t:Trm)(ht:eX t):GT (dN l R a t):=pX (iM (Iq h) [124] [125] t a ht)
theorem BQ(h:∀a,GT (R a)):KG eX (cO l R):=fun t a ht=>bj (nC h _ _ _ (kf ht rfl rfl)) ⟨ht,pW _ _⟩
theorem Ir(h:∀a,GT (R a))(a:Int)(t:Trm)(ht:eX t):GT (gw l R a t):=pX (iM (BQ h) [44] [125] t a ht)
theorem uJ(hT:iN l)(h:∀a,GT (R a))(a:Int)(t:Trm)(k:Int)(ht:eX t):GT (fD l R a t k):=by have hs:eX (pN t (aL l a k).1):=fS.2 ⟨o7 hT a k,(fS.1 ht).2⟩;exact bj (mi (nC h _ _ _ hs)) ⟨ht,mh _ _⟩
theorem Ls(h:∀a,GT (R a))(a p:Int):GT (ie l R a p):=by have h15:eX (⟨15,[],[],0,[],[],[],[(R a).1],p⟩:Trm):=qQ (OJ _) rfl (h a).1;have hb:GT (aV l (R a).2.1 ⟨15,[],[],0,[],[],[],[(R a).1],p⟩ okF [97,115]):=lE _ _ h15 gP;exact bj (bj (bj ⟨hb.1,jy _ _⟩ ⟨h15,hb.2⟩) ⟨(h a).1,jy _ _⟩) ⟨iq (OJ _) rfl,(h a).2⟩
theorem MW(hT:iN l)(h:∀a,GT (R a))(a:Int):GT (gq l R a):=by
 have k0:∀k p:Int,eX (de k p):=fun k p=>iq (OJ _) rfl
 exact bj ⟨iq (OJ _) rfl,gP⟩ (bj ⟨iq (qR hT a) rfl,gP⟩ (bj (bj ⟨iq (o7 hT _ _) rfl,mh _ _⟩ ⟨iq (qR hT a) rfl,gP⟩)
  (bj ⟨k0 _ _,gP⟩ (bj ⟨k0 _ _,gP⟩ (bj (Ls h _ _) (bj (Ir h _ _ (k0 _ _)) (bj (uJ hT h _ _ _ (k0 _ _)) (bj (uJ hT h _ _ _ (k0 _ _)) (bj (uJ hT h _ _ _ (k0 _ _)) ⟨k0 _ _,sa _⟩)))))))))
theorem uK(hT:iN l)(h:∀a,GT (R a))(p:Int):∀(n:Nat)(x:TR3),GT x->GT (eV l R p n x)
 |0,x,hx=>hx
 |n+1,x,hx=>by rw[eV];exact bj (uK hT h p n _ (FA h _ _ _ (qQ (OJ _) rfl hx.1))) (bj (uK hT h p n _ ⟨qQ (o7 hT _ _) rfl hx.1,mh _ _⟩) hx)
theorem yL(hT:iN l):∀(n:Nat)(a:Int),GT (aa l n a)
 |0,a=>⟨iq (OJ _) rfl,gP⟩
 |n+1,a=>by
  have h:=yL hT n;have k0:∀k p:Int,eX (de k p):=fun k p=>iq (OJ _) rfl;show GT (oO l (aa l n) a);unfold oO;refine bj (NS h _ _ (k0 _ _)) (bj (bj (nC h _ _ _ (iq (o7 hT _ _) rfl)) ⟨k0 _ _,mh _ _⟩) (bj ?_ (bj ?_ (bj ?_ (uK hT h _ _ _ (MW hT h a))))))
  ·have hb:=nC (l:=l) h [[105,102],[116,104,101,110],[101,108,115,101]] (de 12 (az l a).pos) a (k0 _ _);exact lE _ _ hb.1 hb.2
  ·have hb:GT (cn l [123] (cn l [111,102] (aD l (aa l n) [[99,97,115,101]] (de 13 (az l a).pos) a))):=mi (mi (nC h _ _ _ (k0 _ _)));have he:=MV (l:=l) h (cn l [123] (cn l [111,102] (aD l (aa l n) [[99,97,115,101]] (de 13 (az l a).pos) a))).2.1 _ hb.1;exact bj (lE _ _ he.1 he.2) hb
  ·have hb:=FA (l:=l) h (a+1) (de 11 (az l a).pos) [93] (k0 _ _);exact lE _ _ hb.1 hb.2
end
theorem Is{f g:Trm->Bool}:∀t:Trm,allT f t=true->allT g t=true->allT (fun x=>f x&&g x) t=true:=by
 intro t;generalize hn:szT t=n
 induction n using Nat.strongRecOn generalizing t with
 |_ n ih=>intro h1 h2;rw[iT,OF,iI,P0]at h1 h2⊢;refine⟨by rw[h1.1,h2.1];rfl,fun x hx=>ih (szT x) ?_ x rfl (h1.2 x hx) (h2.2 x hx)⟩;have:=jt hx;have:=mW t;omega
theorem Lt{t:Trm}(h1:eX t)(h2:dx t=true):fZ t=true:=Is t h1 h2
end Go.Pd
end
section
namespace Go.Pd
open Go.AL
def kL(l:List Tokn)(a:Int):Flt:=
 if(aa l 5000 a).2.2.err=0/\(bF (aa l 5000 a).1=3∨bF (aa l 5000 a).1=91)then⟨bF (aa l 5000 a).1,(az l a).pos⟩else(aa l 5000 a).2.2
def EG(l:List Tokn)(a:Int):Trm×Int×Flt:=
 if(iv l a).2.err=0 then(if(kL l (iv l a).1).err=0 then((aa l 5000 (iv l a).1).1,(aa l 5000 (iv l a).1).2.1,kL l (iv l a).1)else(pD,0,kL l (iv l a).1))else(pD,0,(iv l a).2)
theorem uL(l:List Tokn)(a:Int):((iv l a).2.err=0/\iv l a=(a,okF)/\bE l a=st l a/\0<=a/\a<=(l.length:Int)/\l.length<=4097)∨(¬(iv l a).2.err=0/\b6 (bE l a)=true/\(⟨(bE l a).err,(bE l a).fat⟩:Flt)=(iv l a).2):=by
 unfold iv bE;by_cases c:a<0∨(l.length:Int)<a
 ·rw[OB c,OB c];exact .inr ⟨by show ¬(2:Int)=0;decide,rfl,rfl⟩
 ·rw[OA c,OA c];by_cases d:4097<l.length
  ·rw[OB d,OB d];exact .inr ⟨by show ¬(3:Int)=0;decide,rfl,rfl⟩
  ·rw[OA d,OA d];exact .inl ⟨rfl,rfl,rfl,by omega,by omega,by omega⟩
theorem NT{f g:Flt}(h1:f.err=g.err)(h2:f.pos=g.pos):f=g:=by cases f;cases g;simp_all
theorem It{l:List Tokn}(hT:iN l)(a:Int):EG l a=bS l a:=by
 unfold EG bS;rcases uL l a with⟨h1,h2,h3,_⟩|⟨h1,h2,h3⟩
 ·rw[OB h1,h2,h3,OA (show ¬b6 (st l a)=true by simp[b6])];unfold Fg;rw[h3];have hr:=nz l 5000 a;have hz:=(yL hT 5000 a).2;have nb:∀b:Int,¬b6 (st l b)=true:=fun b=>by simp[b6]
  simp only;rcases hr.elim with⟨e,g⟩|⟨e,gb,g⟩
  ·rw[g];by_cases c:bF (aa l 5000 a).1=3∨bF (aa l 5000 a).1=91
   ·have hE:kL l a=⟨bF (aa l 5000 a).1,(az l a).pos⟩:=by unfold kL;rw[OB ⟨e,c⟩]
    have hne:¬bF (aa l 5000 a).1=0:=by rcases c with c|c<;>rw[c]<;>decide
    rw[hE,OA (show ¬(⟨bF (aa l 5000 a).1,(az l a).pos⟩:Flt).err=0 from hne)];simp only;rw[OA (nb _),OB c];unfold rG dh;rw[OB (show((st l (aa l 5000 a).2.1).err=0)from rfl),OB (cU.2 hne)];rfl
   ·have hE:kL l a=(aa l 5000 a).2.2:=by unfold kL;rw[OA (fun q=>c q.2)]
    rw[hE,OB e];simp only;rw[OA (nb _),OA c,hz e];rfl
  ·have hE:kL l a=(aa l 5000 a).2.2:=by unfold kL;rw[OA (fun q=>e q.1)]
   rw[hE,OA e,OB (cU.2 gb)];unfold rG;rw[OB (cU.2 gb)];rw[show(⟨(a7 5000 (st l a)).2.err,(a7 5000 (st l a)).2.fat⟩:Flt)=(aa l 5000 a).2.2 from NT g.1 g.2]
 ·rw[OA h1,OB h2,h3]
theorem BR{l:List Tokn}(hT:iN l)(hl:l.length<=4097){a:Int}(e:(aa l 5000 a).2.2.err=0):fZ (aa l 5000 a).1=true:=by have h1:=(yL hT 5000 a).1;have h2:=(tH hl 5000 (st l a) rfl).1;have hr:=nz l 5000 a;unfold Rel at hr;rw[OB e]at hr;rw[hr]at h2;exact Lt h1 h2
end Go.Pd
end
section
namespace Go.Pd
open Go.AL
def gd(l:List Tokn):Nat:=(l.map (fun t=>min t.text.length 100000+1)).sum
def mj(t:Tokn):Bool:=!decide (t.kind=3)||(decide (t.text.length<=15)&&t.text.all cI&&!decide (t.text=[]))
def ml(l:List Tokn):Bool:=decide (gd l<=100000)&&l.all mj
theorem BS(l m:List Tokn):gd (l++m)=gd l+gd m:=by unfold gd;rw[List.map_append,List.sum_append]
theorem Lu(t:Tokn):gd [t]=min t.text.length 100000+1:=by simp[gd]
theorem FB:∀{l:List Tokn} {t:Tokn},t∈l->min t.text.length 100000+1<=gd l
 |x::r,t,h=>by
  have e:gd (x::r)=(min x.text.length 100000+1)+gd r:=by unfold gd;rw[Pe,List.sum_cons]
  rw[e];rcases OT.1 h with k|k
  ·rw[k];omega
  ·have:=FB k;omega
theorem FC:∀l:List Tokn,l.length<=gd l
 |[]=>OJ _
 |x::r=>by
  have:=FC r;have e:gd (x::r)=(min x.text.length 100000+1)+gd r:=by unfold gd;rw[Pe,List.sum_cons]
  rw[e,OP];omega
theorem MX{l:List Tokn}(h:ml l=true):l.length<=100000:=by unfold ml at h;rw[OF,OK]at h;have:=FC l;omega
theorem Iu{l:List Tokn}(h:ml l=true):iN l:=by unfold ml at h;rw[OF,OK]at h;intro t ht;have:=FB ht;omega
theorem BT{l:List Tokn}(h:ml l=true):aO l:=by unfold ml at h;rw[OF]at h;intro t ht hk;have:=P0.1 h.2 t ht;unfold mj at this;rw[Xd hk,Q8,Bool.false_or,OF,OF,OK,P0]at this;refine⟨by simpa using this.2,this.1.1,fun c hc=>?_⟩;have:=this.1.2 c hc;unfold cI aY bI at this;simp at this;omega
theorem MY{l:List Tokn}{k:Nat}(hk:k<l.length)(h:mj (l.getD k (dfl (.st .token)))=false):ml l=false:=by unfold ml;rw[Q5];refine .inr ?_;rw[P5];intro e;rw[P0.1 e _ (bO l k _ hk)]at h;cases h
theorem Lv{l:List Tokn}{k:Nat}(h:100000<gd (l.take k)):ml l=false:=by unfold ml;rw[Q5];refine .inl (Xf ?_);have:=BS (l.take k) (l.drop k);rw[List.take_append_drop]at this;omega
def iO(t:Tokn):Bool:=!(decide (t.kind=1)||decide (t.kind=2))||(decide ((bR t.text).2.err=0)&&decide ((bR t.text).1.length=2)&&decide (((bR t.text).1.getD 0 (dfl (.st .token))).kind=t.kind)&&decide (((bR t.text).1.getD 0 (dfl (.st .token))).text=t.text))
def fO(l:List Tokn):Bool:=l.all iO
def uM(F:Str->Shape×Flt)(G:Str->Trm×Flt):Bool:=
 decide ((F [40,73,110,116,44,32,91,75,101,121,93,41,32,45,62,32,123,97,58,32,113,47,73,100,125]).2.err=0)&&
 decide ((F [40,73,110,116,44,32,91,75,101,121,93,41,32,45,62,32,123,97,58,32,113,47,73,100,125]).1.kind=8)&&
 decide ((F [40,73,110,116,44,32,91,75,101,121,93,41,32,45,62,32,123,97,58,32,113,47,73,100,125]).1.parts.length=3)&&
 decide ((F [123,97,58,32,73,110,116,44,32,97,58,32,73,110,116,125]).2.err=111)&&
 decide ((F [123,97,58,32,73,110,116,44,32,97,58,32,73,110,116,125]).2.pos=9)&&
 decide ((G [102,46,97,40,49,41]).2.err=0)&&
 decide ((G [102,46,97,40,49,41]).1.kind=7)&&
 decide ((G [102,46,97,40,49,41]).1.parts.length=2)&&
 decide (((G [102,46,97,40,49,41]).1.parts.getD 1 (dfl (.st .term))).pos=4)&&
 decide ((G [91,73,110,116]).2.err=90)
set_option maxRecDepth 100000 in
theorem EH:uM qv qw=true:=by decide+kernel
end Go.Pd
end
section
open Go Go.AL Go.Pd
namespace Go.AL.Seat
theorem Iv(l:List Tokn)(a:Int)(hl:Wf (.lst (.st .token)) l)(hN:aO l/\iN l) :
  let A:=iv l a;let B:=(0:Int);let C:=True;let D:=bS l a;let E:=B=D.1.kind;let F:=[]=D.1.pkg;let G:=[]=D.1.name;let H:=B=D.1.n;let I:=D.1.names=[];let J:=D.1.vars=[];let K:=D.1.shapes=[];let L:=D.1.parts=[];let M:=B=D.1.pos;let N:=B=D.2.1;let O:=(↑(List.length l):Int);let P:=(aa l (5000:Nat) A.1);let Q:=bF P.1=D.2.2.err/\(az l A.1).pos=D.2.2.pos/\C;let R:=P.2.1=D.2.1;let S:=B<=A.1/\if(!decide (bF P.1=B))=true then C/\E/\F/\G/\H/\I/\J/\K/\L/\M/\N/\Q else C/\P.1=D.1/\R/\Q;let T:=P.2.2=D.2.2/\C;let U:=if(!decide (P.2.2.err=B))=true then C/\E/\F/\G/\H/\I/\J/\K/\L/\M/\N/\T else C/\P.1=D.1/\R/\T;if(!decide (A.2.err=B))=true then C/\E/\F/\G/\H/\I/\J/\K/\L/\M/\N/\A.2=D.2.2/\C else(List.length l<=(4097:Nat)/\aO l/\B<=A.1/\A.1<=O/\Int.toNat (O-A.1)+(1:Nat)<(5000:Nat))/\if decide (P.2.2.err=B)=true then fZ P.1=true/\if decide (bF P.1=(3:Int))=true then S else if decide (bF P.1=(91:Int))=true then S else U else U:=by
 conv=>zeta
 obtain⟨hN,hT⟩:=hN;obtain⟨G,hG⟩:∃G,G=bS l a:=⟨_,rfl⟩;rw[<-hG];rw[<-It hT]at hG;unfold EG at hG;rcases uL l a with⟨h1,h2,_,h3,h4,h5⟩|⟨h1,_⟩
 ·rw[OB h1]at hG;refine a6 (fun k=>absurd h1 (by simpa using k)) (fun _=>?_);have e1:(iv l a).1=a:=by rw[h2]
  rw[e1]at hG⊢;have hs:=BR hT h5 (a:=a);unfold kL at hG;generalize aa l 5000 a=x at hG hs⊢;generalize (az l a).pos=p at hG⊢;refine⟨⟨h5,hN,by omega,by omega,by omega⟩,a6 (fun k=>?_) (fun k=>?_)⟩
  ·replace k:=Xo k
   have big:∀c:bF x.1=3∨bF x.1=91,G=(pD,0,⟨bF x.1,p⟩)/\¬bF x.1=0:=fun c=>by
    have hne:¬bF x.1=0:=by rcases c with c|c<;>rw[c]<;>decide
    rw[OB (show x.2.2.err=0/\(bF x.1=3∨bF x.1=91)from⟨k,c⟩),OA (show ¬(⟨bF x.1,p⟩:Flt).err=0 from hne)]at hG;exact⟨hG,hne⟩
   refine⟨hs k,a6 (fun c=>?_) (fun c=>?_)⟩
   ·obtain⟨g,hne⟩:=big (.inl (Xo c));refine⟨h3,a6 (fun _=>?_) (fun q=>absurd (by simpa using q) hne)⟩;rw[g]
    repeat' (first|exact trivial|rfl|apply And.intro)
   apply a6<;>intro d
   ·obtain⟨g,hne⟩:=big (.inr (Xo d));refine⟨h3,a6 (fun _=>?_) (fun q=>absurd (by simpa using q) hne)⟩;rw[g]
    repeat' (first|exact trivial|rfl|apply And.intro)
   have e:¬(x.2.2.err=0/\(bF x.1=3∨bF x.1=91)):=fun q=>q.2.elim (fun e=>c (Xd e)) (fun e=>d (Xd e));rw[OA e,OB k]at hG;refine a6 (fun q=>absurd k (by simpa using q)) (fun _=>?_);rw[hG]
   repeat' (first|exact trivial|rfl|apply And.intro)
  ·have k:¬x.2.2.err=0:=fun e=>k (Xd e);rw[OA (fun q:x.2.2.err=0/\(bF x.1=3∨bF x.1=91)=>k q.1),OA k]at hG;refine a6 (fun _=>?_) (fun q=>absurd (by simpa using q) k);rw[hG]
   repeat' (first|exact trivial|rfl|apply And.intro)
 ·rw[OA h1]at hG;refine a6 (fun _=>?_) (fun k=>absurd (by simpa using k) h1);rw[hG]
  repeat' (first|exact trivial|rfl|apply And.intro)
theorem MZ(l:List Tokn)(hl:Wf (.lst (.st .token)) l) :
  let A:=(100000:Nat);let B:=(0:Int);let C:=True;let D:=l=l/\C;let E:=(↑(List.length l):Int);let F:=dfl (Ty.st SN.token);let G:=(100000:Int);let H:=(1:Int);let I:=C/\false=ml l/\C;let J:=(3:Int);let K:=l=l/\true=true/\false=false/\false=false/\C;let L:=(0:UInt8);(∃(x:Nat),let M:=List.take x l;(x<=List.length l/\gd M<=A/\List.all M mj=true)/\B=(↑(gd M):Int)/\B=(↑x:Int)/\D)/\∀(x:Nat),let M:=List.take x l;let N:=(↑x:Int);let O:=B<=N/\N<E;let P:=List.getD l (Int.toNat N) F;let Q:=(↑(List.length P.text):Int);let R:=min Q G+H;let S:=(↑(gd M):Int);let T:=S+R=S+R/\N=N/\K;let U:=inR IntKind.i64 (N+H)/\∃(y:Nat),let X:=List.take y l;(y<=List.length l/\gd X<=A/\List.all X mj=true)/\List.length l-y<List.length l-x/\S+R=(↑(gd X):Int)/\N+H=(↑y:Int)/\D;let V:=O/\if decide (P.kind=J)=true then O/\if decide (P.text=[])=true then I else U else U;let W:=(∃(x_1:Nat),(x_1<=List.length P.text/\List.all (List.take x_1 P.text) cI=true)/\B=(↑x_1:Int)/\T)/\∀(x_1:Nat),let X:=(↑x_1:Int);let Y:=B<=X/\X<Q;let Z:=(↑(UInt8.toNat (List.getD P.text (Int.toNat X) L)):Int);x_1<=List.length P.text/\List.all (List.take x_1 P.text) cI=true->O/\if decide (P.kind=J)=true then O/\if decide (X<Q)=true then O/\Y/\if decide (Z<(48:Int))=true then I else O/\Y/\if decide ((57:Int)<Z)=true then I else inR IntKind.i64 (X+H)/\∃(y:Nat),(y<=List.length P.text/\List.all (List.take y P.text) cI=true)/\List.length P.text-y<List.length P.text-x_1/\X+H=(↑y:Int)/\T else V else V;x<=List.length l/\gd M<=A/\List.all M mj=true->if decide (N<E)=true then O/\inR IntKind.i64 R/\inR IntKind.i64 (S+R)/\if decide (G<S+R)=true then I else O/\if decide (P.kind=J)=true then O/\if decide ((15:Int)<Q)=true then I else W else W else C/\true=ml l/\C:=by
 conv=>zeta
 have ln:=hl.len;simp only[OH,PO,Ph,Pb];refine⟨⟨0,⟨OJ _,by simp[gd],by simp⟩,by simp[gd],rfl⟩,?_⟩;rintro k ⟨h1,h2,h3⟩;apply a6<;>intro h
 ·replace h:=Xo h;have hk:k<l.length:=by omega
  have ht:=dW l k (dfl (.st .token)) hk;have hs:gd (l.take (k+1))=gd (l.take k)+(min (l.getD k (dfl (.st .token))).text.length 100000+1):=by rw[ht,BS,Lu]
  refine⟨by omega,aj (by omega) (by omega),aj (by omega) (by omega),a6 (fun a=>?_) (fun a=>?_)⟩
  ·replace a:=Xo a;exact(Lv (k:=k+1) (by rw[hs];omega)).symm
  replace a:¬(100000:Int)<(gd (l.take k):Int)+(min ((l.getD k (dfl (.st .token))).text.length:Int) 100000+1):=fun e=>a (Xd e);have hs2:gd (l.take (k+1))<=100000:=by rw[hs];omega
  have nx:mj (l.getD k (dfl (.st .token)))=true->inR IntKind.i64 ((k:Int)+1)/\∃y:Nat,(y<=l.length/\gd (l.take y)<=100000/\(l.take y).all mj=true)/\l.length-y<l.length-k/\(gd (l.take k):Int)+(min ((l.getD k (dfl (.st .token))).text.length:Int) 100000+1)=(gd (l.take y):Int)/\(k:Int)+1=(y:Int):=fun q=>
   ⟨ba hk ln,k+1,⟨by omega,hs2,by rw[ht,Qa,h3];simpa using q⟩,by omega,by rw[hs];omega,by omega⟩
  have no:mj (l.getD k (dfl (.st .token)))=false->false=ml l:=fun q=>(MY hk q).symm;refine⟨by omega,a6 (fun b=>?_) (fun b=>?_)⟩
  ·have b:=Xo b;refine⟨by omega,a6 (fun c=>?_) (fun c=>?_)⟩
   ·have c:=Xo c;exact no (by unfold mj;rw[Xd b,Xf (show ¬(l.getD k (dfl (.st .token))).text.length<=15 by omega)];rfl)
   have hlen:(l.getD k (dfl (.st .token))).kind=3->(l.getD k (dfl (.st .token))).text.length<=15:=fun _=>by have:¬(15:Int)<((l.getD k (dfl (.st .token))).text.length:Int):=fun e=>c (Xd e);omega
   refine⟨⟨0,⟨OJ _,by simp⟩,rfl⟩,?_⟩;rintro j ⟨j1,j2⟩;refine⟨by omega,a6 (fun c=>?_) (fun c=>?_)⟩
   ·have c:=Xo c;refine⟨by omega,a6 (fun d=>?_) (fun d=>?_)⟩
    ·have d:=Xo d;have hj:j<(l.getD k (dfl (.st .token))).text.length:=by omega
     have hm:=bO (l.getD k (dfl (.st .token))).text j 0 hj
     have nd:cI ((l.getD k (dfl (.st .token))).text.getD j 0)=false->false=ml l:=fun q=>no (by
      unfold mj;rw[Xd c];have:(l.getD k (dfl (.st .token))).text.all cI=false:=by rw[P5];intro e;rw[P0.1 e _ hm]at q;cases q
      rw[this];simp)
     refine⟨by omega,by omega,a6 (fun e=>?_) (fun e=>?_)⟩
     ·have e:=Xo e;exact nd (by unfold cI aY bI;rw[Xf (by omega)];rfl)
     have e:¬(UInt8.toNat ((l.getD k (dfl (.st .token))).text.getD j 0):Int)<48:=fun q=>e (Xd q);refine⟨by omega,by omega,a6 (fun f=>?_) (fun f=>?_)⟩
     ·have f:=Xo f;exact nd (by unfold cI aY bI;rw[Xf (show ¬(UInt8.toNat ((l.getD k (dfl (.st .token))).text.getD j 0):Int)<=57 by omega),Ps])
     have f:¬57<(UInt8.toNat ((l.getD k (dfl (.st .token))).text.getD j 0):Int):=fun q=>f (Xd q);have hd:cI ((l.getD k (dfl (.st .token))).text.getD j 0)=true:=by unfold cI aY bI;rw[Xd (show 48<=(UInt8.toNat ((l.getD k (dfl (.st .token))).text.getD j 0):Int) by omega),Xd (show(UInt8.toNat ((l.getD k (dfl (.st .token))).text.getD j 0):Int)<=57 by omega)];rfl
     have h15:=hlen c;exact⟨aj (by omega) (by omega),j+1,⟨by omega,by rw[dW (l.getD k (dfl (.st .token))).text j 0 hj,Qa,j2];simpa using hd⟩,by omega,by omega⟩
    ·have ej:j=(l.getD k (dfl (.st .token))).text.length:=by have:¬((j:Int)<((l.getD k (dfl (.st .token))).text.length:Int)):=fun e=>d (Xd e);omega
     rw[ej,Pt]at j2;refine⟨by omega,a6 (fun _=>?_) (fun q=>absurd (Xd c) q)⟩;refine⟨by omega,a6 (fun e=>?_) (fun e=>?_)⟩
     ·have e:=Xo e;exact no (by unfold mj;rw[Xd c,e];rfl)
     ·have e:¬(l.getD k (dfl (.st .token))).text=[]:=fun q=>e (Xd q);exact nx (by unfold mj;rw[Xd c,Xd (hlen c),j2,Xf e];rfl)
   ·have c3:¬(l.getD k (dfl (.st .token))).kind=3:=fun q=>c (Xd q);refine⟨by omega,a6 (fun q=>absurd q c) (fun _=>?_)⟩;exact nx (by unfold mj;rw[Xf c3];rfl)
  ·have hlen:(l.getD k (dfl (.st .token))).kind=3->(l.getD k (dfl (.st .token))).text.length<=15:=fun q=>absurd (Xd q) b;refine⟨⟨0,⟨OJ _,by simp⟩,rfl⟩,?_⟩;rintro j ⟨j1,j2⟩;refine⟨by omega,a6 (fun c=>?_) (fun c=>?_)⟩
   ·have c:=Xo c;refine⟨by omega,a6 (fun d=>?_) (fun d=>?_)⟩
    ·have d:=Xo d;have hj:j<(l.getD k (dfl (.st .token))).text.length:=by omega
     have hm:=bO (l.getD k (dfl (.st .token))).text j 0 hj
     have nd:cI ((l.getD k (dfl (.st .token))).text.getD j 0)=false->false=ml l:=fun q=>no (by
      unfold mj;rw[Xd c];have:(l.getD k (dfl (.st .token))).text.all cI=false:=by rw[P5];intro e;rw[P0.1 e _ hm]at q;cases q
      rw[this];simp)
     refine⟨by omega,by omega,a6 (fun e=>?_) (fun e=>?_)⟩
     ·have e:=Xo e;exact nd (by unfold cI aY bI;rw[Xf (by omega)];rfl)
     have e:¬(UInt8.toNat ((l.getD k (dfl (.st .token))).text.getD j 0):Int)<48:=fun q=>e (Xd q);refine⟨by omega,by omega,a6 (fun f=>?_) (fun f=>?_)⟩
     ·have f:=Xo f;exact nd (by unfold cI aY bI;rw[Xf (show ¬(UInt8.toNat ((l.getD k (dfl (.st .token))).text.getD j 0):Int)<=57 by omega),Ps])
     have f:¬57<(UInt8.toNat ((l.getD k (dfl (.st .token))).text.getD j 0):Int):=fun q=>f (Xd q);have hd:cI ((l.getD k (dfl (.st .token))).text.getD j 0)=true:=by unfold cI aY bI;rw[Xd (show 48<=(UInt8.toNat ((l.getD k (dfl (.st .token))).text.getD j 0):Int) by omega),Xd (show(UInt8.toNat ((l.getD k (dfl (.st .token))).text.getD j 0):Int)<=57 by omega)];rfl
     have h15:=hlen c;exact⟨aj (by omega) (by omega),j+1,⟨by omega,by rw[dW (l.getD k (dfl (.st .token))).text j 0 hj,Qa,j2];simpa using hd⟩,by omega,by omega⟩
    ·have ej:j=(l.getD k (dfl (.st .token))).text.length:=by have:¬((j:Int)<((l.getD k (dfl (.st .token))).text.length:Int)):=fun e=>d (Xd e);omega
     rw[ej,Pt]at j2;refine⟨by omega,a6 (fun _=>?_) (fun q=>absurd (Xd c) q)⟩;refine⟨by omega,a6 (fun e=>?_) (fun e=>?_)⟩
     ·have e:=Xo e;exact no (by unfold mj;rw[Xd c,e];rfl)
     ·have e:¬(l.getD k (dfl (.st .token))).text=[]:=fun q=>e (Xd q);exact nx (by unfold mj;rw[Xd c,Xd (hlen c),j2,Xf e];rfl)
   ·have c3:¬(l.getD k (dfl (.st .token))).kind=3:=fun q=>c (Xd q);refine⟨by omega,a6 (fun q=>absurd q c) (fun _=>?_)⟩;exact nx (by unfold mj;rw[Xf c3];rfl)
 ·have e:k=l.length:=by have:¬((k:Int)<(l.length:Int)):=fun e=>h (Xd e);omega
  subst e;rw[Pt]at h2 h3;unfold ml;rw[Xd h2,h3];rfl
theorem EI(s:Str)(hs:Wf .str s) :
  let A:=bR s;True/\A.1=A.1/\(!decide (A.2.err=(0:Int)))=!decide (A.2.err=(0:Int))/\True:=by
 conv=>zeta
 exact Xr
theorem yM(l:List Tokn)(hl:Wf (.lst (.st .token)) l) :
  let A:=(0:Int);let B:=l=l/\True;let C:=(↑(List.length l):Int);let D:=dfl (Ty.st SN.token);let E:=(1:Int);let F:=True/\false=fO l/\True;let G:=(2:Int);let H:=A<=A;let I:=Int.toNat A;(∃(x:Nat),(x<=List.length l/\fO l=List.all (List.drop x l) iO)/\A=(↑x:Int)/\B)/\∀(x:Nat),let J:=(↑x:Int);let K:=A<=J/\J<C;let L:=List.getD l (Int.toNat J) D;let M:=bR L.text;let N:=(↑(List.length M.1):Int);let O:=List.getD M.1 I D;let P:=inR IntKind.i64 (J+E)/\∃(y:Nat),(y<=List.length l/\fO l=List.all (List.drop y l) iO)/\List.length l-y<List.length l-x/\J+E=(↑y:Int)/\B;let Q:=K/\if(!decide (M.2.err=A))=true then F else if(!decide (N=G))=true then F else(H/\A<N)/\K/\if(!decide (O.kind=L.kind))=true then F else(H/\A<N)/\K/\if(!decide (O.text=L.text))=true then F else P;x<=List.length l/\fO l=List.all (List.drop x l) iO->if decide (J<C)=true then K/\if decide (L.kind=E)=true then Q else K/\if decide (L.kind=G)=true then Q else P else True/\true=fO l/\True:=by
 conv=>zeta
 have ln:=hl.len;simp only[OH,PW,PO,Ph,Pb];refine⟨⟨0,⟨OJ _,rfl⟩,rfl⟩,?_⟩;rintro k ⟨h1,h3⟩;apply a6<;>intro h
 ·replace h:=Xo h;have hk:k<l.length:=by omega
  have eq1:fO l=(iO (l.getD k (dfl (.st .token)))&&(l.drop (k+1)).all iO):=by rw[h3,aJ l k (dfl (.st .token)) hk,P4]
  have nx:iO (l.getD k (dfl (.st .token)))=true->inR IntKind.i64 ((k:Int)+1)/\∃y:Nat,(y<=l.length/\fO l=(l.drop y).all iO)/\l.length-y<l.length-k/\(k:Int)+1=(y:Int):=by intro q;rw[q,OY]at eq1;exact⟨ba hk ln,k+1,⟨by omega,eq1⟩,by omega,by omega⟩
  have no:iO (l.getD k (dfl (.st .token)))=false->false=fO l:=fun q=>by rw[eq1,q];rfl
  have body:((l.getD k (dfl (.st .token))).kind=1∨(l.getD k (dfl (.st .token))).kind=2)->iO (l.getD k (dfl (.st .token)))=(decide ((bR (l.getD k (dfl (.st .token))).text).2.err=0)&&decide ((bR (l.getD k (dfl (.st .token))).text).1.length=2)&&decide (((bR (l.getD k (dfl (.st .token))).text).1.getD 0 (dfl (.st .token))).kind=(l.getD k (dfl (.st .token))).kind)&&decide (((bR (l.getD k (dfl (.st .token))).text).1.getD 0 (dfl (.st .token))).text=(l.getD k (dfl (.st .token))).text)):=fun q=>by unfold iO;rcases q with q|q<;>rw[q]<;>simp
  refine⟨by omega,a6 (fun a=>?_) (fun a=>?_)⟩
  ·have b:=body (.inl (Xo a));refine⟨by omega,a6 (fun d=>?_) (fun d=>?_)⟩
   ·have d:¬(bR (l.getD k (dfl (.st .token))).text).2.err=0:=by simpa using d
    exact no (by rw[b,Xf d];rfl)
   have d:(bR (l.getD k (dfl (.st .token))).text).2.err=0:=by simpa using d
   apply a6<;>intro e
   ·have e:¬((bR (l.getD k (dfl (.st .token))).text).1.length:Int)=2:=by simpa using e
    exact no (by rw[b,Xf (show ¬(bR (l.getD k (dfl (.st .token))).text).1.length=2 by omega)];simp)
   have e:((bR (l.getD k (dfl (.st .token))).text).1.length:Int)=2:=by simpa using e
   refine⟨by omega,by omega,a6 (fun f=>?_) (fun f=>?_)⟩
   ·have f:¬((bR (l.getD k (dfl (.st .token))).text).1.getD 0 (dfl (.st .token))).kind=(l.getD k (dfl (.st .token))).kind:=by simpa using f
    exact no (by rw[b,Xf f];simp)
   have f:((bR (l.getD k (dfl (.st .token))).text).1.getD 0 (dfl (.st .token))).kind=(l.getD k (dfl (.st .token))).kind:=by simpa using f
   refine⟨by omega,by omega,a6 (fun g=>?_) (fun g=>?_)⟩
   ·have g:¬((bR (l.getD k (dfl (.st .token))).text).1.getD 0 (dfl (.st .token))).text=(l.getD k (dfl (.st .token))).text:=by simpa using g
    exact no (by rw[b,Xf g];simp)
   have g:((bR (l.getD k (dfl (.st .token))).text).1.getD 0 (dfl (.st .token))).text=(l.getD k (dfl (.st .token))).text:=by simpa using g
   exact nx (by rw[b,Xd d,Xd f,Xd g,Xd (show(bR (l.getD k (dfl (.st .token))).text).1.length=2 by omega)];rfl)
  ·replace a:¬(l.getD k (dfl (.st .token))).kind=1:=fun e=>a (Xd e);refine⟨by omega,a6 (fun c=>?_) (fun c=>?_)⟩
   ·have b:=body (.inr (Xo c));refine⟨by omega,a6 (fun d=>?_) (fun d=>?_)⟩
    ·have d:¬(bR (l.getD k (dfl (.st .token))).text).2.err=0:=by simpa using d
     exact no (by rw[b,Xf d];rfl)
    have d:(bR (l.getD k (dfl (.st .token))).text).2.err=0:=by simpa using d
    apply a6<;>intro e
    ·have e:¬((bR (l.getD k (dfl (.st .token))).text).1.length:Int)=2:=by simpa using e
     exact no (by rw[b,Xf (show ¬(bR (l.getD k (dfl (.st .token))).text).1.length=2 by omega)];simp)
    have e:((bR (l.getD k (dfl (.st .token))).text).1.length:Int)=2:=by simpa using e
    refine⟨by omega,by omega,a6 (fun f=>?_) (fun f=>?_)⟩
    ·have f:¬((bR (l.getD k (dfl (.st .token))).text).1.getD 0 (dfl (.st .token))).kind=(l.getD k (dfl (.st .token))).kind:=by simpa using f
     exact no (by rw[b,Xf f];simp)
    have f:((bR (l.getD k (dfl (.st .token))).text).1.getD 0 (dfl (.st .token))).kind=(l.getD k (dfl (.st .token))).kind:=by simpa using f
    refine⟨by omega,by omega,a6 (fun g=>?_) (fun g=>?_)⟩
    ·have g:¬((bR (l.getD k (dfl (.st .token))).text).1.getD 0 (dfl (.st .token))).text=(l.getD k (dfl (.st .token))).text:=by simpa using g
     exact no (by rw[b,Xf g];simp)
    have g:((bR (l.getD k (dfl (.st .token))).text).1.getD 0 (dfl (.st .token))).text=(l.getD k (dfl (.st .token))).text:=by simpa using g
    exact nx (by rw[b,Xd d,Xd f,Xd g,Xd (show(bR (l.getD k (dfl (.st .token))).text).1.length=2 by omega)];rfl)
   ·replace c:¬(l.getD k (dfl (.st .token))).kind=2:=fun e=>c (Xd e);exact nx (by unfold iO;rw[Xf a,Xf c];rfl)
 ·have e:k=l.length:=by have:¬((k:Int)<(l.length:Int)):=fun e=>h (Xd e);omega
  subst e;rw[h3,OO];rfl
theorem Iw(F:Str->Shape×Flt)(G:Str->Trm×Flt)  :
  let A:=(F ([40,73,110,116,44,32,91,75,101,121,93,41,32,45,62,32,123,97,58,32,113,47,73,100,125]:Str));let B:=(0:Int);let C:=(F ([123,97,58,32,73,110,116,44,32,97,58,32,73,110,116,125]:Str));let D:=(G ([102,46,97,40,49,41]:Str));let E:=(↑(List.length D.1.parts):Int);let H:=(1:Int);let I:=True/\false=uM F G/\True;if decide (A.2.err=B)=true then if decide (A.1.kind=(8:Int))=true then if decide ((↑(List.length A.1.parts):Int)=(3:Int))=true then if(decide (C.2.err=(111:Int))&&(decide (C.2.pos=(9:Int))&&true))=true then if decide (D.2.err=B)=true then if decide (D.1.kind=(7:Int))=true then if decide (E=(2:Int))=true then(B<=H/\H<E)/\if decide ((List.getD D.1.parts (Int.toNat H) (dfl (Ty.st SN.term))).pos=(4:Int))=true then True/\decide ((G ([91,73,110,116]:Str)).2.err=(90:Int))=uM F G/\True else I else I else I else I else I else I else I else I:=by
 conv=>zeta
 unfold uM;simp only[PO,Ph,Pb,Int.toNat_one];apply a6<;>intro h1
 ·rw[h1];apply a6<;>intro h2
  ·rw[h2];apply a6<;>intro h3
   ·have h3n:=Xo h3;rw[Xd (show _=3 by omega)];apply a6<;>intro h4
    ·rw[OF,Qe]at h4;rw[h4.1,h4.2];apply a6<;>intro h5
     ·rw[h5];apply a6<;>intro h6
      ·rw[h6];apply a6<;>intro h7
       ·have h7n:=Xo h7;rw[Xd (show _=2 by omega)];refine⟨by omega,a6 (fun h8=>?_) (fun h8=>?_)⟩
        ·rw[h8];simp
        ·rw[Pf]at h8;rw[h8];simp
       ·rw[Xf (fun e=>h7 (Xd (by omega)))];simp
      ·rw[Pf]at h6;rw[h6];simp
     ·rw[Pf]at h5;rw[h5];simp
    ·rw[Pf,Qe,Q5]at h4;rcases h4 with h4|h4<;>rw[h4]<;>simp
   ·rw[Xf (fun e=>h3 (Xd (by omega)))];simp
  ·rw[Pf]at h2;rw[h2];simp
 ·rw[Pf]at h1;rw[h1];simp
theorem uN(F:List Tokn->Int->Trm×Int×Flt)(l:List Tokn)(a:Int)(hl:Wf (.lst (.st .token)) l) :
  let A:=True/\true=true/\True;let B:=([]:List Tokn);let C:=F ([]++l) a;let D:=F l a;let E:=True/\false=true/\True;if(!ml l)=true then A else if(!fO l)=true then A else(List.length B=List.length B/\(List.length B+List.length l)*(32:Nat)<=(140737488355328:Nat))/\aO ([]++l)/\(aO l/\iN l)/\szT C.1<=szT D.1/\if eqT C.1 D.1 true=true then if decide (C.2.1=D.2.1)=true then if(decide (C.2.2.err=D.2.2.err)&&(decide (C.2.2.pos=D.2.2.pos)&&true))=true then A else E else E else E:=by
 conv=>zeta
 refine a6 (fun _=>Xr) (fun f=>?_);have f:ml l=true:=by simpa using f
 refine a6 (fun _=>Xr) (fun _=>?_);have hn:=MX f;rw[OM];refine⟨⟨rfl,by simp only[P7];omega⟩,BT f,⟨BT f,Iu f⟩,ON _,?_⟩;rw[eqT_self,OB rfl,OB (by simp),OB (by simp)];exact Xr
end Go.AL.Seat
end
section
open Go Go.AL Go.Proofs Go.Shelf Go.Pd
namespace Go.AL.Seat
open Go.Proofs.Tryz
variable [Tabs]
variable [SeatLaid]
theorem EJ:ab prog 16 (p2 (.lst (.st .token)) (.int .i64) fun l a=>⟨some (aO l/\iN l),none,.tup [.st .term (bS l a).1,.int .i64 (bS l a).2.1,.st .fault (bS l a).2.2],[]⟩):=
 dB (ee func16) fun l a hl _ ho=>g0 (sc E5 (sc (uD 5000) (sc EE (sc fA sn)))) a0 func16 (Iv l a hl (ho _ rfl))
theorem Lw:ab prog 9 (p1 (.lst (.st .token)) fun l=>.ret (.bool (ml l))):=
 b7 (ee func9) fun l hl _=>g0 sn ⟨[(3,fun S0=>⟨Nat,fun k=>k<=l.length/\gd (l.take k)<=100000/\(l.take k).all mj=true,fun k=>[(3,.int .i64 (gd (l.take k):Int)),(4,.int .i64 k)],fun _=>[],fun k=>l.length-k⟩),(11,fun S0=>IK S0 4 fun k0=>⟨Nat,fun j=>j<=(l.getD k0.toNat (dfl (.st .token))).text.length/\((l.getD k0.toNat (dfl (.st .token))).text.take j).all cI=true,fun j=>[(5,.int .i64 j)],fun _=>[],fun j=>(l.getD k0.toNat (dfl (.st .token))).text.length-j⟩)],[],[]⟩ func9 (MZ l hl)
theorem BU:ab prog 22 (p1 .str fun s=>.ret (.tup [.lst (.st .token) (bR s).1 none,.bool (!decide ((bR s).2.err=0))])):=
 b7 (ee func22) fun s hs _=>g0 (sc HS sn) a0 func22 (EI s hs)
theorem vu:ab prog 10 (p1 (.lst (.st .token)) fun l=>.ret (.bool (fO l))):=
 b7 (ee func10) fun l hl _=>g0 (sc BU sn) ⟨[(2,fun S0=>⟨Nat,fun k=>k<=l.length/\fO l=(l.drop k).all iO,fun k=>[(3,.int .i64 k)],fun _=>[],fun k=>l.length-k⟩)],[],[]⟩ func10 (yM l hl)
theorem Ix:aA prog 11:=ee func11
theorem yN(F:Str->Shape×Flt)(G:Str->Trm×Flt) (hF:ab prog 18 (p1 .str fun s=>.ret (.tup [.st .shape (F s).1,.st .fault (F s).2])))(hG:ab prog 20 (p1 .str fun s=>.ret (.tup [.st .term (G s).1,.st .fault (G s).2]))):aB prog 11 [] [] (.ret (.bool (uM F G))):=
 g0 (sc (hF) (sc (hG) sn)) a0 func11 (Iw F G)
theorem EK:ab prog 11 (p0 (.ret (.bool true))):=Ob Ix (EH ▸ yN qv qw y8 y9)
theorem pY(F:List Tokn->Int->Trm×Int×Flt)(l:List Tokn)(a:Int)(hl:Wf (.lst (.st .token)) l)(hF:ab prog 15 (p2 (.lst (.st .token)) (.int .i64) fun l a=>⟨some (aO l),none,.tup [.st .term (F l a).1,.int .i64 (F l a).2.1,.st .fault (F l a).2.2],[]⟩))(hG:ab prog 16 (p2 (.lst (.st .token)) (.int .i64) fun l a=>⟨some (aO l/\iN l),none,.tup [.st .term (F l a).1,.int .i64 (F l a).2.1,.st .fault (F l a).2.2],[]⟩)):aB prog 4 [.lst (.st .token) l none,.int .i64 a] [] (.ret (.bool true)):=
 g0 (sc Lw (sc vu (sc (EK) (sc (hF) (sc (hG) (sc (EF (szT (F l a).1)) sn)))))) a0 func4 (uN F l a hl)
end Go.AL.Seat
end
