/- What the functions' conditions say, proved. The contracts of the functions. Plain facts. No condition. -/
import Derived.Test.YtkecedofomlppaaGreatDoorT05
set_option linter.all false
set_option maxRecDepth 100000
section
open Go Go.AL Go.Pd
namespace Go.AL.Seat
theorem EV (n:Nat) (s:Trm) (m:Int) (hs:Wf (.st .term) s) (ho:szT s<=n+1/\0<=m/\m<=1000000) :
  let A:=(1:Int);let B:=(0:Int);let C:=s=s/\m=m/\B=B/\s=s/\True;let D:=(↑(List.length s.parts):Int);let E:=dfl (Ty.st SN.term);(∃(x:Nat × Int),(x.1<=List.length s.parts/\A<=x.2/\x.2<=m+A/\sizeTL (List.drop x.1 s.parts) x.2 m=dr s m)/\A=x.2/\B=(↑x.1:Int)/\C)/\∀(x:Nat × Int),let F:=(↑x.1:Int);let G:=m - x.2;let H:=List.getD s.parts (Int.toNat F) E;let I:=True/\x.2=dr s m/\True;x.1<=List.length s.parts/\A<=x.2/\x.2<=m+A/\sizeTL (List.drop x.1 s.parts) x.2 m=dr s m→if decide (F<D)=true then if decide (x.2<=m)=true then (B<=F/\F<D)/\inR IntKind.i64 G/\(szT H<=n/\B<=m - x.2/\m - x.2<=(1000000:Int))/\inR IntKind.i64 (x.2+dr H G)/\inR IntKind.i64 (F+A)/\∃(y:Nat × Int),(y.1<=List.length s.parts/\A<=y.2/\y.2<=m+A/\sizeTL (List.drop y.1 s.parts) y.2 m=dr s m)/\List.length s.parts - y.1<List.length s.parts - x.1/\x.2+dr H G=y.2/\F+A=(↑y.1:Int)/\C else I else I:=by
 conv=>zeta
 have ln:=hs.term_parts.len
 have hz:=eD s
 obtain ⟨ho1,ho2,ho3⟩:=ho
 have h0:sizeTL s.parts 1 m=dr s m:=by cases s;rw [dr]
 simp only [Int.toNat_natCast,eq_self,true_and,and_true]
 refine ⟨⟨(0,1),⟨Nat.zero_le _,by omega,by omega,h0⟩,rfl,rfl⟩,?_⟩
 rintro ⟨k,c⟩ ⟨h1,h2,h3,h4⟩
 simp only at h1 h2 h3 h4 ⊢
 refine aa (fun hk=>?_) (fun hk=>?_)
 ·replace hk:=Xo hk
  have hk:k < s.parts.length:=by omega
  have hm:=dI (aL s.parts k (dfl (.st .term)) hk)
  rw [ai s.parts k (dfl (.st .term)) hk] at h4
  simp only [sizeTL] at h4
  refine aa (fun hc=>?_) (fun hc=>?_)
  ·replace hc:=Xo hc
   rw [if_pos hc] at h4
   have hb:=sizeT_bd (s.parts.getD k (dfl (.st .term))) (m - c) (by omega)
   exact ⟨by omega,aJ (by omega) (by omega),by omega,aJ (by omega) (by omega),ar hk ln,(k+1,_),⟨by omega,by simp only;omega,by simp only;omega,h4⟩,by simp only;omega,rfl,rfl⟩
  ·rw [if_neg (fun e=>hc (Xd e))] at h4
   exact h4
 ·replace hk:¬((k:Int) < (s.parts.length:Int)):=fun e=>hk (Xd e)
  have e:k=s.parts.length:=by omega
  subst e
  rw [List.drop_length] at h4
  simp only [sizeTL] at h4
  exact h4
theorem EW (n:Nat) (s:Trm) (hs:Wf (.st .term) s) (hn:szT s<=n+1) (hb:n<=1000000) :
  let A:=(0:Int);let B:=(↑(maxDT s.parts):Int);let C:=s=s/\A=A/\s=s/\True;let D:=(↑(List.length s.parts):Int);let E:=dfl (Ty.st SN.term);let F:=(1:Int);(∃(x:Nat × Int),(x.1<=List.length s.parts/\A<=x.2/\max x.2 (↑(maxDT (List.drop x.1 s.parts)):Int)=B)/\A=x.2/\A=(↑x.1:Int)/\C)/\∀(x:Nat × Int),let G:=(↑x.1:Int);let H:=List.getD s.parts (Int.toNat G) E;let I:=(↑(deepT H):Int);let J:=inR IntKind.i64 (G+F);x.1<=List.length s.parts/\A<=x.2/\max x.2 (↑(maxDT (List.drop x.1 s.parts)):Int)=B→if decide (G<D)=true then (A<=G/\G<D)/\szT H<=n/\if decide (x.2<I)=true then J/\∃(y:Nat × Int),(y.1<=List.length s.parts/\A<=y.2/\max y.2 (↑(maxDT (List.drop y.1 s.parts)):Int)=B)/\List.length s.parts - y.1<List.length s.parts - x.1/\I=y.2/\G+F=(↑y.1:Int)/\C else J/\∃(y:Nat × Int),(y.1<=List.length s.parts/\A<=y.2/\max y.2 (↑(maxDT (List.drop y.1 s.parts)):Int)=B)/\List.length s.parts - y.1<List.length s.parts - x.1/\x.2=y.2/\G+F=(↑y.1:Int)/\C else inR IntKind.i64 (x.2+F)/\True/\x.2+F=(↑(deepT s):Int)/\True:=by
 conv=>zeta
 have ln:=hs.term_parts.len
 have hz:=eD s
 have hd:deepT s=maxDT s.parts+1:=by cases s;rw [deepT]
 have hds:=maxDT_sz s.parts
 simp only [Int.toNat_natCast,eq_self,true_and,and_true]
 refine ⟨⟨(0,0),⟨Nat.zero_le _,by simp,by simp only [List.drop_zero];omega⟩,rfl,rfl⟩,?_⟩
 rintro ⟨k,c⟩ ⟨h1,h2,h3⟩
 simp only at h1 h2 h3 ⊢
 refine aa (fun h=>?_) (fun h=>?_)
 ·replace h:=Xo h
  have hk:k < s.parts.length:=by omega
  have hm:=dI (aL s.parts k (dfl (.st .term)) hk)
  rw [ai s.parts k (dfl (.st .term)) hk] at h3
  simp only [maxDT] at h3
  refine ⟨by omega,by omega,aa (fun a=>?_) (fun a=>?_)⟩
  ·replace a:=Xo a
   exact ⟨ar hk ln,(k+1,(deepT (s.parts.getD k (dfl (.st .term))):Int)),⟨by omega,by simp only;omega,by simp only;omega⟩,by simp only;omega,rfl,rfl⟩
  ·replace a:¬c < (deepT (s.parts.getD k (dfl (.st .term))):Int):=fun e=>a (Xd e)
   exact ⟨ar hk ln,(k+1,c),⟨by omega,by simp only;omega,by simp only;omega⟩,by simp only;omega,rfl,rfl⟩
 ·replace h:¬((k:Int) < (s.parts.length:Int)):=fun e=>h (Xd e)
  have e:k=s.parts.length:=by omega
  subst e
  rw [List.drop_length] at h3
  simp only [maxDT] at h3
  exact ⟨aJ (by omega) (by omega),by omega⟩
theorem Cf (s:Trm) (hs:Wf (.st .term) s) (ho:cR s=true) :
  let A:=(4096:Int);let B:=True;let C:=szT s<=(4096:Nat);(szT s<=szT s/\(0:Int)<=A/\A<=(1000000:Int))/\if decide (A<dr s A)=true then B/\(3:Int)=bD s/\B else C/\if decide ((40:Int)<(↑(deepT s):Int))=true then B/\(91:Int)=bD s/\B else (C/\cR s=true)/\if (!allT aq s)=true then B/\(80:Int)=bD s/\B else B/\(0:Int)=bD s/\B:=by
 conv=>zeta
 simp only [eq_self,true_and,and_true]
 rw [yj]
 refine ⟨⟨Nat.le_refl _,by omega,by omega⟩,aa (fun h=>?_) (fun h=>?_)⟩
 ·rw [if_pos (Xo h)]
 ·have h':¬(4096:Int) < dr s 4096:=fun e=>h (Xd e)
  have hs4:szT s<=4096:=by rw [sizeT_eq s 4096 (by omega)] at h';omega
  rw [if_neg h']
  refine ⟨hs4,aa (fun g=>?_) (fun g=>⟨⟨hs4,ho⟩,?_⟩)⟩
  ·rw [if_pos (Xo g)]
  ·rw [if_neg (fun e=>g (Xd e))]
   cases allT aq s <;> simp
theorem vW (a b:List Str) (ha:Wf (.lst .str) a) (hb:Wf (.lst .str) b) :
  let A:=(↑(List.length a):Int);let B:=(↑(List.length b):Int);let C:=True/\false=decide (a=b)/\True;let D:=List.length a=List.length b;let E:=(0:Int);let F:=a=a/\b=b/\false=false/\True;if (!decide (A=B))=true then C else (∃(x:Nat),(x<=List.length a/\D/\(a=b↔List.drop x a=List.drop x b))/\E=(↑x:Int)/\F)/\∀(x:Nat),let G:=(↑x:Int);x<=List.length a/\D/\(a=b↔List.drop x a=List.drop x b)→if decide (G<A)=true then (E<=G/\G<A)/\(E<=G/\G<B)/\if (!decide (List.getD a (Int.toNat G) (dfl Ty.str)=List.getD b (Int.toNat G) (dfl Ty.str)))=true then C else inR IntKind.i64 (G+(1:Int))/\∃(y:Nat),(y<=List.length a/\D/\(a=b↔List.drop y a=List.drop y b))/\List.length a - y<List.length a - x/\G+(1:Int)=(↑y:Int)/\F else True/\true=decide (a=b)/\True:=by
 conv=>zeta
 have la:=ha.len
 simp only [Int.toNat_natCast,eq_self,true_and,and_true]
 refine aa (fun h=>?_) (fun h=>?_)
 ·have h:¬(a.length:Int)=b.length:=by simpa using h
  symm
  rw [decide_eq_false_iff_not]
  intro e
  rw [e] at h
  exact h rfl
 have hl:a.length=b.length:=by simp at h;omega
 refine ⟨⟨0,⟨by omega,hl,by simp⟩,by simp⟩,?_⟩
 rintro k ⟨h1,_,h3⟩
 refine aa (fun h=>?_) (fun h=>?_)
 ·replace h:=Xo h
  have hk:k < a.length:=by omega
  have hk':k < b.length:=by omega
  rw [ai a k (dfl .str) hk,ai b k (dfl .str) hk',List.cons.injEq] at h3
  refine ⟨by omega,by omega,aa (fun c=>?_) (fun c=>?_)⟩
  ·have c:¬a.getD k (dfl .str)=b.getD k (dfl .str):=by simpa using c
   symm
   rw [decide_eq_false_iff_not]
   exact fun e=>c (h3.1 e).1
  ·have c:a.getD k (dfl .str)=b.getD k (dfl .str):=by simpa using c
   exact ⟨ar hk la,k+1,⟨by omega,hl,h3.trans ⟨fun e=>e.2,fun e=>⟨c,e⟩⟩⟩,by omega,by omega⟩
 ·replace h:¬((k:Int) < (a.length:Int)):=fun e=>h (Xd e)
  have e:k=a.length:=by omega
  subst e
  symm
  rw [decide_eq_true_iff]
  rw [List.drop_length,hl,List.drop_length] at h3
  exact h3.2 rfl
theorem Cg (n:Nat) (a b:Trm) (p:Bool) (ha:Wf (.st .term) a) (hb:Wf (.st .term) b) (hn:szT a<=n+1) :
  let A:=True/\false=eqT a b p/\True;let B:=(↑(List.length a.shapes):Int);let C:=(↑(List.length b.shapes):Int);let D:=(↑(List.length a.parts):Int);let E:=(↑(List.length b.parts):Int);let F:=List.length a.shapes=List.length b.shapes;let G:=List.length a.parts=List.length b.parts;let H:=(0:Int);let I:=false=false;let J:=I/\I/\a=a/\b=b/\True;let K:=a=a/\b=b/\p=p/\J;let L:=dfl (Ty.st SN.shape);let M:=(1:Int);let N:=a=a/\b=b/\p=p/\I/\J;let O:=dfl (Ty.st SN.term);let P:=if (!decide (a.names=b.names))=true then A else if (!decide (a.vars=b.vars))=true then A else if (!decide (B=C))=true then A else if (!decide (D=E))=true then A else (∃(x:Nat),(x<=List.length a.shapes/\F/\G/\eqT a b p=(eqL (List.drop x a.shapes) (List.drop x b.shapes) && eqTL a.parts b.parts p))/\H=(↑x:Int)/\K)/\∀(x:Nat),let Q:=(↑x:Int);let R:=List.getD a.shapes (Int.toNat Q) L;x<=List.length a.shapes/\F/\G/\eqT a b p=(eqL (List.drop x a.shapes) (List.drop x b.shapes) && eqTL a.parts b.parts p)→if decide (Q<B)=true then (H<=Q/\Q<B)/\(H<=Q/\Q<C)/\sz R<=szL a.shapes/\if (!eqS R (List.getD b.shapes (Int.toNat Q) L))=true then A else inR IntKind.i64 (Q+M)/\∃(y:Nat),(y<=List.length a.shapes/\F/\G/\eqT a b p=(eqL (List.drop y a.shapes) (List.drop y b.shapes) && eqTL a.parts b.parts p))/\List.length a.shapes - y<List.length a.shapes - x/\Q+M=(↑y:Int)/\K else (∃(x_1:Nat),(x_1<=List.length a.parts/\G/\eqT a b p=eqTL (List.drop x_1 a.parts) (List.drop x_1 b.parts) p)/\H=(↑x_1:Int)/\Q=Q/\N)/\∀(x_1:Nat),let S:=(↑x_1:Int);let T:=List.getD a.parts (Int.toNat S) O;x_1<=List.length a.parts/\G/\eqT a b p=eqTL (List.drop x_1 a.parts) (List.drop x_1 b.parts) p→if decide (S<D)=true then (H<=S/\S<D)/\(H<=S/\S<E)/\szT T<=n/\if (!eqT T (List.getD b.parts (Int.toNat S) O) p)=true then A else inR IntKind.i64 (S+M)/\∃(y:Nat),(y<=List.length a.parts/\G/\eqT a b p=eqTL (List.drop y a.parts) (List.drop y b.parts) p)/\List.length a.parts - y<List.length a.parts - x_1/\S+M=(↑y:Int)/\Q=Q/\N else True/\true=eqT a b p/\True;if (!decide (a.kind=b.kind))=true then A else if (!decide (a.pkg=b.pkg))=true then A else if (!decide (a.name=b.name))=true then A else if (!decide (a.n=b.n))=true then A else if p=true then if (!decide (a.pos=b.pos))=true then A else P else P:=by
 conv=>zeta
 have lnS:=ha.term_shapes.len
 have lnP:=ha.term_parts.len
 have hz:=eD a
 simp only [Int.toNat_natCast,eq_self,true_and,and_true]
 refine aa (fun h=>?_) (fun h1=>?_)
 ·have h:¬a.kind=b.kind:=by simpa using h
  rw [dQ,Xf h];simp
 have h1:a.kind=b.kind:=by simpa using h1
 refine aa (fun h=>?_) (fun h2=>?_)
 ·have h:¬a.pkg=b.pkg:=by simpa using h
  rw [dQ,Xf h];simp
 have h2:a.pkg=b.pkg:=by simpa using h2
 refine aa (fun h=>?_) (fun h3=>?_)
 ·have h:¬a.name=b.name:=by simpa using h
  rw [dQ,Xf h];simp
 have h3:a.name=b.name:=by simpa using h3
 refine aa (fun h=>?_) (fun h4=>?_)
 ·have h:¬a.n=b.n:=by simpa using h
  rw [dQ,Xf h];simp
 have h4:a.n=b.n:=by simpa using h4
 refine aa (fun hp=>?_) (fun hp=>?_)
 ·refine aa (fun h=>?_) (fun h5=>?_)
  ·have h:¬a.pos=b.pos:=by simpa using h
   rw [dQ,Xf h,hp];simp
  have h5:a.pos=b.pos:=by simpa using h5
  have h5:(!p || decide (a.pos=b.pos))=true:=by rw [Xd h5,Bool.or_true]
  refine aa (fun h=>?_) (fun h6=>?_)
  ·have h:¬a.names=b.names:=by simpa using h
   rw [dQ,Xf h];simp
  have h6:a.names=b.names:=by simpa using h6
  refine aa (fun h=>?_) (fun h7=>?_)
  ·have h:¬a.vars=b.vars:=by simpa using h
   rw [dQ,Xf h];simp
  have h7:a.vars=b.vars:=by simpa using h7
  refine aa (fun h=>?_) (fun h8=>?_)
  ·have h:¬(a.shapes.length:Int)=b.shapes.length:=by simpa using h
   rw [dQ,ow (by omega)];simp
  have h8:(a.shapes.length:Int)=b.shapes.length:=by simpa using h8
  refine aa (fun h=>?_) (fun h9=>?_)
  ·have h:¬(a.parts.length:Int)=b.parts.length:=by simpa using h
   rw [dQ,pT (by omega)];simp
  have h9:(a.parts.length:Int)=b.parts.length:=by simpa using h9
  have hS:a.shapes.length=b.shapes.length:=by omega
  have hP:a.parts.length=b.parts.length:=by omega
  have e0:eqT a b p=(eqL a.shapes b.shapes && eqTL a.parts b.parts p):=by
   rw [dQ,Xd h1,Xd h2,Xd h3,Xd h4,h5,Xd h6,Xd h7];simp
  refine ⟨⟨0,⟨Nat.zero_le _,hS,hP,e0⟩,rfl⟩,?_⟩
  rintro k ⟨q1,_,_,q4⟩
  refine aa (fun h=>?_) (fun h=>?_)
  ·replace h:=Xo h
   have hk:k < a.shapes.length:=by omega
   have hk':k < b.shapes.length:=by omega
   have hm:=dA (aL a.shapes k (dfl (.st .shape)) hk)
   rw [ai a.shapes k (dfl (.st .shape)) hk,ai b.shapes k (dfl (.st .shape)) hk',eqL] at q4
   refine ⟨by omega,by omega,hm,aa (fun e=>?_) (fun e=>?_)⟩
   ·have e:eqS (a.shapes.getD k (dfl (.st .shape))) (b.shapes.getD k (dfl (.st .shape)))=false:=by simpa using e
    rw [q4,e];rfl
   ·have e:eqS (a.shapes.getD k (dfl (.st .shape))) (b.shapes.getD k (dfl (.st .shape)))=true:=by simpa using e
    rw [e,Bool.true_and] at q4
    exact ⟨ar hk lnS,k+1,⟨by omega,hS,hP,q4⟩,by omega,by omega⟩
  have ek:k=a.shapes.length:=by
   have:¬((k:Int) < (a.shapes.length:Int)):=fun e=>h (Xd e)
   omega
  have e1:eqT a b p=eqTL a.parts b.parts p:=by
   rw [q4,ek,List.drop_length,hS,List.drop_length];rfl
  refine ⟨⟨0,⟨Nat.zero_le _,hP,e1⟩,rfl⟩,?_⟩
  rintro j ⟨r1,_,r4⟩
  refine aa (fun h=>?_) (fun h=>?_)
  ·replace h:=Xo h
   have hk:j < a.parts.length:=by omega
   have hk':j < b.parts.length:=by omega
   have hm:=dI (aL a.parts j (dfl (.st .term)) hk)
   rw [ai a.parts j (dfl (.st .term)) hk,ai b.parts j (dfl (.st .term)) hk',eqTL] at r4
   refine ⟨by omega,by omega,by omega,aa (fun e=>?_) (fun e=>?_)⟩
   ·have e:eqT (a.parts.getD j (dfl (.st .term))) (b.parts.getD j (dfl (.st .term))) p=false:=by simpa using e
    rw [r4,e];rfl
   ·have e:eqT (a.parts.getD j (dfl (.st .term))) (b.parts.getD j (dfl (.st .term))) p=true:=by simpa using e
    rw [e,Bool.true_and] at r4
    exact ⟨ar hk lnP,j+1,⟨by omega,hP,r4⟩,by omega,by omega⟩
  ·have ej:j=a.parts.length:=by
    have:¬((j:Int) < (a.parts.length:Int)):=fun e=>h (Xd e)
    omega
   rw [r4,ej,List.drop_length,hP,List.drop_length];rfl
 ·have hp:p=false:=by simpa using hp
  have h5:(!p || decide (a.pos=b.pos))=true:=by rw [hp];rfl
  refine aa (fun h=>?_) (fun h6=>?_)
  ·have h:¬a.names=b.names:=by simpa using h
   rw [dQ,Xf h];simp
  have h6:a.names=b.names:=by simpa using h6
  refine aa (fun h=>?_) (fun h7=>?_)
  ·have h:¬a.vars=b.vars:=by simpa using h
   rw [dQ,Xf h];simp
  have h7:a.vars=b.vars:=by simpa using h7
  refine aa (fun h=>?_) (fun h8=>?_)
  ·have h:¬(a.shapes.length:Int)=b.shapes.length:=by simpa using h
   rw [dQ,ow (by omega)];simp
  have h8:(a.shapes.length:Int)=b.shapes.length:=by simpa using h8
  refine aa (fun h=>?_) (fun h9=>?_)
  ·have h:¬(a.parts.length:Int)=b.parts.length:=by simpa using h
   rw [dQ,pT (by omega)];simp
  have h9:(a.parts.length:Int)=b.parts.length:=by simpa using h9
  have hS:a.shapes.length=b.shapes.length:=by omega
  have hP:a.parts.length=b.parts.length:=by omega
  have e0:eqT a b p=(eqL a.shapes b.shapes && eqTL a.parts b.parts p):=by
   rw [dQ,Xd h1,Xd h2,Xd h3,Xd h4,h5,Xd h6,Xd h7];simp
  refine ⟨⟨0,⟨Nat.zero_le _,hS,hP,e0⟩,rfl⟩,?_⟩
  rintro k ⟨q1,_,_,q4⟩
  refine aa (fun h=>?_) (fun h=>?_)
  ·replace h:=Xo h
   have hk:k < a.shapes.length:=by omega
   have hk':k < b.shapes.length:=by omega
   have hm:=dA (aL a.shapes k (dfl (.st .shape)) hk)
   rw [ai a.shapes k (dfl (.st .shape)) hk,ai b.shapes k (dfl (.st .shape)) hk',eqL] at q4
   refine ⟨by omega,by omega,hm,aa (fun e=>?_) (fun e=>?_)⟩
   ·have e:eqS (a.shapes.getD k (dfl (.st .shape))) (b.shapes.getD k (dfl (.st .shape)))=false:=by simpa using e
    rw [q4,e];rfl
   ·have e:eqS (a.shapes.getD k (dfl (.st .shape))) (b.shapes.getD k (dfl (.st .shape)))=true:=by simpa using e
    rw [e,Bool.true_and] at q4
    exact ⟨ar hk lnS,k+1,⟨by omega,hS,hP,q4⟩,by omega,by omega⟩
  have ek:k=a.shapes.length:=by
   have:¬((k:Int) < (a.shapes.length:Int)):=fun e=>h (Xd e)
   omega
  have e1:eqT a b p=eqTL a.parts b.parts p:=by
   rw [q4,ek,List.drop_length,hS,List.drop_length];rfl
  refine ⟨⟨0,⟨Nat.zero_le _,hP,e1⟩,rfl⟩,?_⟩
  rintro j ⟨r1,_,r4⟩
  refine aa (fun h=>?_) (fun h=>?_)
  ·replace h:=Xo h
   have hk:j < a.parts.length:=by omega
   have hk':j < b.parts.length:=by omega
   have hm:=dI (aL a.parts j (dfl (.st .term)) hk)
   rw [ai a.parts j (dfl (.st .term)) hk,ai b.parts j (dfl (.st .term)) hk',eqTL] at r4
   refine ⟨by omega,by omega,by omega,aa (fun e=>?_) (fun e=>?_)⟩
   ·have e:eqT (a.parts.getD j (dfl (.st .term))) (b.parts.getD j (dfl (.st .term))) p=false:=by simpa using e
    rw [r4,e];rfl
   ·have e:eqT (a.parts.getD j (dfl (.st .term))) (b.parts.getD j (dfl (.st .term))) p=true:=by simpa using e
    rw [e,Bool.true_and] at r4
    exact ⟨ar hk lnP,j+1,⟨by omega,hP,r4⟩,by omega,by omega⟩
  ·have ej:j=a.parts.length:=by
    have:¬((j:Int) < (a.parts.length:Int)):=fun e=>h (Xd e)
    omega
   rw [r4,ej,List.drop_length,hP,List.drop_length];rfl
theorem yX (s:Str)  :
  if (!decide (s=[]))=true then ([48,49,50,51,52,53,54,55,56,57]:Str)=nY/\True/\decide (kG s=[])=aI s/\True else True/\false=aI s/\True:=by
 have e:∀l:Str,(l.all kF)=l.all fun c=>bJ (bI c):=fun _=>rfl
 refine aa (fun h=>?_) (fun h=>?_)
 ·refine ⟨rfl,trivial,?_,trivial⟩
  unfold aI
  rw [h,Bool.true_and,←e]
  exact Bool.eq_iff_iff.2 (decide_eq_true_iff.trans (Bq s))
 ·refine ⟨trivial,?_,trivial⟩
  unfold aI
  rw [Bool.not_eq_true] at h
  rw [h,Bool.false_and]
theorem EX (s:Str) (hs:Wf .str s) :
  let A:=True/\false=bP s/\True;let B:=(0:Int);let C:=(↑(List.length s):Int);let D:=(0:UInt8);let E:=(List.all s fun (c:UInt8)=>dF (bI c));let F:=s=s/\false=false/\C=C/\True;let G:=(1:Int);let H:=(65:Int);let I:=(90:Int);let J:=(45:Int);let K:=(∃(x:Nat),(x<=List.length s/\E=List.all (List.drop x s) fun (c:UInt8)=>dF (bI c))/\B=(↑x:Int)/\F)/\∀(x:Nat),let L:=(↑x:Int);let M:=(↑(UInt8.toNat (List.getD s (Int.toNat L) D)):Int);let N:=inR IntKind.i64 (L+G)/\∃(y:Nat),(y<=List.length s/\E=List.all (List.drop y s) fun (c:UInt8)=>dF (bI c))/\List.length s - y<List.length s - x/\L+G=(↑y:Int)/\F;let O:=if (!decide (M=J))=true then A else N;let P:=if decide (H<=M)=true then if decide (M<=I)=true then N else O else O;let Q:=if decide ((97:Int)<=M)=true then if decide (M<=(122:Int))=true then N else P else P;(x<=List.length s/\E=List.all (List.drop x s) fun (c:UInt8)=>dF (bI c))→if decide (L<C)=true then (B<=L/\L<C)/\if decide ((48:Int)<=M)=true then if decide (M<=(57:Int))=true then N else Q else Q else True/\true=bP s/\True;if decide (s=[])=true then A else if aI s=true then (B<=B/\B<C)/\if decide ((↑(UInt8.toNat (List.getD s (Int.toNat B) D)):Int)=(48:Int))=true then if (!decide (s=([48]:Str)))=true then A else K else K else K:=by
 conv=>zeta
 refine aa (fun h=>?_) (fun h=>?_)
 ·replace h:=Xo h
  subst h
  exact ⟨trivial,rfl,trivial⟩
 have hne:s≠[]:=fun e=>h (Xd e)
 have hpos:=List.length_pos_iff.2 hne
 refine aa (fun h1=>?_) (fun h1=>?_)
 ·refine ⟨⟨by omega,by omega⟩,aa (fun h2=>?_) (fun h2=>?_)⟩
  ·refine aa (fun h3=>?_) (fun h3=>?_)
   ·refine ⟨trivial,?_,trivial⟩
    have e:decide (bI (s.getD 0 0)=48)=true:=h2
    unfold bP
    rw [h1,e,h3]
    simp
   ·have hz:(aI s && decide (bI (s.getD 0 0)=48) && !decide (s=[48]))=false:=by rw [Bool.not_eq_true] at h3;rw [h3,Bool.and_false]
    refine ⟨⟨0,⟨Nat.zero_le _,rfl⟩,rfl,rfl,rfl,rfl,trivial⟩,?_⟩
    rintro k ⟨h1,h2⟩
    simp only [Int.toNat_natCast]
    refine aa (fun h=>?_) (fun h=>?_)
    ·have hk:k < s.length:=by have:=Xo h;omega
     rw [ai s k 0 hk,List.all_cons] at h2
     have eb:((s.getD k 0).toNat:Int)=bI (s.getD k 0):=rfl
     refine ⟨⟨by omega,by omega⟩,?_⟩
     simp only [eb]
     have hp:=jN (bI (s.getD k 0))
     have yes:dF (bI (s.getD k 0))=true→(s.all fun c=>dF (bI c))=(s.drop (k+1)).all fun c=>dF (bI c):=fun e=>by rw [h2,e,Bool.true_and]
     have no:¬dF (bI (s.getD k 0))=true→false=bP s:=fun e=>by rw [ir hne hz,h2,Bool.eq_false_iff.2 e,Bool.false_and]
     generalize bI (s.getD k 0)=c at hp yes no ⊢
     repeat' (refine aa (fun _=>?_) (fun _=>?_))
     all_goals (simp only [decide_eq_true_eq,Bool.not_eq_true',decide_eq_false_iff_not] at *)
     all_goals first
      | exact ⟨trivial,no (fun e=>by have:=hp.1 e;omega),trivial⟩
      | exact ⟨ar hk hs.str,k+1,⟨by omega,yes (hp.2 (by omega))⟩,by omega,by omega,(by first | rfl | trivial),(by first | rfl | trivial),(by first | rfl | trivial),trivial⟩
    ·have hk:k=s.length:=by
      have:¬((k:Int) < (s.length:Int)):=fun e=>h (Xd e)
      omega
     refine ⟨trivial,?_,trivial⟩
     rw [ir hne hz,h2,hk,List.drop_length]
     rfl
  ·have hz:(aI s && decide (bI (s.getD 0 0)=48) && !decide (s=[48]))=false:=by
    have e:decide (bI (s.getD 0 0)=48)=false:=by rw [Bool.not_eq_true] at h2;exact h2
    rw [e,Bool.and_false,Bool.false_and]
   refine ⟨⟨0,⟨Nat.zero_le _,rfl⟩,rfl,rfl,rfl,rfl,trivial⟩,?_⟩
   rintro k ⟨h1,h2⟩
   simp only [Int.toNat_natCast]
   refine aa (fun h=>?_) (fun h=>?_)
   ·have hk:k < s.length:=by have:=Xo h;omega
    rw [ai s k 0 hk,List.all_cons] at h2
    have eb:((s.getD k 0).toNat:Int)=bI (s.getD k 0):=rfl
    refine ⟨⟨by omega,by omega⟩,?_⟩
    simp only [eb]
    have hp:=jN (bI (s.getD k 0))
    have yes:dF (bI (s.getD k 0))=true→(s.all fun c=>dF (bI c))=(s.drop (k+1)).all fun c=>dF (bI c):=fun e=>by rw [h2,e,Bool.true_and]
    have no:¬dF (bI (s.getD k 0))=true→false=bP s:=fun e=>by rw [ir hne hz,h2,Bool.eq_false_iff.2 e,Bool.false_and]
    generalize bI (s.getD k 0)=c at hp yes no ⊢
    repeat' (refine aa (fun _=>?_) (fun _=>?_))
    all_goals (simp only [decide_eq_true_eq,Bool.not_eq_true',decide_eq_false_iff_not] at *)
    all_goals first
     | exact ⟨trivial,no (fun e=>by have:=hp.1 e;omega),trivial⟩
     | exact ⟨ar hk hs.str,k+1,⟨by omega,yes (hp.2 (by omega))⟩,by omega,by omega,(by first | rfl | trivial),(by first | rfl | trivial),(by first | rfl | trivial),trivial⟩
   ·have hk:k=s.length:=by
     have:¬((k:Int) < (s.length:Int)):=fun e=>h (Xd e)
     omega
    refine ⟨trivial,?_,trivial⟩
    rw [ir hne hz,h2,hk,List.drop_length]
    rfl
 ·have hz:(aI s && decide (bI (s.getD 0 0)=48) && !decide (s=[48]))=false:=by rw [Bool.not_eq_true] at h1;rw [h1,Bool.false_and,Bool.false_and]
  refine ⟨⟨0,⟨Nat.zero_le _,rfl⟩,rfl,rfl,rfl,rfl,trivial⟩,?_⟩
  rintro k ⟨h1,h2⟩
  simp only [Int.toNat_natCast]
  refine aa (fun h=>?_) (fun h=>?_)
  ·have hk:k < s.length:=by have:=Xo h;omega
   rw [ai s k 0 hk,List.all_cons] at h2
   have eb:((s.getD k 0).toNat:Int)=bI (s.getD k 0):=rfl
   refine ⟨⟨by omega,by omega⟩,?_⟩
   simp only [eb]
   have hp:=jN (bI (s.getD k 0))
   have yes:dF (bI (s.getD k 0))=true→(s.all fun c=>dF (bI c))=(s.drop (k+1)).all fun c=>dF (bI c):=fun e=>by rw [h2,e,Bool.true_and]
   have no:¬dF (bI (s.getD k 0))=true→false=bP s:=fun e=>by rw [ir hne hz,h2,Bool.eq_false_iff.2 e,Bool.false_and]
   generalize bI (s.getD k 0)=c at hp yes no ⊢
   repeat' (refine aa (fun _=>?_) (fun _=>?_))
   all_goals (simp only [decide_eq_true_eq,Bool.not_eq_true',decide_eq_false_iff_not] at *)
   all_goals first
    | exact ⟨trivial,no (fun e=>by have:=hp.1 e;omega),trivial⟩
    | exact ⟨ar hk hs.str,k+1,⟨by omega,yes (hp.2 (by omega))⟩,by omega,by omega,(by first | rfl | trivial),(by first | rfl | trivial),(by first | rfl | trivial),trivial⟩
  ·have hk:k=s.length:=by
    have:¬((k:Int) < (s.length:Int)):=fun e=>h (Xd e)
    omega
   refine ⟨trivial,?_,trivial⟩
   rw [ir hne hz,h2,hk,List.drop_length]
   rfl
theorem Ch (v:Vers) (hv:Wf (.st .version) v) :
  let A:=(3:Nat);let B:=[v.major,v.minor,v.patch];let C:=(0:Int);let D:=(↑(List.length B):Int);let E:=v=v/\List.length B=List.length B/\True;let F:=v=v/\B=B/\D=D/\E;let G:=dfl (Ty.int IntKind.i64);let H:=True/\(40:Int)=bf v/\True;let I:=(1:Int);let J:=(46:UInt8);let K:=splitB J v.pre;let L:=(↑(List.length K):Int);let M:=v=v/\B=B/\D=D/\false=false/\false=false/\true=true/\splitB J v.pre=splitB J v.pre/\L=L/\E;let N:=True/\C=bf v/\True;(∃(x:Nat),(x<=A/\List.all (List.take x B) nZ=true)/\C=(↑x:Int)/\F)/\∀(x:Nat),let O:=(↑x:Int);x<=A/\List.all (List.take x B) nZ=true→if decide (O<D)=true then (C<=O/\O<D)/\if decide (List.getD B (Int.toNat O) G<C)=true then H else if decide ((999999:Int)<List.getD B (Int.toNat O) G)=true then H else inR IntKind.i64 (O+I)/\∃(y:Nat),(y<=A/\List.all (List.take y B) nZ=true)/\A - y<A - x/\O+I=(↑y:Int)/\F else if decide ((24:Int)<(↑(List.length v.pre):Int))=true then H else if (!decide (v.pre=[]))=true then (([46]:Str)=([46]:Str)/\List.length v.pre<(4294967281:Nat))/\(∃(x_1:Nat),(x_1<=List.length K/\List.all (List.take x_1 K) bP=true)/\C=(↑x_1:Int)/\O=O/\M)/\∀(x_1:Nat),let P:=(↑x_1:Int);x_1<=List.length K/\List.all (List.take x_1 K) bP=true→if decide (P<L)=true then (C<=P/\P<L)/\if (!bP (List.getD K (Int.toNat P) (dfl Ty.str)))=true then H else inR IntKind.i64 (P+I)/\∃(y:Nat),(y<=List.length K/\List.all (List.take y K) bP=true)/\List.length K - y<List.length K - x_1/\P+I=(↑y:Int)/\O=O/\M else N else N:=by
 conv=>zeta
 have bad:∀k:Nat,k < 3→nZ ([v.major,v.minor,v.patch].getD k (dfl (.int .i64)))=false→True/\(40:Int)=bf v/\True:=fun k hk e=>
  ⟨trivial,(xS (uO (l:=[v.major,v.minor,v.patch]) (dfl (.int .i64)) hk e)).symm,trivial⟩
 refine ⟨⟨0,⟨by omega,rfl⟩,?_⟩,?_⟩
 ·exact Xr
 rintro k ⟨h1,h2⟩
 have l3:[v.major,v.minor,v.patch].length=3:=rfl
 simp only [Int.toNat_natCast,l3]
 refine aa (fun h=>?_) (fun h=>?_)
 ·have hk:k < 3:=by have:=Xo h;omega
  have bk:=bad k hk
  have gk:=kK (l:=[v.major,v.minor,v.patch]) (dfl (.int .i64)) hk h2
  refine ⟨⟨by omega,by omega⟩,?_⟩
  refine aa (fun a=>bk ?_) (fun a=>aa (fun b=>bk ?_) (fun b=>?_))
  ·have:=Xo a
   have e:¬0<=[v.major,v.minor,v.patch].getD k (dfl (.int .i64)):=by omega
   unfold nZ
   rw [Xf e,Bool.false_and]
  ·have:=Xo b
   have e:¬[v.major,v.minor,v.patch].getD k (dfl (.int .i64))<=999999:=by omega
   unfold nZ
   rw [Xf e,Bool.and_false]
  ·have a:¬[v.major,v.minor,v.patch].getD k (dfl (.int .i64)) < 0:=fun e=>a (Xd e)
   have b:¬999999 < [v.major,v.minor,v.patch].getD k (dfl (.int .i64)):=fun e=>b (Xd e)
   have a':0<=[v.major,v.minor,v.patch].getD k (dfl (.int .i64)):=by omega
   have b':[v.major,v.minor,v.patch].getD k (dfl (.int .i64))<=999999:=by omega
   refine ⟨aJ (by omega) (by omega),k+1,⟨by omega,gk ?_⟩,by omega,by omega,?_⟩
   ·unfold nZ
    rw [Xd a',Xd b']
    rfl
   ·exact Xr
 ·have hk:k=3:=by
   have:¬((k:Int) < ((3:Nat):Int)):=fun e=>h (Xd e)
   omega
  subst hk
  have hg:=uP h2
  refine aa (fun a=>?_) (fun a=>?_)
  ·have:=Xo a
   rw [if_pos (by omega)] at hg
   rw [hg]
   exact ⟨trivial,rfl,trivial⟩
  have a:¬(24:Int) < (v.pre.length:Int):=fun e=>a (Xd e)
  have hl:=cr 46 v.pre
  rw [if_neg (by omega)] at hg
  refine aa (fun b=>?_) (fun b=>?_)
  ·have b:¬v.pre=[]:=by simpa using b
   rw [if_neg b] at hg
   refine ⟨⟨(by first | rfl | trivial),by omega⟩,⟨0,⟨by omega,rfl⟩,?_⟩,?_⟩
   ·exact Xr
   rintro j ⟨j1,j2⟩
   refine aa (fun c=>?_) (fun c=>?_)
   ·have hj:j < (splitB 46 v.pre).length:=by have:=Xo c;omega
    refine ⟨⟨by omega,by omega⟩,aa (fun d=>?_) (fun d=>?_)⟩
    ·have d:bP ((splitB 46 v.pre).getD j (dfl .str))=false:=by simpa using d
     rw [uO (dfl .str) hj d,if_neg Bool.false_ne_true] at hg
     rw [hg]
     exact ⟨trivial,rfl,trivial⟩
    ·have d:bP ((splitB 46 v.pre).getD j (dfl .str))=true:=by simpa using d
     refine ⟨aJ (by omega) (by omega),j+1,⟨by omega,kK (dfl .str) hj j2 d⟩,by omega,by omega,?_⟩
     exact Xr
   ·have hj:(splitB 46 v.pre).length<=j:=by
     have:¬((j:Int) < ((splitB 46 v.pre).length:Int)):=fun e=>c (Xd e)
     omega
    rw [DF hj] at j2
    rw [if_pos j2] at hg
    rw [hg]
    exact ⟨trivial,rfl,trivial⟩
  ·have b:v.pre=[]:=by simpa using b
   rw [if_pos b] at hg
   rw [hg]
   exact ⟨trivial,rfl,trivial⟩
theorem Ci (n:Nat) (l:List Shape) (hl:Wf (.lst (.st .shape)) l) (ho:szL l < n+1/\szL l<=1000000000/\allL iw l=true) :
  let A:=(↑(List.length l):Int);let B:=dfl (Ty.st SN.shape);let C:=(140737488355328:Nat);(∃(x:Nat),x<=List.length l/\List.take x l=[]/\(0:Int)=(↑x:Int)/\l=l/\l=l/\A=A/\List.length (List.take x l)=(0:Nat)/\True)/\∀(x:Nat),let D:=(↑x:Int);let E:=List.getD l (Int.toNat D) B;let F:=List.take x l;let G:=[AL.Shape.mk (E.kind) (E.pkg) (E.name) (E.names) (E.parts)];x<=List.length l→if decide (D<A)=true then ((0:Int)<=D/\D<A)/\List.length E.names*(16:Nat)<=C/\(szL E.parts<n/\szL E.parts<=(1000000000:Nat)/\allL iw E.parts=true)/\(List.length F=List.length F/\(List.length F+List.length G)*(88:Nat)<=C)/\inR IntKind.i64 (D+(1:Int))/\∃(y:Nat),y<=List.length l/\List.length l - y<List.length l - x/\List.take x l++G=List.take y l/\D+(1:Int)=(↑y:Int)/\l=l/\l=l/\A=A/\List.length (List.take x l++G)=List.length (List.take y l)/\True else True/\List.take x l=l/\True:=by
 conv=>zeta
 have ln:=hl.len
 obtain ⟨o1,o2,o3⟩:=ho
 have et:∀s:Shape,AL.Shape.mk s.kind s.pkg s.name s.names s.parts=s:=fun s=>by cases s;rfl
 simp only [Int.toNat_natCast,eq_self,true_and,and_true,et]
 refine ⟨⟨0,Nat.zero_le _,rfl,rfl,rfl⟩,?_⟩
 intro k h1
 refine aa (fun h=>?_) (fun h=>?_)
 ·replace h:=Xo h
  have hk:k < l.length:=by omega
  have hm:=aL l k (dfl (.st .shape)) hk
  have hz:=dA hm
  have he:=gz (l.getD k (dfl (.st .shape)))
  have hll:=lT l
  rw [gA,List.all_eq_true] at o3
  have hs:=o3 _ hm
  rw [eC,Bool.and_eq_true] at hs
  have hn:(l.getD k (dfl (.st .shape))).names.length<=1000000:=Xo hs.1
  have ht:=bw l k (dfl (.st .shape)) hk
  refine ⟨by omega,by omega,⟨by omega,by omega,hs.2⟩,?_,ar hk ln,k+1,by omega,by omega,ht.symm,by omega,by rw [ht]⟩
  rw [List.length_take,List.length_singleton]
  omega
 ·have e:k=l.length:=by
   have:¬((k:Int) < (l.length:Int)):=fun e=>h (Xd e)
   omega
  rw [e,List.take_length]
theorem Gm (n:Nat) (t:Trm) (ht:Wf (.st .term) t) (ho:szT t<=n+1/\cD t=true) :
  let A:=(140737488355328:Nat);let B:=(0:Int);let C:=t.parts=t.parts;let D:=(↑(List.length t.parts):Int);let E:=nV UInt8=nV UInt8;let F:=t.kind=t.kind/\t.pkg=t.pkg/\t.name=t.name/\t.n=t.n/\t.names=t.names/\t.vars=t.vars/\t.shapes=t.shapes/\C/\B=B/\B=B/\E/\E/\B=B/\B=B/\True;let G:=dfl (Ty.st SN.term);let H:=bareT t;List.length t.names*(16:Nat)<=A/\List.length t.vars*(16:Nat)<=A/\(szL t.shapes<szL t.shapes+(1:Nat)/\szL t.shapes<=(1000000000:Nat)/\allL iw t.shapes=true)/\(∃(x:Nat),let I:=List.take x t.parts;x<=List.length t.parts/\List.map bareT I=[]/\B=(↑x:Int)/\t=t/\C/\D=D/\List.length (List.map bareT I)=(0:Nat)/\F)/\∀(x:Nat),let I:=(↑x:Int);let J:=List.getD t.parts (Int.toNat I) G;let K:=List.take x t.parts;let L:=List.map bareT K;let M:=[bareT J];x<=List.length t.parts→if decide (I<D)=true then (B<=I/\I<D)/\(szT J<=n/\cD J=true)/\(List.length L=List.length L/\(List.length L+List.length M)*(152:Nat)<=A)/\inR IntKind.i64 (I+(1:Int))/\∃(y:Nat),let N:=List.take y t.parts;y<=List.length t.parts/\List.length t.parts - y<List.length t.parts - x/\List.map bareT K++M=List.map bareT N/\I+(1:Int)=(↑y:Int)/\t=t/\C/\D=D/\List.length (List.map bareT K++M)=List.length (List.map bareT N)/\F else True/\t.kind=H.kind/\t.pkg=H.pkg/\t.name=H.name/\t.n=H.n/\t.names=H.names/\t.vars=H.vars/\t.shapes=H.shapes/\List.map bareT K=H.parts/\B=H.pos/\True:=by
 conv=>zeta
 have ln:=ht.term_parts.len
 obtain ⟨o1,o2⟩:=ho
 have hz:=eD t
 have hsm:=o2
 unfold cD at hsm
 rw [allT_eq,Bool.and_eq_true,allTL_all,List.all_eq_true] at hsm
 obtain ⟨s1,s2,s3,s4,s5⟩:=j7.1 hsm.1
 simp only [Int.toNat_natCast,eq_self,true_and,and_true]
 refine ⟨by omega,by omega,⟨by omega,s4,s5⟩,⟨0,Nat.zero_le _,rfl,rfl,rfl⟩,?_⟩
 intro k h1
 refine aa (fun h=>?_) (fun h=>?_)
 ·replace h:=Xo h
  have hk:k < t.parts.length:=by omega
  have hmm:=aL t.parts k (dfl (.st .term)) hk
  have hm:=dI hmm
  have htk:=bw t.parts k (dfl (.st .term)) hk
  have hx:(t.parts.take k).map bareT++[bareT (t.parts.getD k (dfl (.st .term)))]=(t.parts.take (k+1)).map bareT:=by rw [htk,List.map_append];rfl
  refine ⟨by omega,⟨by omega,hsm.2 _ hmm⟩,?_,ar hk ln,k+1,by omega,by omega,hx,by omega,by rw [hx]⟩
  rw [List.length_map,List.length_take,List.length_singleton]
  omega
 ·have e:k=t.parts.length:=by
   have:¬((k:Int) < (t.parts.length:Int)):=fun e=>h (Xd e)
   omega
  rw [e,List.take_length,tj,j8]
  repeat' (first | exact trivial | rfl | apply And.intro)
theorem Cj (s:Str) (c:Int) (hs:Wf .str s) (ho:c=48) :
  let A:=c=c/\nV UInt8=nV UInt8/\True;let B:=(0:Int);let C:=(1:Int);(∃(x:Nat),(x<=List.length s/\bQ s=bQ (List.drop x s))/\s=List.drop x s/\A)/\∀(x:Nat),let D:=List.drop x s;let E:=(↑(List.length D):Int);let F:=True/\List.drop x s=bQ s/\True;x<=List.length s/\bQ s=bQ D→if decide (B<E)=true then (B<=B/\B<E)/\if decide ((↑(UInt8.toNat (List.getD D (Int.toNat B) (0:UInt8))):Int)=c)=true then (B<=C/\C<=E/\E<=E)/\∃(y:Nat),(y<=List.length s/\bQ s=bQ (List.drop y s))/\List.length s - y<List.length s - x/\List.drop (Int.toNat C) (List.take (Int.toNat E) D)=List.drop y s/\A else F else F:=by
 conv=>zeta
 subst ho
 simp only [Int.toNat_natCast]
 refine ⟨⟨0,⟨Nat.zero_le _,rfl⟩,(by repeat' (first | exact trivial | rfl | apply And.intro))⟩,?_⟩
 rintro k ⟨h1,h2⟩
 refine aa (fun h=>?_) (fun h=>?_)
 ·have h:=Xo h
  rw [List.length_drop] at h
  have hk:k < s.length:=by omega
  have hd:=ai s k 0 hk
  simp only [hd] at h2 ⊢
  refine ⟨⟨by omega,by simp only [List.length_cons];omega⟩,aa (fun c=>?_) (fun c=>?_)⟩
  ·have c:((s.getD k 0).toNat:Int)=48:=Xo c
   have c:s.getD k 0=48:=UInt8.toNat_inj.1 (by show _=48;omega)
   rw [ye c] at h2
   refine ⟨⟨by omega,by simp only [List.length_cons];omega,Int.le_refl _⟩,k+1,⟨by omega,h2⟩,by omega,?_,(by repeat' (first | exact trivial | rfl | apply And.intro))⟩
   rw [List.take_length]
   rfl
  ·have c:¬((s.getD k 0).toNat:Int)=48:=fun e=>c (Xd e)
   have c:¬s.getD k 0=48:=fun e=>c (by rw [e];rfl)
   rw [yf c] at h2
   exact ⟨trivial,h2.symm,trivial⟩
 ·have e:s.drop k=[]:=by
   have:¬(0:Int) < ((s.drop k).length:Int):=fun e=>h (Xd e)
   exact List.eq_nil_of_length_eq_zero (by omega)
  rw [e] at h2 ⊢
  exact ⟨trivial,h2.symm,trivial⟩
theorem vX (s t:Str) (ho:t=[48]) :
  let A:=True/\s=bQ s/\True;let B:=(↑(List.length t):Int);let C:=(0:Int);let D:=C<=C/\C<B;let E:=(↑(UInt8.toNat (List.getD t (Int.toNat C) (0:UInt8))):Int);if decide (s=[])=true then A else if decide (t=[])=true then A else if decide (B=(1:Int))=true then D/\if decide (E<(128:Int))=true then D/\E=(48:Int)/\True/\bQ s=bQ s/\True else False else False:=by
 conv=>zeta
 subst ho
 refine aa (fun h=>?_) (fun _=>aa (fun h=>absurd h (by decide)) (fun _=>aa (fun _=>⟨by decide,aa (fun _=>⟨by decide,by decide,trivial,(by repeat' (first | exact trivial | rfl | apply And.intro))⟩) (fun h=>absurd (by decide) h)⟩) (fun h=>absurd (by decide) h)))
 rw [Xo h]
 exact ⟨trivial,(by repeat' (first | exact trivial | rfl | apply And.intro))⟩
theorem Gn (a:Int)  :
  True/\(!decide (a=a))=false/\True:=by
 exact ⟨trivial,by simp,trivial⟩
theorem Ck (a b:Int)  :
  let A:=True;if decide (a<b)=true then A/\(-1:Int)=bc a b/\A else if decide (b<a)=true then A/\(1:Int)=bc a b/\A else A/\(0:Int)=bc a b/\A:=by
 conv=>zeta
 unfold bc
 refine aa (fun h=>?_) (fun h=>aa (fun k=>?_) (fun k=>?_))
 ·exact ⟨trivial,(if_pos (Xo h)).symm,trivial⟩
 ·have h:¬a < b:=fun e=>h (Xd e)
  exact ⟨trivial,by rw [if_neg h,if_pos (Xo k)],trivial⟩
 ·have h:¬a < b:=fun e=>h (Xd e)
  have k:¬b < a:=fun e=>k (Xd e)
  exact ⟨trivial,by rw [if_neg h,if_neg k],trivial⟩
theorem Hp (l:List Int) (hl:Wf (.lst (.int .i64)) l) :
  let A:=(0:Int);let B:=(↑(List.length l):Int);let C:=l=l/\A=A/\l=l/\B=B/\True;let D:=dfl (Ty.int IntKind.i64);(∃(x:Nat),(x<=List.length l/\orI l=orI (List.drop x l))/\A=(↑x:Int)/\C)/\∀(x:Nat),let E:=(↑x:Int);x<=List.length l/\orI l=orI (List.drop x l)→if decide (E<B)=true then (A<=E/\E<B)/\if (!decide (List.getD l (Int.toNat E) D=A))=true then True/\List.getD l (Int.toNat E) D=orI l/\True else inR IntKind.i64 (E+(1:Int))/\∃(y:Nat),(y<=List.length l/\orI l=orI (List.drop y l))/\List.length l - y<List.length l - x/\E+(1:Int)=(↑y:Int)/\C else True/\A=orI l/\True:=by
 conv=>zeta
 have ln:=hl.len
 simp only [Int.toNat_natCast]
 refine ⟨⟨0,⟨Nat.zero_le _,rfl⟩,(by repeat' (first | exact trivial | rfl | apply And.intro))⟩,?_⟩
 rintro k ⟨h1,h2⟩
 refine aa (fun h=>?_) (fun h=>?_)
 ·have h:=Xo h
  have hk:k < l.length:=by omega
  rw [ai l k (dfl (.int .i64)) hk,orI] at h2
  refine ⟨by omega,aa (fun c=>?_) (fun c=>?_)⟩
  ·have c:¬l.getD k (dfl (.int .i64))=0:=by simpa using c
   rw [if_neg c] at h2
   exact ⟨trivial,h2.symm,trivial⟩
  ·have c:l.getD k (dfl (.int .i64))=0:=by simpa using c
   rw [if_pos c] at h2
   exact ⟨ar hk ln,k+1,⟨by omega,h2⟩,by omega,by omega,(by repeat' (first | exact trivial | rfl | apply And.intro))⟩
 ·have e:k=l.length:=by
   have:¬((k:Int) < (l.length:Int)):=fun e=>h (Xd e)
   omega
  subst e
  rw [List.drop_length] at h2
  exact ⟨trivial,h2.symm,trivial⟩
theorem yY (a b:Str)  :
  let A:=([48]:Str)=([48]:Str);A/\A/\True/\orI [bc (↑(List.length (bQ a)):Int) (↑(List.length (bQ b)):Int),ed (bQ a) (bQ b)]=uY a b/\True:=by
 conv=>zeta
 refine ⟨rfl,rfl,trivial,?_,trivial⟩
 unfold uY
 simp only [orI]
 by_cases h:ed (bQ a) (bQ b)=0 <;> simp [h]
theorem Cl (a b:Str)  :
  let A:=True;let B:=if aI a=true then A/\(-1:Int)=fv a b/\A else if aI b=true then A/\(1:Int)=fv a b/\A else A/\ed a b=fv a b/\A;if aI a=true then if aI b=true then A/\uY a b=fv a b/\A else B else B:=by
 conv=>zeta
 unfold fv
 by_cases h:aI a=true <;> by_cases k:aI b=true <;> simp [h,k]
theorem Gp (a b:Vers) (ho:(a.pre.length<=4096/\b.pre.length<=4096)) :
  let A:=True;let B:=(0:Int);let C:=A/\A;let D:=[bc a.major b.major,bc a.minor b.minor,bc a.patch b.patch];let E:=(1:Int);let F:=([46]:Str)=([46]:Str);let G:=(4294967281:Nat);let H:=(46:UInt8);let I:=splitB H a.pre;let J:=splitB H b.pre;let K:=false=false;let L:=(↑(List.length I):Int);let M:=(↑(List.length J):Int);let N:=a=a/\b=b/\K/\orI D=orI D/\K/\K/\K/\splitB H a.pre=splitB H a.pre/\splitB H b.pre=splitB H b.pre/\min L M=min L M/\a=a/\b=b/\List.length D=List.length D/\A;let O:=dfl Ty.str;if (decide (a.major=b.major) && (decide (a.minor=b.minor) && (decide (a.patch=b.patch) && (decide (a.pre=b.pre) && true))))=true then A/\B=eF a b/\A else C/\C/\C/\C/\if (!decide (orI D=B))=true then A/\orI D=eF a b/\A else if decide (a.pre=[])=true then A/\E=eF a b/\A else if decide (b.pre=[])=true then A/\(-1:Int)=eF a b/\A else ((F/\List.length a.pre<G)/\A)/\((F/\List.length b.pre<G)/\A)/\(∃(x:Nat),(x<=List.length I/\x<=List.length J/\fb I J=fb (List.drop x I) (List.drop x J))/\B=(↑x:Int)/\N)/\∀(x:Nat),let P:=(↑x:Int);let Q:=List.getD I (Int.toNat P) O;let R:=List.getD J (Int.toNat P) O;x<=List.length I/\x<=List.length J/\fb I J=fb (List.drop x I) (List.drop x J)→if decide (P<min L M)=true then (B<=P/\P<L)/\(B<=P/\P<M)/\C/\if (!decide (fv Q R=B))=true then A/\fv Q R=eF a b/\A else inR IntKind.i64 (P+E)/\∃(y:Nat),(y<=List.length I/\y<=List.length J/\fb I J=fb (List.drop y I) (List.drop y J))/\List.length I - y<List.length I - x/\P+E=(↑y:Int)/\N else A/\bc L M=eF a b/\A:=by
 conv=>zeta
 have hv:=td a b
 refine aa (fun h=>?_) (fun h=>?_)
 ·have e:a=b:=by
   simp only [Bool.and_eq_true,decide_eq_true_eq] at h
   obtain ⟨h1,h2,h3,h4,_⟩:=h
   cases a;cases b
   simp only at h1 h2 h3 h4
   rw [h1,h2,h3,h4]
  rw [e]
  exact ⟨trivial,(Bz b).symm,trivial⟩
 ·refine ⟨⟨trivial,trivial⟩,⟨trivial,trivial⟩,⟨trivial,trivial⟩,⟨trivial,trivial⟩,aa (fun c=>?_) (fun c=>?_)⟩
  ·have c:¬jQ a b=0:=by simpa [jQ] using c
   rw [if_pos c] at hv
   exact ⟨trivial,hv.symm,trivial⟩
  ·have c:jQ a b=0:=by simpa [jQ] using c
   rw [if_neg (fun e=>e c)] at hv
   refine aa (fun p=>?_) (fun p=>aa (fun q=>?_) (fun q=>?_))
   ·have p:=Xo p
    have q:¬b.pre=[]:=fun q=>h (by
     rw [DS c (p.trans q.symm)]
     simp)
    rw [if_pos p,if_neg q] at hv
    exact ⟨trivial,hv.symm,trivial⟩
   ·have p:¬a.pre=[]:=fun e=>p (Xd e)
    have q:=Xo q
    rw [if_neg p,if_pos q] at hv
    exact ⟨trivial,hv.symm,trivial⟩
   ·have p:¬a.pre=[]:=fun e=>p (Xd e)
    have q:¬b.pre=[]:=fun e=>q (Xd e)
    rw [if_neg p,if_neg q] at hv
    have la:=cr 46 a.pre
    have lb:=cr 46 b.pre
    generalize splitB 46 a.pre=x at hv la ⊢
    generalize splitB 46 b.pre=y at hv lb ⊢
    refine ⟨⟨⟨rfl,by omega⟩,trivial⟩,⟨⟨rfl,by omega⟩,trivial⟩,⟨0,⟨Nat.zero_le _,Nat.zero_le _,rfl⟩,(by repeat' (first | exact trivial | rfl | apply And.intro))⟩,?_⟩
    rintro k ⟨h1,h2,h3⟩
    simp only [Int.toNat_natCast]
    refine aa (fun d=>?_) (fun d=>?_)
    ·have d:=Xo d
     have k1:k < x.length:=by omega
     have k2:k < y.length:=by omega
     have hs:=rI k1 k2
     refine ⟨by omega,by omega,⟨trivial,trivial⟩,aa (fun e=>?_) (fun e=>?_)⟩
     ·have e:¬fv (x.getD k (dfl .str)) (y.getD k (dfl .str))=0:=by simpa using e
      rw [if_neg e] at hs
      exact ⟨trivial,by rw [hv,h3,hs],trivial⟩
     ·have e:fv (x.getD k (dfl .str)) (y.getD k (dfl .str))=0:=by simpa using e
      rw [if_pos e] at hs
      exact ⟨aJ (by omega) (by omega),k+1,⟨by omega,by omega,by rw [h3,hs]⟩,by omega,by omega,(by repeat' (first | exact trivial | rfl | apply And.intro))⟩
    ·have d:¬((k:Int) < min (x.length:Int) (y.length:Int)):=fun e=>d (Xd e)
     exact ⟨trivial,by rw [hv,h3,uZ h1 h2 (by omega)],trivial⟩
theorem EY (n:Int)  :
  let A:=True;if decide (n=(1:Int))=true then A/\([60]:Str)=pQ n/\A else if decide (n=(2:Int))=true then A/\([60,61]:Str)=pQ n/\A else if decide (n=(3:Int))=true then A/\([61]:Str)=pQ n/\A else if decide (n=(4:Int))=true then A/\([62,61]:Str)=pQ n/\A else if decide (n=(5:Int))=true then A/\([62]:Str)=pQ n/\A else A/\[]=pQ n/\A:=by
 conv=>zeta
 unfold pQ
 repeat' (refine aa (fun h=>?_) (fun h=>?_))
 all_goals (refine ⟨trivial,?_,trivial⟩;simp only [decide_eq_true_eq] at *;simp [*])
theorem Cm (l:List Bnd) (hl:Wf (.lst (.st .bound)) l) :
  let A:=(↑(List.length l):Int);let B:=True/\(50:Int)=fB l/\True;let C:=(0:Int);let D:=l=l/\false=false/\l=l/\A=A/\True;let E:=dfl (Ty.st SN.bound);if decide ((20:Int)<A)=true then B else (∃(x:Nat),(x<=List.length l/\List.all l eh=List.all (List.drop x l) eh)/\C=(↑x:Int)/\D)/\∀(x:Nat),let F:=(↑x:Int);let G:=List.getD l (Int.toNat F) E;x<=List.length l/\List.all l eh=List.all (List.drop x l) eh→if decide (F<A)=true then (C<=F/\F<A)/\if decide (pQ G.op=[])=true then B else if (!decide (bf G.v=C))=true then B else inR IntKind.i64 (F+(1:Int))/\∃(y:Nat),(y<=List.length l/\List.all l eh=List.all (List.drop y l) eh)/\List.length l - y<List.length l - x/\F+(1:Int)=(↑y:Int)/\D else True/\C=fB l/\True:=by
 conv=>zeta
 have ln:=hl.len
 refine aa (fun h=>?_) (fun h0=>?_)
 ·have h:=Xo h
  refine ⟨trivial,?_,trivial⟩
  unfold fB
  rw [if_pos (by omega)]
 have h0:¬20 < l.length:=fun e=>h0 (Xd (by omega))
 simp only [Int.toNat_natCast]
 refine ⟨⟨0,⟨Nat.zero_le _,rfl⟩,(by repeat' (first | exact trivial | rfl | apply And.intro))⟩,?_⟩
 rintro k ⟨h1,h2⟩
 refine aa (fun h=>?_) (fun h=>?_)
 ·have h:=Xo h
  have hk:k < l.length:=by omega
  rw [ai l k (dfl (.st .bound)) hk,List.all_cons] at h2
  have no:eh (l.getD k (dfl (.st .bound)))=false→True/\(50:Int)=fB l/\True:=fun e=>⟨trivial,Ao (by rw [h2,e];rfl),trivial⟩
  have yes:eh (l.getD k (dfl (.st .bound)))=true→l.all eh=(l.drop (k+1)).all eh:=fun e=>by rw [h2,e,Bool.true_and]
  unfold eh at no yes
  have hs:=DR (l.getD k (dfl (.st .bound))).op
  refine ⟨by omega,aa (fun c=>no ?_) (fun c=>aa (fun d=>no ?_) (fun d=>?_))⟩
  ·rw [Xf (hs.1 (Xo c)),Bool.false_and]
  ·have d:¬bf (l.getD k (dfl (.st .bound))).v=0:=by simpa using d
   rw [Xf d,Bool.and_false]
  ·have c:1<=(l.getD k (dfl (.st .bound))).op/\(l.getD k (dfl (.st .bound))).op<=5:=Decidable.not_not.1 (fun e=>c (Xd (hs.2 e)))
   have d:bf (l.getD k (dfl (.st .bound))).v=0:=by simpa using d
   exact ⟨ar hk ln,k+1,⟨by omega,yes (by rw [Xd c,Xd d];rfl)⟩,by omega,by omega,(by repeat' (first | exact trivial | rfl | apply And.intro))⟩
 ·have e:k=l.length:=by
   have:¬((k:Int) < (l.length:Int)):=fun e=>h (Xd e)
   omega
  subst e
  rw [List.drop_length] at h2
  exact ⟨trivial,vc h0 h2,trivial⟩
theorem Cn (v:Vers) (l:List Bnd) (hl:Wf (.lst (.st .bound)) l) (ho:(v.pre.length<=4096/\∀b∈l,b.v.pre.length<=4096)) :
  let A:=(0:Int);let B:=(↑(List.length l):Int);let C:=v=v/\l=l/\l=l/\B=B/\v=v/\True;let D:=dfl (Ty.st SN.bound);let E:=(1:Int);let F:=True/\false=bn v l/\True;(∃(x:Nat),(x<=List.length l/\bn v l=bn v (List.drop x l))/\A=(↑x:Int)/\C)/\∀(x:Nat),let G:=(↑x:Int);let H:=List.getD l (Int.toNat G) D;let I:=inR IntKind.i64 (G+E)/\∃(y:Nat),(y<=List.length l/\bn v l=bn v (List.drop y l))/\List.length l - y<List.length l - x/\G+E=(↑y:Int)/\C;x<=List.length l/\bn v l=bn v (List.drop x l)→if decide (G<B)=true then (A<=G/\G<B)/\(List.length v.pre<=(4096:Nat)/\List.length H.v.pre<=(4096:Nat))/\if decide (H.op=E)=true then if decide (A<=eF v H.v)=true then F else I else if decide (H.op=(2:Int))=true then if decide (A<eF v H.v)=true then F else I else if decide (H.op=(3:Int))=true then if (!decide (eF v H.v=A))=true then F else I else if decide (H.op=(4:Int))=true then if decide (eF v H.v<A)=true then F else I else if decide (H.op=(5:Int))=true then if decide (eF v H.v<=A)=true then F else I else F else True/\true=bn v l/\True:=by
 conv=>zeta
 have ln:=hl.len
 simp only [Int.toNat_natCast]
 refine ⟨⟨0,⟨Nat.zero_le _,rfl⟩,(by repeat' (first | exact trivial | rfl | apply And.intro))⟩,?_⟩
 rintro k ⟨h1,h2⟩
 refine aa (fun h=>?_) (fun h=>?_)
 ·have h:=Xo h
  have hk:k < l.length:=by omega
  rw [ai l k (dfl (.st .bound)) hk,show ∀(x:Bnd) (r:List Bnd),bn v (x ::r)=(kl v x && bn v r) from fun _ _=>rfl] at h2
  have hi:=ar hk ln
  have no:kl v (l.getD k (dfl (.st .bound)))=false→false=bn v l:=fun e=>by rw [h2,e];rfl
  have yes:kl v (l.getD k (dfl (.st .bound)))=true→bn v l=bn v (l.drop (k+1)):=fun e=>by rw [h2,e,Bool.true_and]
  refine ⟨by omega,⟨ho.1,ho.2 _ (aL l k _ hk)⟩,?_⟩
  exact yb _ _ (fun e=>⟨trivial,no e,trivial⟩) (fun e=>⟨hi,k+1,⟨by omega,yes e⟩,by omega,by omega,(by repeat' (first | exact trivial | rfl | apply And.intro))⟩)
 ·have e:k=l.length:=by
   have:¬((k:Int) < (l.length:Int)):=fun e=>h (Xd e)
   omega
  subst e
  rw [List.drop_length] at h2
  exact ⟨trivial,h2.symm,trivial⟩
theorem yZ (a b:Int)  :
  let A:=True;if decide (a<b)=true then A/\(-1:Int)=bc a b/\A else if decide (b<a)=true then A/\(1:Int)=bc a b/\A else A/\(0:Int)=bc a b/\A:=by
 conv=>zeta
 unfold bc
 refine aa (fun h=>?_) (fun h=>aa (fun k=>?_) (fun k=>?_))
 ·exact ⟨trivial,(if_pos (Xo h)).symm,trivial⟩
 ·have h:¬a < b:=fun e=>h (Xd e)
  exact ⟨trivial,by rw [if_neg h,if_pos (Xo k)],trivial⟩
 ·have h:¬a < b:=fun e=>h (Xd e)
  have k:¬b < a:=fun e=>k (Xd e)
  exact ⟨trivial,by rw [if_neg h,if_neg k],trivial⟩
theorem z6 (a b:Str)  :
  let A:=True;if Op.bytesLess a b=true then A/\(-1:Int)=ed a b/\A else if (!(Op.bytesLess a b || decide (a=b)))=true then A/\(1:Int)=ed a b/\A else A/\(0:Int)=ed a b/\A:=by
 conv=>zeta
 simp only [DU]
 unfold ed
 refine aa (fun h=>?_) (fun h=>aa (fun k=>?_) (fun k=>?_))
 ·exact ⟨trivial,(if_pos (Xo h)).symm,trivial⟩
 ·have h:¬a < b:=fun e=>h (Xd e)
  have k:¬a=b:=by
   intro e
   rw [Xd e,Bool.or_true] at k
   exact absurd k (by decide)
  exact ⟨trivial,by rw [if_neg h,if_pos (BA h k)],trivial⟩
 ·have h:¬a < b:=fun e=>h (Xd e)
  have k:a=b:=by
   refine Decidable.not_not.1 fun e=>k ?_
   rw [Xf h,Xf e];rfl
  subst k
  exact ⟨trivial,by rw [if_neg h,if_neg h],trivial⟩
theorem Gq (a b:Str)  :
  let A:=True/\(1:Int)=nzT a b/\True;if decide (a=[])=true then if decide (b=[])=true then True/\(0:Int)=nzT a b/\True else A else A:=by
 conv=>zeta
 unfold nzT
 by_cases h:a=[] <;> by_cases k:b=[] <;> simp [h,k]
theorem z7 (a b:Str) (ho:(a.length<=4096/\b.length<=4096)) :
  let A:=True;let B:=(48:UInt8);let C:=(0:Int)=(0:Int);let D:=aI a=aI a;let E:=aI b=aI b;let F:=false=false;let G:=F/\F/\F/\A;let H:=b=b/\C/\D/\E/\G;let I:=([48]:Str);let J:=(9223372036854775807:Nat);let K:=C/\D/\E/\F/\G;let L:=if (!aI a)=true then A/\ed a b=fv a b/\A else (∃(x:Nat),x<=List.length b - List.length a/\a=List.replicate x B++a/\H)/\∀(x:Nat),let N:=List.replicate x B++a;let O:=(↑(List.length N):Int);let P:=List.replicate x B++a=List.replicate x B++a/\K;x<=List.length b - List.length a→if decide (O<(↑(List.length b):Int))=true then List.length I+List.length N<=J/\∃(y:Nat),y<=List.length b - List.length a/\List.length b - List.length a - y<List.length b - List.length a - x/\I++N=List.replicate y B++a/\H else (∃(x_1:Nat),x_1<=List.length a - List.length b/\b=List.replicate x_1 B++b/\P)/\∀(x_1:Nat),let Q:=List.replicate x_1 B++b;x_1<=List.length a - List.length b→if decide ((↑(List.length Q):Int)<O)=true then List.length I+List.length Q<=J/\∃(y:Nat),y<=List.length a - List.length b/\List.length a - List.length b - y<List.length a - List.length b - x_1/\I++Q=List.replicate y B++b/\P else A/\ed N Q=fv a b/\A;let M:=if aI b=true then if (!aI a)=true then A/\(1:Int)=fv a b/\A else L else L;if aI a=true then if (!aI b)=true then A/\(-1:Int)=fv a b/\A else M else M:=by
 conv=>zeta
 have hc:fv a b=if aI a=true then (if aI b=true then uY a b else -1) else if aI b=true then 1 else ed a b:=rfl
 cases ha:aI a with
 | false=>
  cases hb:aI b with
  | false=>rw [ha,hb] at hc;simpa [hc] using hc
  | true=>rw [ha,hb] at hc;simpa [hc] using hc
 | true=>
  cases hb:aI b with
  | false=>rw [ha,hb] at hc;simpa [hc] using hc
  | true=>
   rw [ha,hb,if_pos rfl,if_pos rfl,←FQ ha hb] at hc
   rw [hc]
   unfold y9
   simp only [Bool.not_true,Bool.false_eq_true,if_false,if_true]
   obtain ⟨o1,o2⟩:=ho
   refine ⟨⟨0,Nat.zero_le _,(by repeat' (first | exact trivial | rfl | apply And.intro))⟩,?_⟩
   intro k h1
   have lk:(List.replicate k (48:UInt8)++a).length=k+a.length:=by rw [List.length_append,List.length_replicate]
   refine aa (fun h=>?_) (fun h=>?_)
   ·have h:=Xo h
    rw [lk] at h ⊢
    exact ⟨by simp only [List.length_singleton];omega,k+1,by omega,by omega,(by repeat' (first | exact trivial | rfl | apply And.intro))⟩
   ·have h:¬((List.replicate k (48:UInt8)++a).length:Int) < (b.length:Int):=fun e=>h (Xd e)
    rw [lk] at h
    have ek:k=b.length - a.length:=by omega
    refine ⟨⟨0,Nat.zero_le _,(by repeat' (first | exact trivial | rfl | apply And.intro))⟩,?_⟩
    intro j j1
    have lj:(List.replicate j (48:UInt8)++b).length=j+b.length:=by rw [List.length_append,List.length_replicate]
    refine aa (fun g=>?_) (fun g=>?_)
    ·have g:=Xo g
     rw [lk,lj] at g
     rw [lj]
     exact ⟨by simp only [List.length_singleton];omega,j+1,by omega,by omega,(by repeat' (first | exact trivial | rfl | apply And.intro))⟩
    ·have g:¬((List.replicate j (48:UInt8)++b).length:Int) < ((List.replicate k (48:UInt8)++a).length:Int):=fun e=>g (Xd e)
     rw [lk,lj] at g
     have ej:j=a.length - b.length:=by omega
     rw [ek,ej]
     exact ⟨trivial,(by repeat' (first | exact trivial | rfl | apply And.intro))⟩
theorem EZ (a b:Vers) (ho:(a.pre.length<=4096/\b.pre.length<=4096)) :
  let A:=(3:Nat);let B:=[bc a.major b.major,bc a.minor b.minor,bc a.patch b.patch];let C:=(0:Int);let D:=True;let E:=a=a/\b=b/\List.length B=List.length B/\D;let F:=a=a/\b=b/\B=B/\E;let G:=(↑(List.length B):Int);let H:=dfl (Ty.int IntKind.i64);let I:=(1:Int);let J:=List.length b.pre;let K:=List.length a.pre;let L:=(D/\D)/\(D/\D)/\inR IntKind.i64 (bc (↑J:Int) (↑K:Int)*nzT a.pre b.pre)/\D/\bc (↑J:Int) (↑K:Int)*nzT a.pre b.pre=eF a b/\D;let M:=(4096:Nat);let N:=(46:UInt8);let O:=splitB N a.pre;let P:=splitB N b.pre;let Q:=a=a/\b=b/\B=B/\false=false/\false=false/\splitB N a.pre=splitB N a.pre/\splitB N b.pre=splitB N b.pre/\E;let R:=(↑(List.length O):Int);let S:=(↑(List.length P):Int);let T:=dfl Ty.str;let U:=D/\bc R S=eF a b/\D;(∃(x:Nat),(x<=A/\∀(j:Nat),j<x→List.getD B j C=C)/\C=(↑x:Int)/\F)/\∀(x:Nat),let V:=(↑x:Int);let W:=C<=V/\V<G;(x<=A/\∀(j:Nat),j<x→List.getD B j C=C)→if decide (V<(3:Int))=true then W/\if (!decide (List.getD B (Int.toNat V) H=C))=true then W/\D/\List.getD B (Int.toNat V) H=eF a b/\D else inR IntKind.i64 (V+I)/\∃(y:Nat),(y<=A/\∀(j:Nat),j<y→List.getD B j C=C)/\A - y<A - x/\V+I=(↑y:Int)/\F else if decide (a.pre=[])=true then L else if decide (b.pre=[])=true then L else (Nat.le K M/\D)/\(Nat.le J M/\D)/\(∃(x_1:Nat),(x_1<=List.length O/\x_1<=List.length P/\fb O P=fb (List.drop x_1 O) (List.drop x_1 P))/\C=(↑x_1:Int)/\V=V/\Q)/\∀(x_1:Nat),let X:=(↑x_1:Int);let Y:=List.getD O (Int.toNat X) T;let Z:=List.getD P (Int.toNat X) T;x_1<=List.length O/\x_1<=List.length P/\fb O P=fb (List.drop x_1 O) (List.drop x_1 P)→if decide (X<R)=true then if decide (X<S)=true then (C<=X/\X<R)/\(C<=X/\X<S)/\(List.length Y<=M/\List.length Z<=M)/\if (!decide (fv Y Z=C))=true then D/\fv Y Z=eF a b/\D else inR IntKind.i64 (X+I)/\∃(y:Nat),(y<=List.length O/\y<=List.length P/\fb O P=fb (List.drop y O) (List.drop y P))/\List.length O - y<List.length O - x_1/\X+I=(↑y:Int)/\V=V/\Q else U else U:=by
 conv=>zeta
 have hv:=td a b
 have l3:[bc a.major b.major,bc a.minor b.minor,bc a.patch b.patch].length=3:=rfl
 simp only [Int.toNat_natCast]
 refine ⟨⟨0,⟨by omega,fun j hj=>by omega⟩,(by repeat' (first | exact trivial | rfl | apply And.intro))⟩,?_⟩
 rintro k ⟨h1,h2⟩
 refine aa (fun h=>?_) (fun h=>?_)
 ·have h:=Xo h
  have hk:k < 3:=by omega
  refine ⟨⟨by omega,by rw [l3];omega⟩,aa (fun c=>?_) (fun c=>?_)⟩
  ·have c:¬[bc a.major b.major,bc a.minor b.minor,bc a.patch b.patch].getD k (dfl (.int .i64))=0:=by simpa only [Bool.not_eq_true',decide_eq_false_iff_not] using c
   replace c:¬[bc a.major b.major,bc a.minor b.minor,bc a.patch b.patch].getD k 0=0:=c
   have e:=rK h2 hk c
   have e0:jQ a b=[bc a.major b.major,bc a.minor b.minor,bc a.patch b.patch].getD k 0:=e
   rw [if_pos (by rw [e0];exact c),e0] at hv
   exact ⟨⟨by omega,by rw [l3];omega⟩,trivial,hv.symm,trivial⟩
  ·have c:[bc a.major b.major,bc a.minor b.minor,bc a.patch b.patch].getD k (dfl (.int .i64))=0:=by simpa only [Bool.not_eq_true',decide_eq_false_iff_not,Decidable.not_not] using c
   replace c:[bc a.major b.major,bc a.minor b.minor,bc a.patch b.patch].getD k 0=0:=c
   refine ⟨aJ (by omega) (by omega),k+1,⟨by omega,fun j hj=>?_⟩,by omega,by omega,(by repeat' (first | exact trivial | rfl | apply And.intro))⟩
   rcases Nat.lt_or_eq_of_le (Nat.le_of_lt_succ hj) with e | e
   ·exact h2 j e
   ·rw [e];exact c
 ·have hk:k=3:=by
   have:¬(k:Int) < 3:=fun e=>h (Xd e)
   omega
  subst hk
  have c:jQ a b=0:=vb.2 ⟨h2 0 (by omega),h2 1 (by omega),h2 2 (by omega)⟩
  have hn:=fun hp=>H0 c hp
  have hi:inR .i64 (bc (b.pre.length:Int) (a.pre.length:Int) *nzT a.pre b.pre):=by
   have:=DT (b.pre.length:Int) (a.pre.length:Int)
   rcases FR a.pre b.pre with e | e
   ·rw [e,Int.mul_zero];exact aJ (by omega) (by omega)
   ·rw [e,Int.mul_one];exact aJ (by omega) (by omega)
  rw [if_neg (fun e=>e c)] at hv
  refine aa (fun p=>?_) (fun p=>aa (fun q=>?_) (fun q=>?_))
  ·exact ⟨⟨trivial,trivial⟩,⟨trivial,trivial⟩,hi,trivial,hn (.inl (Xo p)),trivial⟩
  ·exact ⟨⟨trivial,trivial⟩,⟨trivial,trivial⟩,hi,trivial,hn (.inr (Xo q)),trivial⟩
  ·have p:¬a.pre=[]:=fun e=>p (Xd e)
   have q:¬b.pre=[]:=fun e=>q (Xd e)
   rw [if_neg p,if_neg q] at hv
   have la:=cr 46 a.pre
   have lb:=cr 46 b.pre
   have ma:=mQ 46 a.pre
   have mb:=mQ 46 b.pre
   generalize splitB 46 a.pre=x at hv la ma ⊢
   generalize splitB 46 b.pre=y at hv lb mb ⊢
   refine ⟨⟨ho.1,trivial⟩,⟨ho.2,trivial⟩,⟨0,⟨Nat.zero_le _,Nat.zero_le _,rfl⟩,(by repeat' (first | exact trivial | rfl | apply And.intro))⟩,?_⟩
   rintro j ⟨j1,j2,j3⟩
   have fin:(j=x.length∨j=y.length)→bc (x.length:Int) (y.length:Int)=eF a b:=fun e=>by rw [hv,j3,uZ j1 j2 e]
   refine aa (fun d=>aa (fun d2=>?_) (fun d2=>?_)) (fun d=>?_)
   ·have d:=Xo d
    have d2:=Xo d2
    have k1:j < x.length:=by omega
    have k2:j < y.length:=by omega
    have hs:=rI k1 k2
    have mx:=ma _ (aL x j (dfl .str) k1)
    have my:=mb _ (aL y j (dfl .str) k2)
    refine ⟨by omega,by omega,⟨Nat.le_trans mx ho.1,Nat.le_trans my ho.2⟩,aa (fun e=>?_) (fun e=>?_)⟩
    ·have e:¬fv (x.getD j (dfl .str)) (y.getD j (dfl .str))=0:=by simpa using e
     rw [if_neg e] at hs
     exact ⟨trivial,by rw [hv,j3,hs],trivial⟩
    ·have e:fv (x.getD j (dfl .str)) (y.getD j (dfl .str))=0:=by simpa using e
     rw [if_pos e] at hs
     refine ⟨aJ (by omega) (by omega),j+1,⟨by omega,by omega,by rw [j3,hs]⟩,by omega,by omega,?_⟩
     repeat' (first | exact trivial | rfl | apply And.intro)
   ·have d2:¬((j:Int) < (y.length:Int)):=fun e=>d2 (Xd e)
    exact ⟨trivial,fin (by omega),trivial⟩
   ·have d:¬((j:Int) < (x.length:Int)):=fun e=>d (Xd e)
    exact ⟨trivial,fin (by omega),trivial⟩
theorem z8 (l:List Bnd) (hl:Wf (.lst (.st .bound)) l) :
  let A:=(↑(List.length l):Int);let B:=True/\(50:Int)=fB l/\True;let C:=(0:Int);let D:=l=l/\false=false/\True;let E:=dfl (Ty.st SN.bound);let F:=(1:Int);if decide ((20:Int)<A)=true then B else (∃(x:Nat),(x<=List.length l/\List.all l eh=List.all (List.drop x l) eh)/\C=(↑x:Int)/\D)/\∀(x:Nat),let G:=(↑x:Int);let H:=C<=G/\G<A;let I:=List.getD l (Int.toNat G) E;x<=List.length l/\List.all l eh=List.all (List.drop x l) eh→if decide (G<A)=true then H/\if decide (I.op<F)=true then B else H/\if decide ((5:Int)<I.op)=true then B else H/\if (!decide (bf I.v=C))=true then B else inR IntKind.i64 (G+F)/\∃(y:Nat),(y<=List.length l/\List.all l eh=List.all (List.drop y l) eh)/\List.length l - y<List.length l - x/\G+F=(↑y:Int)/\D else True/\C=fB l/\True:=by
 conv=>zeta
 have ln:=hl.len
 refine aa (fun h=>?_) (fun h0=>?_)
 ·have h:=Xo h
  refine ⟨trivial,?_,trivial⟩
  unfold fB
  rw [if_pos (by omega)]
 have h0:¬20 < l.length:=fun e=>h0 (Xd (by omega))
 simp only [Int.toNat_natCast]
 refine ⟨⟨0,⟨Nat.zero_le _,rfl⟩,(by repeat' (first | exact trivial | rfl | apply And.intro))⟩,?_⟩
 rintro k ⟨h1,h2⟩
 refine aa (fun h=>?_) (fun h=>?_)
 ·have h:=Xo h
  have hk:k < l.length:=by omega
  rw [ai l k (dfl (.st .bound)) hk,List.all_cons] at h2
  have no:eh (l.getD k (dfl (.st .bound)))=false→True/\(50:Int)=fB l/\True:=fun e=>⟨trivial,Ao (by rw [h2,e];rfl),trivial⟩
  have yes:eh (l.getD k (dfl (.st .bound)))=true→l.all eh=(l.drop (k+1)).all eh:=fun e=>by rw [h2,e,Bool.true_and]
  unfold eh at no yes
  refine ⟨by omega,aa (fun c=>no ?_) (fun c=>⟨by omega,aa (fun c2=>no ?_) (fun c2=>⟨by omega,aa (fun d=>no ?_) (fun d=>?_)⟩)⟩)⟩
  ·have c:=Xo c
   rw [Xf (by omega),Bool.false_and]
  ·have c2:=Xo c2
   rw [Xf (by omega),Bool.false_and]
  ·have d:¬bf (l.getD k (dfl (.st .bound))).v=0:=by simpa using d
   rw [Xf d,Bool.and_false]
  ·have c:1<=(l.getD k (dfl (.st .bound))).op/\(l.getD k (dfl (.st .bound))).op<=5:=by
    have c:¬(l.getD k (dfl (.st .bound))).op < 1:=fun e=>c (Xd e)
    have c2:¬5 < (l.getD k (dfl (.st .bound))).op:=fun e=>c2 (Xd e)
    omega
   have d:bf (l.getD k (dfl (.st .bound))).v=0:=by simpa using d
   exact ⟨ar hk ln,k+1,⟨by omega,yes (by rw [Xd c,Xd d];rfl)⟩,by omega,by omega,(by repeat' (first | exact trivial | rfl | apply And.intro))⟩
 ·have e:k=l.length:=by
   have:¬((k:Int) < (l.length:Int)):=fun e=>h (Xd e)
   omega
  subst e
  rw [List.drop_length] at h2
  exact ⟨trivial,vc h0 h2,trivial⟩
theorem F0 (v:Vers) (b:Bnd) (ho:(v.pre.length<=4096/\b.v.pre.length<=4096)) :
  let A:=True;let B:=(0:Int);(List.length v.pre<=(4096:Nat)/\List.length b.v.pre<=(4096:Nat))/\if decide (b.op=(1:Int))=true then A/\decide (eF v b.v<B)=kl v b/\A else if decide (b.op=(2:Int))=true then A/\decide (eF v b.v<=B)=kl v b/\A else if decide (b.op=(3:Int))=true then A/\decide (eF v b.v=B)=kl v b/\A else if decide (b.op=(4:Int))=true then A/\decide (B<=eF v b.v)=kl v b/\A else if decide (b.op=(5:Int))=true then A/\decide (B<eF v b.v)=kl v b/\A else A/\false=kl v b/\A:=by
 conv=>zeta
 refine ⟨ho,?_⟩
 unfold kl DQ
 repeat' (refine aa (fun h=>?_) (fun h=>?_))
 all_goals (refine ⟨trivial,?_,trivial⟩;simp only [decide_eq_true_eq] at *;simp [*])
theorem za (v:Vers) (l:List Bnd) (hl:Wf (.lst (.st .bound)) l) (ho:(v.pre.length<=4096/\∀b∈l,b.v.pre.length<=4096)) :
  let A:=v=v/\l=l/\v=v/\True;let B:=(↑(List.length l):Int);let C:=dfl (Ty.st SN.bound);(∃(x:Nat),(x<=List.length l/\bn v l=bn v (List.drop x l))/\(0:Int)=(↑x:Int)/\A)/\∀(x:Nat),let D:=(↑x:Int);let E:=List.getD l (Int.toNat D) C;x<=List.length l/\bn v l=bn v (List.drop x l)→if decide (D<B)=true then ((0:Int)<=D/\D<B)/\(List.length v.pre<=(4096:Nat)/\List.length E.v.pre<=(4096:Nat))/\if (!kl v E)=true then True/\false=bn v l/\True else inR IntKind.i64 (D+(1:Int))/\∃(y:Nat),(y<=List.length l/\bn v l=bn v (List.drop y l))/\List.length l - y<List.length l - x/\D+(1:Int)=(↑y:Int)/\A else True/\true=bn v l/\True:=by
 conv=>zeta
 have ln:=hl.len
 simp only [Int.toNat_natCast]
 refine ⟨⟨0,⟨Nat.zero_le _,rfl⟩,(by repeat' (first | exact trivial | rfl | apply And.intro))⟩,?_⟩
 rintro k ⟨h1,h2⟩
 refine aa (fun h=>?_) (fun h=>?_)
 ·have h:=Xo h
  have hk:k < l.length:=by omega
  rw [ai l k (dfl (.st .bound)) hk,show ∀(x:Bnd) (r:List Bnd),bn v (x ::r)=(kl v x && bn v r) from fun _ _=>rfl] at h2
  refine ⟨by omega,⟨ho.1,ho.2 _ (aL l k _ hk)⟩,aa (fun c=>?_) (fun c=>?_)⟩
  ·have c:kl v (l.getD k (dfl (.st .bound)))=false:=by simpa using c
   rw [c,Bool.false_and] at h2
   exact ⟨trivial,h2.symm,trivial⟩
  ·have c:kl v (l.getD k (dfl (.st .bound)))=true:=by simpa using c
   rw [c,Bool.true_and] at h2
   exact ⟨ar hk ln,k+1,⟨by omega,h2⟩,by omega,by omega,(by repeat' (first | exact trivial | rfl | apply And.intro))⟩
 ·have e:k=l.length:=by
   have:¬((k:Int) < (l.length:Int)):=fun e=>h (Xd e)
   omega
  subst e
  rw [List.drop_length] at h2
  exact ⟨trivial,h2.symm,trivial⟩
theorem Co (a b:List Bnd) (hl:Wf (.lst (.st .bound)) a) (ho:a=b) :
  let A:=(↑(List.length a):Int);let B:=(↑(List.length b):Int);let C:=True/\false=true/\True;let D:=(0:Int);let E:=a=a/\b=b/\false=false/\True;let F:=dfl (Ty.st SN.bound);if (!decide (A=B))=true then C else (∃(x:Nat),x<=List.length a/\D=(↑x:Int)/\E)/\∀(x:Nat),let G:=(↑x:Int);let H:=List.getD a (Int.toNat G) F;let I:=List.getD b (Int.toNat G) F;x<=List.length a→if decide (G<A)=true then (D<=G/\G<A)/\(D<=G/\G<B)/\if (!(decide (H.op=I.op) && (decide (H.v.major=I.v.major) && (decide (H.v.minor=I.v.minor) && (decide (H.v.patch=I.v.patch) && (decide (H.v.pre=I.v.pre) && true))) && true)))=true then C else inR IntKind.i64 (G+(1:Int))/\∃(y:Nat),y<=List.length a/\List.length a - y<List.length a - x/\G+(1:Int)=(↑y:Int)/\E else True/\true=true/\True:=by
 conv=>zeta
 subst ho
 have ln:=hl.len
 simp only [Int.toNat_natCast]
 refine aa (fun h=>absurd h (by simp)) (fun _=>⟨⟨0,Nat.zero_le _,(by repeat' (first | exact trivial | rfl | apply And.intro))⟩,?_⟩)
 intro k h1
 refine aa (fun h=>?_) (fun h=>⟨trivial,(by repeat' (first | exact trivial | rfl | apply And.intro))⟩)
 have h:=Xo h
 have hk:k < a.length:=by omega
 exact ⟨by omega,by omega,aa (fun c=>absurd c (by simp)) (fun _=>⟨ar hk ln,k+1,by omega,by omega,by omega,(by repeat' (first | exact trivial | rfl | apply And.intro))⟩)⟩
theorem zb (n:Nat) (x:Shape) (ho:sz x<=n) :
  sz x<=n/\True/\(!allS aj x)=!allS aj x/\True:=by
 exact ⟨ho,trivial,rfl,trivial⟩
theorem zc (n:Nat) (l:List Shape) (hl:Wf (.lst (.st .shape)) l) (ho:∀x∈l,sz x<=n) :
  let A:=allS aj;let B:=(0:Nat);let C:=(↑(List.length l):Int);let D:=l=l/\C=C/\True;let E:=dfl (Ty.st SN.shape);(∃(x:Nat),(x<=List.length l/\bd A (List.drop x l) x=bd A l B)/\(0:Int)=(↑x:Int)/\D)/\∀(x:Nat),let F:=(↑x:Int);let G:=List.getD l (Int.toNat F) E;x<=List.length l/\bd A (List.drop x l) x=bd A l B→if decide (F<C)=true then ((0:Int)<=F/\F<C)/\sz G<=n/\if (!allS aj G)=true then True/\F=bd A l B/\True else inR IntKind.i64 (F+(1:Int))/\∃(y:Nat),(y<=List.length l/\bd A (List.drop y l) y=bd A l B)/\List.length l - y<List.length l - x/\F+(1:Int)=(↑y:Int)/\D else True/\(-1:Int)=bd A l B/\True:=by
 conv=>zeta
 have ln:=hl.len
 simp only [Int.toNat_natCast]
 refine ⟨⟨0,⟨Nat.zero_le _,by simp⟩,(by repeat' (first | exact trivial | rfl | apply And.intro))⟩,?_⟩
 rintro k ⟨h1,h2⟩
 refine aa (fun h=>?_) (fun h=>?_)
 ·replace h:=Xo h
  have hk:k < l.length:=by omega
  rw [ai l k (dfl (.st .shape)) hk,bd] at h2
  refine ⟨by omega,ho _ (aL l k _ hk),aa (fun c=>?_) (fun c=>?_)⟩
  ·have c:allS aj (l.getD k (dfl (.st .shape)))=false:=by simpa using c
   rw [c,if_neg Bool.false_ne_true] at h2
   rw [←h2]
   exact ⟨trivial,rfl,trivial⟩
  ·have c:allS aj (l.getD k (dfl (.st .shape)))=true:=by simpa using c
   rw [if_pos c] at h2
   exact ⟨ar hk ln,k+1,⟨by omega,h2⟩,by omega,by omega,(by repeat' (first | exact trivial | rfl | apply And.intro))⟩
 ·replace h:¬((k:Int) < (l.length:Int)):=fun e=>h (Xd e)
  have e:k=l.length:=by omega
  subst e
  rw [List.drop_length,bd] at h2
  rw [←h2]
  exact ⟨trivial,rfl,trivial⟩
theorem zd (n:Nat) (l:List Shape) (hl:Wf (.lst (.st .shape)) l) (ho:∀x∈l,sz x<=n) :
  (∀(x:Shape),x∈l→sz x<=n)/\True/\decide ((0:Int)<=bd (allS aj) l (0:Nat))=!List.all l (allS aj)/\True:=by
 exact ⟨ho,trivial,im (allS aj) l 0,trivial⟩
theorem F1 (n:Nat) (s:Shape) (ho:sz s<=n+1) :
  if (!decide (s.kind=(10:Int)))=true then (∀(x:Shape),x∈s.parts→sz x<=n)/\True/\(!!List.all s.parts (allS aj))=allS aj s/\True else True/\false=allS aj s/\True:=by
 have e0:allS aj s=(aj s && s.parts.all (allS aj)):=by rw [eC,gA]
 have h0:=gz s
 have hm:∀x∈s.parts,sz x<=n:=fun x hx=>by have:=dA hx;omega
 rw [e0]
 refine aa (fun h=>?_) (fun h=>?_)
 ·have h:aj s=true:=h
  rw [h,Bool.true_and]
  exact ⟨hm,trivial,by simp,trivial⟩
 ·have h:aj s=false:=by simpa [aj] using h
  rw [h]
  exact ⟨trivial,rfl,trivial⟩
theorem Cp (l:List Str) (ho:l.length *16<=140737488355328) :
  let A:=(List.mergeSort l fun (x y:Str)=>decide (x<=y));List.length l*(16:Nat)<=(140737488355328:Nat)/\List.length A=List.length A/\True/\decide ((↑(List.length (Lib.compact A)):Int)=(↑(List.length l):Int))=decide (List.Nodup l)/\True:=by
 conv=>zeta
 have hc:=gx l
 unfold ea at hc
 refine ⟨ho,rfl,trivial,?_,trivial⟩
 rw [decide_eq_decide,←hc]
 omega
theorem F2 (d:Dcl) (ho:cb d=true) :
  let A:=(0:Int);let B:=(↑(List.length d.shape.names):Int);let C:=(↑(List.length d.shape.parts):Int);let D:=True;let E:=d=d/\false=false/\d=d/\D;let F:=false=noS d.shape/\E;let G:=(↑(List.length d.term.names):Int);let H:=(↑(List.length d.term.vars):Int);let I:=(↑(List.length d.term.shapes):Int);let J:=(↑(List.length d.term.parts):Int);let K:=noS d.shape=noS d.shape/\d=d/\false=false/\d=d/\d.term=d.term/\D;let L:=false=noT d.term/\K;let M:=D/\false=bG d/\D;let N:=if bB d.name=true then if decide (bj d.shape=A)=true then sz d.shape<=(400:Nat)/\if allS aj d.shape=true then D/\noT d.term=bG d/\D else M else M else M;(if decide (d.shape.kind=A)=true then if decide (d.shape.pkg=[])=true then if decide (d.shape.name=[])=true then inR IntKind.i64 (B+C)/\decide (B+C=A)=noS d.shape/\E else F else F else F)/\(if decide (d.term.kind=A)=true then if decide (d.term.pkg=[])=true then if decide (d.term.name=[])=true then if decide (d.term.n=A)=true then if decide (d.term.pos=A)=true then inR IntKind.i64 (G+H)/\inR IntKind.i64 (G+H+I)/\inR IntKind.i64 (G+H+I+J)/\decide (G+H+I+J=A)=noT d.term/\K else L else L else L else L else L)/\if decide (d.kind=(1:Int))=true then N else if decide (d.kind=(2:Int))=true then N else if decide (d.kind=(3:Int))=true then if al d.name=true then bT d.term=true/\if decide (bD d.term=A)=true then D/\noS d.shape=bG d/\D else M else M else M:=by
 conv=>zeta
 obtain ⟨o4,o5⟩:=lY ho
 obtain ⟨s1,s2,s3,s4,s5,s6⟩:=E6 ho
 have dS:decide ((d.shape.names.length:Int)+(d.shape.parts.length:Int)=0)=decide (d.shape.names.length+d.shape.parts.length=0):=decide_eq_decide.2 (by omega)
 have dT:decide ((d.term.names.length:Int)+(d.term.vars.length:Int)+(d.term.shapes.length:Int)+(d.term.parts.length:Int)=0)=decide (d.term.names.length+d.term.vars.length+d.term.shapes.length+d.term.parts.length=0):=decide_eq_decide.2 (by omega)
 have i1:inR .i64 ((d.shape.names.length:Int)+(d.shape.parts.length:Int)):=aJ (by omega) (by omega)
 have i2:inR .i64 ((d.term.names.length:Int)+(d.term.vars.length:Int)):=aJ (by omega) (by omega)
 have i3:inR .i64 ((d.term.names.length:Int)+(d.term.vars.length:Int)+(d.term.shapes.length:Int)):=aJ (by omega) (by omega)
 have i4:inR .i64 ((d.term.names.length:Int)+(d.term.vars.length:Int)+(d.term.shapes.length:Int)+(d.term.parts.length:Int)):=aJ (by omega) (by omega)
 have nS:noS d.shape=(decide (d.shape.kind=0) && decide (d.shape.pkg=[]) && decide (d.shape.name=[]) && decide (d.shape.names.length+d.shape.parts.length=0)):=rfl
 have nT:noT d.term=(decide (d.term.kind=0) && decide (d.term.pkg=[]) && decide (d.term.name=[]) && decide (d.term.n=0) && decide (d.term.pos=0) && decide (d.term.names.length+d.term.vars.length+d.term.shapes.length+d.term.parts.length=0)):=rfl
 refine ⟨?_,?_,?_⟩
 ·rw [nS,dS]
  refine aa (fun a=>aa (fun b=>aa (fun c=>⟨i1,?_,(by repeat' (first | exact trivial | rfl | apply And.intro))⟩) (fun c=>⟨?_,(by repeat' (first | exact trivial | rfl | apply And.intro))⟩)) (fun b=>⟨?_,(by repeat' (first | exact trivial | rfl | apply And.intro))⟩)) (fun a=>⟨?_,(by repeat' (first | exact trivial | rfl | apply And.intro))⟩)
  ·rw [a,b,c];rfl
  ·rw [bF c,Bool.and_false,Bool.false_and]
  ·rw [bF b,Bool.and_false,Bool.false_and,Bool.false_and]
  ·rw [bF a,Bool.false_and,Bool.false_and,Bool.false_and]
 ·rw [nT,dT]
  refine aa (fun a=>aa (fun b=>aa (fun c=>aa (fun e=>aa (fun f=>⟨i2,i3,i4,?_,(by repeat' (first | exact trivial | rfl | apply And.intro))⟩) (fun f=>⟨?_,(by repeat' (first | exact trivial | rfl | apply And.intro))⟩)) (fun e=>⟨?_,(by repeat' (first | exact trivial | rfl | apply And.intro))⟩)) (fun c=>⟨?_,(by repeat' (first | exact trivial | rfl | apply And.intro))⟩)) (fun b=>⟨?_,(by repeat' (first | exact trivial | rfl | apply And.intro))⟩)) (fun a=>⟨?_,(by repeat' (first | exact trivial | rfl | apply And.intro))⟩)
  ·rw [a,b,c,e,f];rfl
  ·rw [bF f,Bool.and_false,Bool.false_and]
  ·rw [bF e,Bool.and_false,Bool.false_and,Bool.false_and]
  ·rw [bF c,Bool.and_false,Bool.false_and,Bool.false_and,Bool.false_and]
  ·rw [bF b,Bool.and_false,Bool.false_and,Bool.false_and,Bool.false_and,Bool.false_and]
  ·rw [bF a,Bool.false_and,Bool.false_and,Bool.false_and,Bool.false_and,Bool.false_and]
 clear nS nT dS dT
 have ty:d.kind=1∨d.kind=2→(if bB d.name=true then if decide (bj d.shape=0)=true then sz d.shape<=400/\if allS aj d.shape=true then True/\noT d.term=bG d/\True else True/\false=bG d/\True else True/\false=bG d/\True else True/\false=bG d/\True):=by
  intro k
  unfold bG
  rw [if_pos k]
  refine aa (fun a=>aa (fun b=>⟨(jI (Xo b)).1,aa (fun c=>⟨trivial,?_,trivial⟩) (fun c=>⟨trivial,?_,trivial⟩)⟩) (fun b=>⟨trivial,?_,trivial⟩)) (fun a=>⟨trivial,?_,trivial⟩)
  ·rw [a,b,c];rfl
  ·rw [bF c,Bool.and_false,Bool.false_and]
  ·rw [bF b,Bool.and_false,Bool.false_and,Bool.false_and]
  ·rw [bF a,Bool.false_and,Bool.false_and,Bool.false_and]
 refine aa (fun k=>ty (.inl (Xo k))) (fun k1=>aa (fun k=>ty (.inr (Xo k))) (fun k2=>?_))
 have k1:¬d.kind=1:=fun e=>k1 (Xd e)
 have k2:¬d.kind=2:=fun e=>k2 (Xd e)
 have dk:bG d=if d.kind=3 then al d.name && decide (bD d.term=0) && noS d.shape else false:=by
  unfold bG
  exact if_neg (fun e=>e.elim k1 k2)
 rw [dk]
 refine aa (fun k=>?_) (fun k=>⟨trivial,(if_neg (fun e=>k (Xd e))).symm,trivial⟩)
 rw [if_pos (Xo k)]
 refine aa (fun a=>⟨o5,aa (fun b=>⟨trivial,?_,trivial⟩) (fun b=>⟨trivial,?_,trivial⟩)⟩) (fun a=>⟨trivial,?_,trivial⟩)
 ·rw [a,b];rfl
 ·rw [bF b,Bool.and_false,Bool.false_and]
 ·rw [bF a,Bool.false_and,Bool.false_and]
theorem Cq (m:Modu) (hm:Wf (.st .modu) m) (ho:(m.decls.all cb=true/\m.decls.length<=1000000)) :
  let A:=True/\(100:Int)=bz m/\True;let B:=(↑(List.length m.imports):Int);let C:=(↑(List.length m.exports):Int);let D:=(0:Int);let E:=(fun (x:Impt)=>x.name);let F:=m=m;let G:=false=false;let H:=m.imports=m.imports;let I:=B=B;let J:=F/\True;let K:=dfl (Ty.st SN.imp);let L:=(16:Nat);let M:=(140737488355328:Nat);let N:=(1:Int);let O:=[([73,110,116]:Str),([66,111,111,108]:Str),([84,101,120,116]:Str),([65,110,121]:Str)];let P:=(fun (x:Dcl)=>x.name);let Q:=m.decls=m.decls;let R:=(↑(List.length m.decls):Int);let S:=R=R;let T:=dfl (Ty.st SN.decl);let U:=m.exports=m.exports;if (!al m.name)=true then A else if decide ((8:Int)<B)=true then A else if decide ((60:Int)<C)=true then A else if decide (m.pos<D)=true then A else (∃(x:Nat),let V:=List.take x m.imports;(x<=List.length m.imports/\List.all m.imports fD=List.all (List.drop x m.imports) fD)/\[m.name]=m.name::List.map E V/\D=(↑x:Int)/\F/\G/\H/\I/\List.length [m.name]=List.length (m.name::List.map E V)/\J)/\∀(x:Nat),let V:=(↑x:Int);let W:=List.getD m.imports (Int.toNat V) K;let X:=List.take x m.imports;let Y:=(m.name::List.map E X);let Z:=List.length Y=List.length Y;let a:=[W.name];let c:=m.name::List.map E X=m.name::List.map E X;let d:=V=V;let e:=Z/\J;x<=List.length m.imports/\List.all m.imports fD=List.all (List.drop x m.imports) fD→if decide (V<B)=true then (D<=V/\V<B)/\if (!al W.name)=true then A else if (!decide (bf W.pin=D))=true then A else if (!decide (fB W.range=D))=true then A else (List.length W.pin.pre<=(4096:Nat)/\∀(b:Bnd),b∈W.range→List.length b.v.pre<=(4096:Nat))/\if (!bn W.pin W.range)=true then A else if decide (W.pos<D)=true then A else (Z/\(List.length Y+List.length a)*L<=M)/\inR IntKind.i64 (V+N)/\∃(y:Nat),let f:=List.take y m.imports;(y<=List.length m.imports/\List.all m.imports fD=List.all (List.drop y m.imports) fD)/\List.length m.imports - y<List.length m.imports - x/\m.name::List.map E X++a=m.name::List.map E f/\V+N=(↑y:Int)/\F/\G/\H/\I/\List.length (m.name::List.map E X++a)=List.length (m.name::List.map E f)/\J else (∃(x_1:Nat),let f:=List.take x_1 m.decls;(x_1<=List.length m.decls/\List.all m.decls fx=List.all (List.drop x_1 m.decls) fx)/\O=dt++List.map P f/\D=(↑x_1:Int)/\c/\d/\F/\G/\H/\I/\G/\Q/\S/\List.length O=List.length (dt++List.map P f)/\e)/\∀(x_1:Nat),let f:=(↑x_1:Int);let g:=List.getD m.decls (Int.toNat f) T;let h:=List.take x_1 m.decls;let i:=dt++List.map P h;let j:=List.length i=List.length i;let k:=[g.name];let l:=dt++List.map P h=dt++List.map P h/\f=f/\c/\d/\F/\G/\H/\I/\G/\Q/\S/\G/\U/\C=C/\j/\e;x_1<=List.length m.decls/\List.all m.decls fx=List.all (List.drop x_1 m.decls) fx→if decide (f<R)=true then (D<=f/\f<R)/\cb g=true/\if (!bG g)=true then A else if decide (g.pos<D)=true then A else (j/\(List.length i+List.length k)*L<=M)/\inR IntKind.i64 (f+N)/\∃(y:Nat),let n:=List.take y m.decls;(y<=List.length m.decls/\List.all m.decls fx=List.all (List.drop y m.decls) fx)/\List.length m.decls - y<List.length m.decls - x_1/\dt++List.map P h++k=dt++List.map P n/\f+N=(↑y:Int)/\c/\d/\F/\G/\H/\I/\G/\Q/\S/\List.length (dt++List.map P h++k)=List.length (dt++List.map P n)/\e else (∃(x_2:Nat),(x_2<=List.length m.exports/\List.all m.exports eG=List.all (List.drop x_2 m.exports) eG)/\D=(↑x_2:Int)/\l)/\∀(x_2:Nat),let n:=(↑x_2:Int);let o:=List.getD m.exports (Int.toNat n) (dfl Ty.str);let p:=inR IntKind.i64 (n+N)/\∃(y:Nat),(y<=List.length m.exports/\List.all m.exports eG=List.all (List.drop y m.exports) eG)/\List.length m.exports - y<List.length m.exports - x_2/\n+N=(↑y:Int)/\l;x_2<=List.length m.exports/\List.all m.exports eG=List.all (List.drop x_2 m.exports) eG→if decide (n<C)=true then (D<=n/\n<C)/\if (!al o)=true then if (!bB o)=true then A else p else p else List.length Y*L<=M/\if (!decide (List.Nodup Y))=true then A else List.length i*L<=M/\if (!decide (List.Nodup i))=true then A else List.length m.exports*L<=M/\if (!decide (List.Nodup m.exports))=true then A else True/\D=bz m/\True:=by
 conv=>zeta
 have bad:okM m=false→True/\(100:Int)=bz m/\True:=fun e=>⟨trivial,pY e,trivial⟩
 have hb:(al m.name=true/\m.imports.length<=8/\m.exports.length<=60/\0<=m.pos→False)→True/\(100:Int)=bz m/\True:=fun e=>bad (nI (bF (fun k=>e (ix.1 k))))
 obtain ⟨o1,o2⟩:=ho
 rw [List.all_eq_true] at o1
 refine aa (fun a=>hb (fun e=>nbN a e.1)) (fun a1=>aa (fun a=>hb (fun e=>by have:=Xo a;omega)) (fun a2=>aa (fun a=>hb (fun e=>by have:=Xo a;omega)) (fun a3=>aa (fun a=>hb (fun e=>by have:=Xo a;omega)) (fun a4=>?_))))
 have a2:¬(8:Int) < m.imports.length:=fun e=>a2 (Xd e)
 have a3:¬(60:Int) < m.exports.length:=fun e=>a3 (Xd e)
 have a4:¬m.pos < 0:=fun e=>a4 (Xd e)
 have hH:nG m=true:=ix.2 ⟨nbP a1,by omega,by omega,by omega⟩
 clear hb a1
 simp only [Int.toNat_natCast]
 refine ⟨⟨0,⟨Nat.zero_le _,rfl⟩,(by repeat' (first | exact trivial | rfl | apply And.intro))⟩,?_⟩
 rintro k ⟨k1,k2⟩
 have lk:(m.name ::(m.imports.take k).map (·.name)).length=k+1:=by rw [List.length_cons,List.length_map,List.length_take];omega
 refine aa (fun h=>?_) (fun h=>?_)
 ·have h:=Xo h
  have hk:k < m.imports.length:=by omega
  rw [ai m.imports k (dfl (.st .imp)) hk,List.all_cons] at k2
  have he:(m.name ::(m.imports.take k).map (·.name))++[(m.imports.getD k (dfl (.st .imp))).name]=m.name ::(m.imports.take (k+1)).map (·.name):=by
   rw [bw m.imports k (dfl (.st .imp)) hk,List.map_append]
   rfl
  have no:(al (m.imports.getD k (dfl (.st .imp))).name=true/\bf (m.imports.getD k (dfl (.st .imp))).pin=0/\fB (m.imports.getD k (dfl (.st .imp))).range=0/\bn (m.imports.getD k (dfl (.st .imp))).pin (m.imports.getD k (dfl (.st .imp))).range=true/\0<=(m.imports.getD k (dfl (.st .imp))).pos→False)→True/\(100:Int)=bz m/\True:=fun e=>bad (pZ (by rw [k2,bF (fun q=>e (oz.1 q))];rfl))
  refine ⟨by omega,aa (fun c=>no (fun e=>nbN c e.1)) (fun c1=>aa (fun c=>no (fun e=>ndN c e.2.1)) (fun c2=>aa (fun c=>no (fun e=>ndN c e.2.2.1)) (fun c3=>?_)))⟩
  have c2:bf (m.imports.getD k (dfl (.st .imp))).pin=0:=ndP c2
  have c3:fB (m.imports.getD k (dfl (.st .imp))).range=0:=ndP c3
  refine ⟨⟨Nat.le_trans (kY c2) (by decide),fun b hb=>Nat.le_trans (vn c3 b hb) (by decide)⟩,aa (fun c=>no (fun e=>nbN c e.2.2.2.1)) (fun c4=>aa (fun c=>no (fun e=>by have:=Xo c;omega)) (fun c5=>?_))⟩
  have c5:¬(m.imports.getD k (dfl (.st .imp))).pos < 0:=fun e=>c5 (Xd e)
  have yes:fD (m.imports.getD k (dfl (.st .imp)))=true:=oz.2 ⟨nbP c1,c2,c3,nbP c4,by omega⟩
  rw [yes,Bool.true_and] at k2
  refine ⟨⟨by first | rfl | trivial,by rw [lk,List.length_singleton];omega⟩,aJ (by omega) (by omega),k+1,⟨by omega,k2⟩,by omega,he,by omega,(by repeat' (first | exact trivial | rfl | exact congrArg List.length he | apply And.intro))⟩
 have ek:k=m.imports.length:=by
  have:¬((k:Int) < (m.imports.length:Int)):=fun e=>h (Xd e)
  omega
 subst ek
 rw [List.drop_length] at k2
 have kI:m.imports.all fD=true:=k2
 clear k2
 simp only [List.take_length]
 refine ⟨⟨0,⟨Nat.zero_le _,rfl⟩,(by repeat' (first | exact trivial | rfl | apply And.intro))⟩,?_⟩
 rintro j ⟨j1,j2⟩
 have lj:(dt++(m.decls.take j).map (·.name)).length=j+4:=by rw [List.length_append,List.length_map,List.length_take];show 4+_=_;omega
 refine aa (fun h=>?_) (fun h=>?_)
 ·have h:=Xo h
  have hj:j < m.decls.length:=by omega
  rw [ai m.decls j (dfl (.st .decl)) hj,List.all_cons] at j2
  have he:(dt++(m.decls.take j).map (·.name))++[(m.decls.getD j (dfl (.st .decl))).name]=dt++(m.decls.take (j+1)).map (·.name):=by
   rw [bw m.decls j (dfl (.st .decl)) hj,List.map_append,List.append_assoc]
   rfl
  have no:(bG (m.decls.getD j (dfl (.st .decl)))=true/\0<=(m.decls.getD j (dfl (.st .decl))).pos→False)→True/\(100:Int)=bz m/\True:=fun e=>bad (q8 (by rw [j2,bF (fun q=>e (lZ.1 q))];rfl))
  refine ⟨by omega,o1 _ (aL m.decls j _ hj),aa (fun c=>no (fun e=>nbN c e.1)) (fun c1=>aa (fun c=>no (fun e=>by have:=Xo c;omega)) (fun c2=>?_))⟩
  have c2:¬(m.decls.getD j (dfl (.st .decl))).pos < 0:=fun e=>c2 (Xd e)
  have yes:fx (m.decls.getD j (dfl (.st .decl)))=true:=lZ.2 ⟨nbP c1,by omega⟩
  rw [yes,Bool.true_and] at j2
  refine ⟨⟨by first | rfl | trivial,by rw [lj,List.length_singleton];omega⟩,aJ (by omega) (by omega),j+1,⟨by omega,j2⟩,by omega,he,by omega,(by repeat' (first | exact trivial | rfl | exact congrArg List.length he | apply And.intro))⟩
 have ej:j=m.decls.length:=by
  have:¬((j:Int) < (m.decls.length:Int)):=fun e=>h (Xd e)
  omega
 subst ej
 rw [List.drop_length] at j2
 have kD:m.decls.all fx=true:=j2
 clear j2
 simp only [List.take_length] at lj lk ⊢
 refine ⟨⟨0,⟨Nat.zero_le _,rfl⟩,(by repeat' (first | exact trivial | rfl | apply And.intro))⟩,?_⟩
 rintro i ⟨i1,i2⟩
 refine aa (fun h=>?_) (fun h=>?_)
 ·have h:=Xo h
  have hi:i < m.exports.length:=by omega
  rw [ai m.exports i (dfl .str) hi,List.all_cons] at i2
  have yes:eG (m.exports.getD i (dfl .str))=true→inR .i64 ((i:Int)+1)/\m.exports.all eG=(m.exports.drop (i+1)).all eG:=fun e=>⟨aJ (by omega) (by omega),by rw [i2,e,Bool.true_and]⟩
  refine ⟨by omega,aa (fun c=>aa (fun c2=>?_) (fun c2=>?_)) (fun c=>?_)⟩
  ·have no:eG (m.exports.getD i (dfl .str))=false:=bF (fun q=>by
    rcases kg.1 q with e | e
    ·exact nbN c e
    ·exact nbN c2 e)
   exact bad (q9 (by rw [i2,no];rfl))
  ·obtain ⟨y1,y2⟩:=yes (kg.2 (.inr (nbP c2)))
   exact ⟨y1,i+1,⟨by omega,y2⟩,by omega,by omega,(by repeat' (first | exact trivial | rfl | apply And.intro))⟩
  ·obtain ⟨y1,y2⟩:=yes (kg.2 (.inl (nbP c)))
   exact ⟨y1,i+1,⟨by omega,y2⟩,by omega,by omega,(by repeat' (first | exact trivial | rfl | apply And.intro))⟩
 have ei:i=m.exports.length:=by
  have:¬((i:Int) < (m.exports.length:Int)):=fun e=>h (Xd e)
  omega
 subst ei
 rw [List.drop_length] at i2
 have hE:=E7 hH kI kD i2
 have e1:G3 m=m.name ::m.imports.map (·.name):=rfl
 have e2:G4 m=dt++m.decls.map (·.name):=rfl
 rw [e1,e2] at hE
 refine ⟨by rw [lk];omega,aa (fun c=>bad ?_) (fun c=>⟨by rw [lj];omega,aa (fun d=>bad ?_) (fun d=>⟨by omega,aa (fun e=>bad ?_) (fun e=>⟨trivial,nH ?_,trivial⟩)⟩)⟩)⟩
 ·have c:decide (m.name ::m.imports.map (·.name)).Nodup=false:=by simpa only [Bool.not_eq_true'] using c
  rw [hE,c,Bool.false_and,Bool.false_and]
 ·have d:decide (dt++m.decls.map (·.name)).Nodup=false:=by simpa only [Bool.not_eq_true'] using d
  rw [hE,d,Bool.and_false,Bool.false_and]
 ·have e:decide m.exports.Nodup=false:=by simpa only [Bool.not_eq_true'] using e
  rw [hE,e,Bool.and_false]
 ·have c:decide (m.name ::m.imports.map (·.name)).Nodup=true:=by simpa only [Bool.not_eq_true',Bool.not_eq_false] using c
  have d:decide (dt++m.decls.map (·.name)).Nodup=true:=by simpa only [Bool.not_eq_true',Bool.not_eq_false] using d
  have e:decide m.exports.Nodup=true:=by simpa only [Bool.not_eq_true',Bool.not_eq_false] using e
  rw [hE,c,d,e]
  rfl
theorem ze (s:Str) (l:List Str) (hl:Wf (.lst .str) l) :
  let A:=s=s/\l=l/\True;let B:=(↑(List.length l):Int);(∃(x:Nat),(x<=List.length l/\decide (s∈l)=decide (s∈List.drop x l))/\(0:Int)=(↑x:Int)/\A)/\∀(x:Nat),let C:=(↑x:Int);x<=List.length l/\decide (s∈l)=decide (s∈List.drop x l)→if decide (C<B)=true then ((0:Int)<=C/\C<B)/\if decide (List.getD l (Int.toNat C) (dfl Ty.str)=s)=true then True/\true=decide (s∈l)/\True else inR IntKind.i64 (C+(1:Int))/\∃(y:Nat),(y<=List.length l/\decide (s∈l)=decide (s∈List.drop y l))/\List.length l - y<List.length l - x/\C+(1:Int)=(↑y:Int)/\A else True/\false=decide (s∈l)/\True:=by
 conv=>zeta
 have ln:=hl.len
 simp only [Int.toNat_natCast,eq_self,true_and,and_true]
 refine ⟨⟨0,⟨Nat.zero_le _,by simp⟩,rfl⟩,?_⟩
 rintro k ⟨h1,h2⟩
 refine aa (fun h=>?_) (fun h=>?_)
 ·replace h:=Xo h
  have hk:k < l.length:=by omega
  rw [ai l k (dfl .str) hk] at h2
  refine ⟨by omega,aa (fun a=>?_) (fun a=>?_)⟩
  ·rw [h2,Xo a];simp
  ·refine ⟨ar hk ln,k+1,⟨by omega,?_⟩,by omega,by omega⟩
   rw [h2,decide_eq_decide,List.mem_cons]
   constructor
   ·rintro (h | h)
    ·exact absurd (Xd h.symm) a
    ·exact h
   ·exact Or.inr
 ·replace h:¬((k:Int) < (l.length:Int)):=fun e=>h (Xd e)
  have e:k=l.length:=by omega
  subst e
  rw [h2,List.drop_length];simp
theorem vY (n:Nat) (s:Shape) (hs:Wf (.st .shape) s) (hn:sz s<=n+1) :
  let A:=s=s/\s=s/\True;let B:=(↑(List.length s.parts):Int);let C:=dfl (Ty.st SN.shape);(∃(x:Nat),(x<=List.length s.parts/\allS aj s=(aj s && allL aj (List.drop x s.parts)))/\(0:Int)=(↑x:Int)/\A)/\∀(x:Nat),let D:=(↑x:Int);let E:=List.getD s.parts (Int.toNat D) C;x<=List.length s.parts/\allS aj s=(aj s && allL aj (List.drop x s.parts))→if decide (D<B)=true then ((0:Int)<=D/\D<B)/\sz E<=n/\if (!allS aj E)=true then True/\true=!allS aj s/\True else inR IntKind.i64 (D+(1:Int))/\∃(y:Nat),(y<=List.length s.parts/\allS aj s=(aj s && allL aj (List.drop y s.parts)))/\List.length s.parts - y<List.length s.parts - x/\D+(1:Int)=(↑y:Int)/\A else True/\decide (s.kind=(10:Int))=!allS aj s/\True:=by
 conv=>zeta
 have ln:=hs.parts.len
 have hz:=gz s
 simp only [Int.toNat_natCast,eq_self,true_and,and_true]
 refine ⟨⟨0,⟨Nat.zero_le _,by rw [eC];rfl⟩,rfl⟩,?_⟩
 rintro k ⟨h1,h3⟩
 refine aa (fun h=>?_) (fun h=>?_)
 ·replace h:=Xo h
  have hk:k < s.parts.length:=by omega
  have hm:=dA (aL s.parts k (dfl (.st .shape)) hk)
  rw [ai s.parts k (dfl (.st .shape)) hk] at h3
  simp only [allL] at h3
  refine ⟨by omega,by omega,aa (fun e=>?_) (fun e=>?_)⟩
  ·have e:allS aj (s.parts.getD k (dfl (.st .shape)))=false:=by simpa using e
   rw [e] at h3;rw [h3];simp
  ·have e:allS aj (s.parts.getD k (dfl (.st .shape)))=true:=by simpa using e
   rw [e,Bool.true_and] at h3
   exact ⟨ar hk ln,k+1,⟨by omega,h3⟩,by omega,by omega⟩
 ·replace h:¬((k:Int) < (s.parts.length:Int)):=fun e=>h (Xd e)
  have e:k=s.parts.length:=by omega
  subst e
  rw [h3,List.drop_length]
  simp [allL,aj]
theorem zf (l:List Str) (hl:Wf (.lst .str) l) :
  let A:=(0:Int);let B:=l=l/\True;let C:=(↑(List.length l):Int);(∃(x:Nat),(x<=List.length l/\List.Nodup (List.take x l))/\A=(↑x:Int)/\B)/\∀(x:Nat),let D:=(↑x:Int);x<=List.length l/\List.Nodup (List.take x l)→if decide (D<C)=true then (A<=D/\D<C)/\(A<=A/\A<=D/\D<=C)/\if decide (List.getD l (Int.toNat D) (dfl Ty.str)∈List.drop (Int.toNat A) (List.take (Int.toNat D) l))=true then True/\false=decide (List.Nodup l)/\True else inR IntKind.i64 (D+(1:Int))/\∃(y:Nat),(y<=List.length l/\List.Nodup (List.take y l))/\List.length l - y<List.length l - x/\D+(1:Int)=(↑y:Int)/\B else True/\true=decide (List.Nodup l)/\True:=by
 conv=>zeta
 have ln:=hl.len
 simp only [Int.toNat_natCast,Int.toNat_zero,List.drop_zero]
 refine ⟨⟨0,⟨Nat.zero_le _,List.nodup_nil⟩,(by repeat' (first | exact trivial | rfl | apply And.intro))⟩,?_⟩
 rintro k ⟨h1,h2⟩
 refine aa (fun h=>?_) (fun h=>?_)
 ·have h:=Xo h
  have hk:k < l.length:=by omega
  have ht:=yu hk
  refine ⟨by omega,by omega,aa (fun c=>?_) (fun c=>?_)⟩
  ·have c:=Xo c
   refine ⟨trivial,(Xf fun e=>?_).symm,trivial⟩
   exact (ht.1 (List.Nodup.sublist (List.take_sublist _ _) e)).2 c
  ·have c:=fun e=>c (Xd e)
   exact ⟨ar hk ln,k+1,⟨by omega,ht.2 ⟨h2,c⟩⟩,by omega,by omega,(by repeat' (first | exact trivial | rfl | apply And.intro))⟩
 ·have e:k=l.length:=by
   have:¬((k:Int) < (l.length:Int)):=fun e=>h (Xd e)
   omega
  subst e
  rw [List.take_length] at h2
  exact ⟨trivial,(Xd h2).symm,trivial⟩
theorem Cr (d:Dcl) (hd:Wf (.st .decl) d) (ho:cb d=true) :
  let A:=(0:Int);let B:=True;let C:=B/\false=bG d/\B;let D:=if bB d.name=true then if decide (bj d.shape=A)=true then sz d.shape<=(400:Nat)/\if (!!allS aj d.shape)=true then szT d.term<=szT d.term/\B/\eqT d.term {kind:=A,pkg:=[],name:=[],n:=A,names:=[],vars:=[],shapes:=[],parts:=[],pos:=A:Trm} true=bG d/\B else C else C else C;if decide (d.kind=(3:Int))=true then if al d.name=true then cR d.term=true/\if decide (bD d.term=A)=true then sz d.shape<=sz d.shape/\B/\eqS d.shape {kind:=A,pkg:=[],name:=[],names:=[],parts:=[]:Shape}=bG d/\B else C else C else if (!decide (d.kind=(1:Int)))=true then if (!decide (d.kind=(2:Int)))=true then C else D else D:=by
 conv=>zeta
 obtain ⟨o4,o5⟩:=lY ho
 have e1:eqS d.shape ⟨0,[],[],[],[]⟩=noS d.shape:=H9 d.shape
 have e2:eqT d.term ⟨0,[],[],0,[],[],[],[],0⟩ true=noT d.term:=Ha d.term
 rw [e1,e2]
 have ty:d.kind=1∨d.kind=2→(if bB d.name=true then if decide (bj d.shape=0)=true then sz d.shape<=400/\if (!!allS aj d.shape)=true then szT d.term<=szT d.term/\True/\noT d.term=bG d/\True else True/\false=bG d/\True else True/\false=bG d/\True else True/\false=bG d/\True):=by
  intro k
  unfold bG
  rw [if_pos k,Bool.not_not]
  refine aa (fun a=>aa (fun b=>⟨(jI (Xo b)).1,aa (fun c=>⟨Nat.le_refl _,trivial,?_,trivial⟩) (fun c=>⟨trivial,?_,trivial⟩)⟩) (fun b=>⟨trivial,?_,trivial⟩)) (fun a=>⟨trivial,?_,trivial⟩)
  ·rw [a,b,c];rfl
  ·rw [bF c,Bool.and_false,Bool.false_and]
  ·rw [bF b,Bool.and_false,Bool.false_and,Bool.false_and]
  ·rw [bF a,Bool.false_and,Bool.false_and,Bool.false_and]
 refine aa (fun k=>?_) (fun k3=>aa (fun k1=>aa (fun k2=>?_) (fun k2=>ty (.inr (ndP k2)))) (fun k1=>ty (.inl (ndP k1))))
 ·have k:=Xo k
  have dk:bG d=(al d.name && decide (bD d.term=0) && noS d.shape):=by
   unfold bG
   rw [if_neg (by omega),if_pos k]
  rw [dk]
  refine aa (fun a=>⟨o4,aa (fun b=>⟨Nat.le_refl _,trivial,?_,trivial⟩) (fun b=>⟨trivial,?_,trivial⟩)⟩) (fun a=>⟨trivial,?_,trivial⟩)
  ·rw [a,b];rfl
  ·rw [bF b,Bool.and_false,Bool.false_and]
  ·rw [bF a,Bool.false_and,Bool.false_and]
 ·refine ⟨trivial,?_,trivial⟩
  have k1:=ndN k1
  have k2:=ndN k2
  have k3:¬d.kind=3:=fun e=>k3 (Xd e)
  unfold bG
  rw [if_neg (by omega),if_neg k3]
theorem zg (m:Modu) (hm:Wf (.st .modu) m) (ho:(m.decls.all cb=true/\m.decls.length<=1000000)) :
  let A:=True/\(100:Int)=bz m/\True;let B:=(↑(List.length m.imports):Int);let C:=(↑(List.length m.exports):Int);let D:=(0:Int);let E:=(fun (x:Impt)=>x.name);let F:=m=m;let G:=false=false;let H:=F/\True;let I:=dfl (Ty.st SN.imp);let J:=(140737488355328:Nat);let K:=(1:Int);let L:=[([73,110,116]:Str),([66,111,111,108]:Str),([84,101,120,116]:Str),([65,110,121]:Str)];let M:=(fun (x:Dcl)=>x.name);let N:=(↑(List.length m.decls):Int);let O:=dfl (Ty.st SN.decl);if (!al m.name)=true then A else if decide ((8:Int)<B)=true then A else if decide ((60:Int)<C)=true then A else if decide (m.pos<D)=true then A else (∃(x:Nat),let P:=List.take x m.imports;(x<=List.length m.imports/\List.all m.imports fD=List.all (List.drop x m.imports) fD)/\[m.name]=m.name::List.map E P/\D=(↑x:Int)/\F/\G/\List.length [m.name]=List.length (m.name::List.map E P)/\H)/\∀(x:Nat),let P:=(↑x:Int);let Q:=List.take x m.imports;let R:=(m.name::List.map E Q);let S:=List.length R=List.length R;let T:=List.getD m.imports (Int.toNat P) I;let U:=[T.name];let V:=m.name::List.map E Q=m.name::List.map E Q;let W:=P=P;let X:=S/\H;x<=List.length m.imports/\List.all m.imports fD=List.all (List.drop x m.imports) fD→if decide (P<B)=true then (D<=P/\P<B)/\(S/\(List.length R+List.length U)*(16:Nat)<=J)/\if (!al T.name)=true then A else if (!decide (bf T.pin=D))=true then A else if (!decide (fB T.range=D))=true then A else (List.length T.pin.pre<=(4096:Nat)/\∀(b:Bnd),b∈T.range→List.length b.v.pre<=(4096:Nat))/\if (!bn T.pin T.range)=true then A else if decide (T.pos<D)=true then A else inR IntKind.i64 (P+K)/\∃(y:Nat),let Y:=List.take y m.imports;(y<=List.length m.imports/\List.all m.imports fD=List.all (List.drop y m.imports) fD)/\List.length m.imports - y<List.length m.imports - x/\m.name::List.map E Q++U=m.name::List.map E Y/\P+K=(↑y:Int)/\F/\G/\List.length (m.name::List.map E Q++U)=List.length (m.name::List.map E Y)/\H else (∃(x_1:Nat),let Y:=List.take x_1 m.decls;(x_1<=List.length m.decls/\List.all m.decls fx=List.all (List.drop x_1 m.decls) fx)/\L=dt++List.map M Y/\D=(↑x_1:Int)/\V/\W/\F/\G/\G/\List.length L=List.length (dt++List.map M Y)/\X)/\∀(x_1:Nat),let Y:=(↑x_1:Int);let Z:=D<=Y/\Y<N;let a:=List.take x_1 m.decls;let c:=dt++List.map M a;let d:=List.length c=List.length c;let e:=List.getD m.decls (Int.toNat Y) O;let f:=[e.name];let g:=dt++List.map M a=dt++List.map M a/\Y=Y/\V/\W/\F/\G/\G/\G/\d/\X;x_1<=List.length m.decls/\List.all m.decls fx=List.all (List.drop x_1 m.decls) fx→if decide (Y<N)=true then Z/\(d/\(List.length c+List.length f)*(16:Nat)<=J)/\Z/\cb e=true/\if (!bG e)=true then A else Z/\if decide (e.pos<D)=true then A else inR IntKind.i64 (Y+K)/\∃(y:Nat),let h:=List.take y m.decls;(y<=List.length m.decls/\List.all m.decls fx=List.all (List.drop y m.decls) fx)/\List.length m.decls - y<List.length m.decls - x_1/\dt++List.map M a++f=dt++List.map M h/\Y+K=(↑y:Int)/\V/\W/\F/\G/\G/\List.length (dt++List.map M a++f)=List.length (dt++List.map M h)/\X else (∃(x_2:Nat),(x_2<=List.length m.exports/\List.all m.exports eG=List.all (List.drop x_2 m.exports) eG)/\D=(↑x_2:Int)/\g)/\∀(x_2:Nat),let h:=(↑x_2:Int);let i:=D<=h/\h<C;let j:=List.getD m.exports (Int.toNat h) (dfl Ty.str);let k:=inR IntKind.i64 (h+K)/\∃(y:Nat),(y<=List.length m.exports/\List.all m.exports eG=List.all (List.drop y m.exports) eG)/\List.length m.exports - y<List.length m.exports - x_2/\h+K=(↑y:Int)/\g;x_2<=List.length m.exports/\List.all m.exports eG=List.all (List.drop x_2 m.exports) eG→if decide (h<C)=true then i/\if (!al j)=true then i/\if (!bB j)=true then A else k else k else if (!decide (List.Nodup R))=true then A else if (!decide (List.Nodup c))=true then A else if (!decide (List.Nodup m.exports))=true then A else True/\D=bz m/\True:=by
 conv=>zeta
 have bad:okM m=false→True/\(100:Int)=bz m/\True:=fun e=>⟨trivial,pY e,trivial⟩
 have hb:(al m.name=true/\m.imports.length<=8/\m.exports.length<=60/\0<=m.pos→False)→True/\(100:Int)=bz m/\True:=fun e=>bad (nI (bF (fun k=>e (ix.1 k))))
 obtain ⟨o1,o2⟩:=ho
 rw [List.all_eq_true] at o1
 refine aa (fun a=>hb (fun e=>nbN a e.1)) (fun a1=>aa (fun a=>hb (fun e=>by have:=Xo a;omega)) (fun a2=>aa (fun a=>hb (fun e=>by have:=Xo a;omega)) (fun a3=>aa (fun a=>hb (fun e=>by have:=Xo a;omega)) (fun a4=>?_))))
 have a2:¬(8:Int) < m.imports.length:=fun e=>a2 (Xd e)
 have a3:¬(60:Int) < m.exports.length:=fun e=>a3 (Xd e)
 have a4:¬m.pos < 0:=fun e=>a4 (Xd e)
 have hH:nG m=true:=ix.2 ⟨nbP a1,by omega,by omega,by omega⟩
 clear hb a1
 simp only [Int.toNat_natCast]
 refine ⟨⟨0,⟨Nat.zero_le _,rfl⟩,(by repeat' (first | exact trivial | rfl | apply And.intro))⟩,?_⟩
 rintro k ⟨k1,k2⟩
 have lk:(m.name ::(m.imports.take k).map (·.name)).length=k+1:=by rw [List.length_cons,List.length_map,List.length_take];omega
 refine aa (fun h=>?_) (fun h=>?_)
 ·have h:=Xo h
  have hk:k < m.imports.length:=by omega
  rw [ai m.imports k (dfl (.st .imp)) hk,List.all_cons] at k2
  have he:(m.name ::(m.imports.take k).map (·.name))++[(m.imports.getD k (dfl (.st .imp))).name]=m.name ::(m.imports.take (k+1)).map (·.name):=by
   rw [bw m.imports k (dfl (.st .imp)) hk,List.map_append]
   rfl
  have no:(al (m.imports.getD k (dfl (.st .imp))).name=true/\bf (m.imports.getD k (dfl (.st .imp))).pin=0/\fB (m.imports.getD k (dfl (.st .imp))).range=0/\bn (m.imports.getD k (dfl (.st .imp))).pin (m.imports.getD k (dfl (.st .imp))).range=true/\0<=(m.imports.getD k (dfl (.st .imp))).pos→False)→True/\(100:Int)=bz m/\True:=fun e=>bad (pZ (by rw [k2,bF (fun q=>e (oz.1 q))];rfl))
  refine ⟨by omega,⟨by first | rfl | trivial,by rw [lk,List.length_singleton];omega⟩,aa (fun c=>no (fun e=>nbN c e.1)) (fun c1=>aa (fun c=>no (fun e=>ndN c e.2.1)) (fun c2=>aa (fun c=>no (fun e=>ndN c e.2.2.1)) (fun c3=>?_)))⟩
  have c2:bf (m.imports.getD k (dfl (.st .imp))).pin=0:=ndP c2
  have c3:fB (m.imports.getD k (dfl (.st .imp))).range=0:=ndP c3
  refine ⟨⟨Nat.le_trans (kY c2) (by decide),fun b hb=>Nat.le_trans (vn c3 b hb) (by decide)⟩,aa (fun c=>no (fun e=>nbN c e.2.2.2.1)) (fun c4=>aa (fun c=>no (fun e=>by have:=Xo c;omega)) (fun c5=>?_))⟩
  have c5:¬(m.imports.getD k (dfl (.st .imp))).pos < 0:=fun e=>c5 (Xd e)
  have yes:fD (m.imports.getD k (dfl (.st .imp)))=true:=oz.2 ⟨nbP c1,c2,c3,nbP c4,by omega⟩
  rw [yes,Bool.true_and] at k2
  refine ⟨aJ (by omega) (by omega),k+1,⟨by omega,k2⟩,by omega,he,by omega,(by repeat' (first | exact trivial | rfl | exact congrArg List.length he | apply And.intro))⟩
 have ek:k=m.imports.length:=by
  have:¬((k:Int) < (m.imports.length:Int)):=fun e=>h (Xd e)
  omega
 subst ek
 rw [List.drop_length] at k2
 have kI:m.imports.all fD=true:=k2
 clear k2
 simp only [List.take_length]
 refine ⟨⟨0,⟨Nat.zero_le _,rfl⟩,(by repeat' (first | exact trivial | rfl | apply And.intro))⟩,?_⟩
 rintro j ⟨j1,j2⟩
 have lj:(dt++(m.decls.take j).map (·.name)).length=j+4:=by rw [List.length_append,List.length_map,List.length_take];show 4+_=_;omega
 refine aa (fun h=>?_) (fun h=>?_)
 ·have h:=Xo h
  have hj:j < m.decls.length:=by omega
  rw [ai m.decls j (dfl (.st .decl)) hj,List.all_cons] at j2
  have he:(dt++(m.decls.take j).map (·.name))++[(m.decls.getD j (dfl (.st .decl))).name]=dt++(m.decls.take (j+1)).map (·.name):=by
   rw [bw m.decls j (dfl (.st .decl)) hj,List.map_append,List.append_assoc]
   rfl
  have no:(bG (m.decls.getD j (dfl (.st .decl)))=true/\0<=(m.decls.getD j (dfl (.st .decl))).pos→False)→True/\(100:Int)=bz m/\True:=fun e=>bad (q8 (by rw [j2,bF (fun q=>e (lZ.1 q))];rfl))
  refine ⟨by omega,⟨by first | rfl | trivial,by rw [lj,List.length_singleton];omega⟩,by omega,o1 _ (aL m.decls j _ hj),aa (fun c=>no (fun e=>nbN c e.1)) (fun c1=>⟨by omega,aa (fun c=>no (fun e=>by have:=Xo c;omega)) (fun c2=>?_)⟩)⟩
  have c2:¬(m.decls.getD j (dfl (.st .decl))).pos < 0:=fun e=>c2 (Xd e)
  have yes:fx (m.decls.getD j (dfl (.st .decl)))=true:=lZ.2 ⟨nbP c1,by omega⟩
  rw [yes,Bool.true_and] at j2
  refine ⟨aJ (by omega) (by omega),j+1,⟨by omega,j2⟩,by omega,he,by omega,(by repeat' (first | exact trivial | rfl | exact congrArg List.length he | apply And.intro))⟩
 have ej:j=m.decls.length:=by
  have:¬((j:Int) < (m.decls.length:Int)):=fun e=>h (Xd e)
  omega
 subst ej
 rw [List.drop_length] at j2
 have kD:m.decls.all fx=true:=j2
 clear j2
 simp only [List.take_length] at lj lk ⊢
 refine ⟨⟨0,⟨Nat.zero_le _,rfl⟩,(by repeat' (first | exact trivial | rfl | apply And.intro))⟩,?_⟩
 rintro i ⟨i1,i2⟩
 refine aa (fun h=>?_) (fun h=>?_)
 ·have h:=Xo h
  have hi:i < m.exports.length:=by omega
  rw [ai m.exports i (dfl .str) hi,List.all_cons] at i2
  have yes:eG (m.exports.getD i (dfl .str))=true→inR .i64 ((i:Int)+1)/\m.exports.all eG=(m.exports.drop (i+1)).all eG:=fun e=>⟨aJ (by omega) (by omega),by rw [i2,e,Bool.true_and]⟩
  refine ⟨by omega,aa (fun c=>⟨by omega,aa (fun c2=>?_) (fun c2=>?_)⟩) (fun c=>?_)⟩
  ·have no:eG (m.exports.getD i (dfl .str))=false:=bF (fun q=>by
    rcases kg.1 q with e | e
    ·exact nbN c e
    ·exact nbN c2 e)
   exact bad (q9 (by rw [i2,no];rfl))
  ·obtain ⟨y1,y2⟩:=yes (kg.2 (.inr (nbP c2)))
   exact ⟨y1,i+1,⟨by omega,y2⟩,by omega,by omega,(by repeat' (first | exact trivial | rfl | apply And.intro))⟩
  ·obtain ⟨y1,y2⟩:=yes (kg.2 (.inl (nbP c)))
   exact ⟨y1,i+1,⟨by omega,y2⟩,by omega,by omega,(by repeat' (first | exact trivial | rfl | apply And.intro))⟩
 have ei:i=m.exports.length:=by
  have:¬((i:Int) < (m.exports.length:Int)):=fun e=>h (Xd e)
  omega
 subst ei
 rw [List.drop_length] at i2
 have hE:=E7 hH kI kD i2
 have e1:G3 m=m.name ::m.imports.map (·.name):=rfl
 have e2:G4 m=dt++m.decls.map (·.name):=rfl
 rw [e1,e2] at hE
 refine aa (fun c=>bad ?_) (fun c=>aa (fun d=>bad ?_) (fun d=>aa (fun e=>bad ?_) (fun e=>⟨trivial,nH ?_,trivial⟩)))
 ·have c:decide (m.name ::m.imports.map (·.name)).Nodup=false:=by simpa only [Bool.not_eq_true'] using c
  rw [hE,c,Bool.false_and,Bool.false_and]
 ·have d:decide (dt++m.decls.map (·.name)).Nodup=false:=by simpa only [Bool.not_eq_true'] using d
  rw [hE,d,Bool.and_false,Bool.false_and]
 ·have e:decide m.exports.Nodup=false:=by simpa only [Bool.not_eq_true'] using e
  rw [hE,e,Bool.and_false]
 ·have c:decide (m.name ::m.imports.map (·.name)).Nodup=true:=by simpa only [Bool.not_eq_true',Bool.not_eq_false] using c
  have d:decide (dt++m.decls.map (·.name)).Nodup=true:=by simpa only [Bool.not_eq_true',Bool.not_eq_false] using d
  have e:decide m.exports.Nodup=true:=by simpa only [Bool.not_eq_true',Bool.not_eq_false] using e
  rw [hE,c,d,e]
  rfl
theorem zh (n:Nat) (s:Shape) (hs:Wf (.st .shape) s) (ho:sz s<=n+1/\sz s<=1000000000/\allS iw s=true) :
  let A:=(140737488355328:Nat);let B:=(0:Int);let C:=s.parts=s.parts;let D:=(↑(List.length s.parts):Int);let E:=s.kind=s.kind;let F:=s.name=s.name;let G:=s.names=s.names;let H:=nV UInt8=nV UInt8;let I:=E/\s.pkg=s.pkg/\F/\G/\C/\B=B/\H/\H/\True;let J:=dfl (Ty.st SN.shape);List.length s.names*(16:Nat)<=A/\(∃(x:Nat),x<=List.length s.parts/\List.take x s.parts=[]/\B=(↑x:Int)/\s=s/\C/\D=D/\List.length (List.take x s.parts)=(0:Nat)/\I)/\∀(x:Nat),let K:=(↑x:Int);let L:=List.getD s.parts (Int.toNat K) J;let M:=List.take x s.parts;x<=List.length s.parts→if decide (K<D)=true then (B<=K/\K<D)/\(sz (L)<=n/\sz (L)<=(1000000000:Nat)/\allS iw (L)=true)/\(List.length M=List.length M/\(List.length M+List.length [L])*(88:Nat)<=A)/\inR IntKind.i64 (K+(1:Int))/\∃(y:Nat),y<=List.length s.parts/\List.length s.parts - y<List.length s.parts - x/\List.take x s.parts++[L]=List.take y s.parts/\K+(1:Int)=(↑y:Int)/\s=s/\C/\D=D/\List.length (List.take x s.parts++[L])=List.length (List.take y s.parts)/\I else True/\E/\s.pkg=s.pkg/\F/\G/\List.take x s.parts=s.parts/\True:=by
 conv=>zeta
 have ln:=hs.parts.len
 obtain ⟨o1,o2,o3⟩:=ho
 have hz:=gz s
 have hll:=lT s.parts
 rw [eC,Bool.and_eq_true,gA,List.all_eq_true] at o3
 have hn:s.names.length<=1000000:=Xo o3.1
 simp only [Int.toNat_natCast,eq_self,true_and,and_true]
 refine ⟨by omega,⟨0,Nat.zero_le _,rfl,rfl,rfl⟩,?_⟩
 intro k h1
 refine aa (fun h=>?_) (fun h=>?_)
 ·have h:=Xo h
  have hk:k < s.parts.length:=by omega
  have hmm:=aL s.parts k (dfl (.st .shape)) hk
  have hm:=dA hmm
  have ht:=bw s.parts k (dfl (.st .shape)) hk
  refine ⟨by omega,⟨by omega,by omega,o3.2 _ hmm⟩,?_,ar hk ln,k+1,by omega,by omega,ht.symm,by omega,by rw [ht]⟩
  rw [List.length_take,List.length_singleton]
  omega
 ·have e:k=s.parts.length:=by
   have:¬((k:Int) < (s.parts.length:Int)):=fun e=>h (Xd e)
   omega
  rw [e,List.take_length]
theorem zi (l:List Bnd) (hl:Wf (.lst (.st .bound)) l) (ho:l.length *48<=140737488355328) :
  let A:=([]:List Bnd);∀(b:Bool),(b=true→l=[])→if b=true then True/\l=[]/\True else (List.length A=List.length A/\(List.length A+List.length l)*(48:Nat)<=(140737488355328:Nat))/\True/\[]++l=l/\True:=by
 conv=>zeta
 intro b hb
 refine aa (fun h=>?_) (fun h=>?_)
 ·exact ⟨trivial,hb h,trivial⟩
 ·exact ⟨⟨rfl,by simp only [List.length_nil];omega⟩,trivial,rfl,trivial⟩
theorem F3 (n:Nat) (t:Trm) (ht:Wf (.st .term) t) (ho:szT t<=n+1/\cD t=true) :
  let A:=(0:Int);let B:=t.kind=t.kind;let C:=t.name=t.name;let D:=t.names=t.names;let E:=t.vars=t.vars;let F:=t.shapes=t.shapes;let G:=A=A;let H:=nV UInt8=nV UInt8;let I:=t=t/\G/\H/\H/\G/\G/\True;let J:=(↑(List.length t.parts):Int);let K:=dfl (Ty.st SN.term);let L:=bareT t;(∃(x:Nat),let M:=List.take x t.parts;x<=List.length t.parts/\A=(↑x:Int)/\t=t/\B/\t.pkg=t.pkg/\C/\t.n=t.n/\D/\E/\F/\List.map bareT M=[]/\G/\List.length (List.map bareT M)=(0:Nat)/\I)/\∀(x:Nat),let M:=(↑x:Int);let N:=List.getD t.parts (Int.toNat M) K;let O:=List.take x t.parts;let P:=List.map bareT O;let Q:=[bareT N];x<=List.length t.parts→if decide (M<J)=true then (A<=M/\M<J)/\(szT N<=n/\cD N=true)/\(List.length P=List.length P/\(List.length P+List.length Q)*(152:Nat)<=(140737488355328:Nat))/\inR IntKind.i64 (M+(1:Int))/\∃(y:Nat),let R:=List.take y t.parts;y<=List.length t.parts/\List.length t.parts - y<List.length t.parts - x/\M+(1:Int)=(↑y:Int)/\t=t/\B/\t.pkg=t.pkg/\C/\t.n=t.n/\D/\E/\F/\List.map bareT O++Q=List.map bareT R/\G/\List.length (List.map bareT O++Q)=List.length (List.map bareT R)/\I else True/\t.kind=L.kind/\t.pkg=L.pkg/\t.name=L.name/\t.n=L.n/\t.names=L.names/\t.vars=L.vars/\t.shapes=L.shapes/\List.map bareT O=L.parts/\A=L.pos/\True:=by
 conv=>zeta
 have ln:=ht.term_parts.len
 obtain ⟨o1,o2⟩:=ho
 have hz:=eD t
 have hsm:=o2
 unfold cD at hsm
 rw [allT_eq,Bool.and_eq_true,allTL_all,List.all_eq_true] at hsm
 obtain ⟨s1,s2,s3,s4,s5⟩:=j7.1 hsm.1
 simp only [Int.toNat_natCast,eq_self,true_and,and_true]
 refine ⟨⟨0,Nat.zero_le _,rfl,rfl,rfl⟩,?_⟩
 intro k h1
 refine aa (fun h=>?_) (fun h=>?_)
 ·have h:=Xo h
  have hk:k < t.parts.length:=by omega
  have hmm:=aL t.parts k (dfl (.st .term)) hk
  have hm:=dI hmm
  have htk:=bw t.parts k (dfl (.st .term)) hk
  have hx:(t.parts.take k).map bareT++[bareT (t.parts.getD k (dfl (.st .term)))]=(t.parts.take (k+1)).map bareT:=by rw [htk,List.map_append];rfl
  refine ⟨by omega,⟨by omega,hsm.2 _ hmm⟩,?_,ar hk ln,k+1,by omega,by omega,by omega,hx,by rw [hx]⟩
  rw [List.length_map,List.length_take,List.length_singleton]
  omega
 ·have e:k=t.parts.length:=by
   have:¬((k:Int) < (t.parts.length:Int)):=fun e=>h (Xd e)
   omega
  rw [e,List.take_length,tj,j8]
  repeat' (first | exact trivial | rfl | apply And.intro)
theorem F4 (t:Trm) (ht:Wf (.st .term) t) (ho:bD t=0/\cD t=true/\bT t=true) :
  bT t=true/\if (!decide (bD t=(0:Int)))=true then True/\t=bareT t/\True else (szT t<=szT t/\cD t=true)/\True/\bareT t=bareT t/\True:=by
 obtain ⟨o1,o2,o3⟩:=ho
 refine ⟨o3,?_⟩
 rw [o1]
 refine aa (fun k=>absurd k (by decide)) (fun _=>⟨⟨Nat.le_refl _,o2⟩,trivial,rfl,trivial⟩)
theorem F5 (m:Modu) (hm:Wf (.st .modu) m) (ho:(m.decls.all cb=true/\m.decls.length<=1000000/\m.imports.all (fun x=>decide (x.range.length<=1000000))=true)) :
  let A:=(0:Int);let B:=True;let C:=(140737488355328:Nat);let D:=m=m;let E:=false=false;let F:=m.imports=m.imports;let G:=(↑(List.length m.imports):Int);let H:=G=G;let I:=m.name=m.name;let J:=m.exports=m.exports;let K:=A=A;let L:=D/\nV UInt8=nV UInt8/\K/\B;let M:=dfl (Ty.st SN.imp);let N:=(1:Int);let O:=m.decls=m.decls;let P:=(↑(List.length m.decls):Int);let Q:=P=P;let R:=dfl (Ty.st SN.decl);let S:=true=true;let T:=List.map bL m.imports=List.map bL m.imports;let U:=jf m;(List.all m.decls cb=true/\List.length m.decls<=(1000000:Nat))/\if (!decide (bz m=A))=true then B/\m=jf m/\B else (Nat.le (List.length m.exports*(16:Nat)) C/\B)/\(∃(x:Nat),let V:=List.take x m.imports;x<=List.length m.imports/\A=(↑x:Int)/\D/\E/\F/\H/\I/\List.map bL V=[]/\J/\K/\List.length (List.map bL V)=(0:Nat)/\L)/\∀(x:Nat),let V:=(↑x:Int);let W:=List.getD m.imports (Int.toNat V) M;let X:=List.take x m.imports;let Y:=List.map bL X;let Z:=List.length Y=List.length Y;let a:=[{name:=W.name,pin:=W.pin,range:=W.range,pos:=A:Impt}];let b:=V=V;let c:=Z/\L;x<=List.length m.imports→if decide (V<G)=true then (A<=V/\V<G)/\List.length W.range*(48:Nat)<=C/\(Z/\(List.length Y+List.length a)*(88:Nat)<=C)/\inR IntKind.i64 (V+N)/\∃(y:Nat),let d:=List.take y m.imports;y<=List.length m.imports/\List.length m.imports - y<List.length m.imports - x/\V+N=(↑y:Int)/\D/\E/\F/\H/\I/\List.map bL X++a=List.map bL d/\J/\K/\List.length (List.map bL X++a)=List.length (List.map bL d)/\L else (∃(x_1:Nat),let d:=List.take x_1 m.decls;x_1<=List.length m.decls/\A=(↑x_1:Int)/\b/\D/\E/\F/\H/\E/\O/\Q/\I/\List.map bL X=List.map bL m.imports/\List.map bq d=[]/\J/\K/\List.length (List.map bq d)=(0:Nat)/\c)/\∀(x_1:Nat),let d:=(↑x_1:Int);let e:=List.getD m.decls (Int.toNat d) R;let f:=l7 e;let g:=List.take x_1 m.decls;let h:=List.map bq g;let i:=List.length h=List.length h;let j:=K/\I/\T/\List.map bq g=List.map bq g/\J/\K/\i/\c;let k:=bq e;let l:=bareT f.term;let o:=bareT e.term;let p:=[bq e];let q:=inR IntKind.i64 (d+N);let r:=[l7 e];x_1<=List.length m.decls→if decide (d<P)=true then (A<=d/\d<P)/\((sz e.shape<=(400:Nat)/\sz e.shape<=(1000000000:Nat)/\allS iw e.shape=true)/\d=d/\b/\D/\E/\F/\H/\E/\O/\Q/\S/\e.kind=f.kind/\e.name=f.name/\e.shape.kind=f.shape.kind/\e.shape.pkg=f.shape.pkg/\e.shape.name=f.shape.name/\e.shape.names=f.shape.names/\e.shape.parts=f.shape.parts/\e.term.kind=f.term.kind/\e.term.pkg=f.term.pkg/\e.term.name=f.term.name/\e.term.n=f.term.n/\e.term.names=f.term.names/\e.term.vars=f.term.vars/\e.term.shapes=f.term.shapes/\e.term.parts=f.term.parts/\e.term.pos=f.term.pos/\j)/\if decide (f.kind=(3:Int))=true then ((bD f.term=A/\cD f.term=true/\bT f.term=true)/\d=d/\b/\D/\E/\F/\H/\E/\O/\Q/\S/\S/\f.kind=k.kind/\f.name=k.name/\f.shape.kind=k.shape.kind/\f.shape.pkg=k.shape.pkg/\f.shape.name=k.shape.name/\f.shape.names=k.shape.names/\f.shape.parts=k.shape.parts/\l.kind=o.kind/\l.pkg=o.pkg/\l.name=o.name/\l.n=o.n/\l.names=o.names/\l.vars=o.vars/\l.shapes=o.shapes/\l.parts=o.parts/\l.pos=o.pos/\j)/\(i/\(List.length h+List.length p)*(272:Nat)<=C)/\q/\∃(y:Nat),let s:=List.take y m.decls;y<=List.length m.decls/\List.length m.decls - y<List.length m.decls - x_1/\d+N=(↑y:Int)/\b/\D/\E/\F/\H/\E/\O/\Q/\I/\T/\List.map bq g++p=List.map bq s/\J/\K/\List.length (List.map bq g++p)=List.length (List.map bq s)/\c else (i/\(List.length h+List.length r)*(272:Nat)<=C)/\q/\∃(y:Nat),let s:=List.take y m.decls;y<=List.length m.decls/\List.length m.decls - y<List.length m.decls - x_1/\d+N=(↑y:Int)/\b/\D/\E/\F/\H/\E/\O/\Q/\I/\T/\List.map bq g++r=List.map bq s/\J/\K/\List.length (List.map bq g++r)=List.length (List.map bq s)/\c else B/\m.name=U.name/\List.map bL m.imports=U.imports/\List.map bq g=U.decls/\m.exports=U.exports/\A=U.pos/\B:=by
 conv=>zeta
 obtain ⟨o1,o2,o3⟩:=ho
 rw [List.all_eq_true] at o1 o3
 refine ⟨⟨List.all_eq_true.2 o1,o2⟩,aa (fun c=>?_) (fun c=>?_)⟩
 ·rw [vo (ndN c)]
  repeat' (first | exact trivial | rfl | apply And.intro)
 have c:bz m=0:=ndP c
 rw [mS c]
 have hH:=ix.1 (Ar (l8.1 c))
 have od:=fun {d:Dcl} (hd:d∈m.decls)=>tm c hd
 simp only [Int.toNat_natCast]
 refine ⟨⟨show m.exports.length *16<=140737488355328 by have:=hH.2.2.1;omega,trivial⟩,⟨0,Nat.zero_le _,(by repeat' (first | exact trivial | rfl | apply And.intro))⟩,?_⟩
 intro k k1
 have lk:((m.imports.take k).map bL).length=k:=by rw [List.length_map,List.length_take];omega
 refine aa (fun h=>?_) (fun h=>?_)
 ·have h:=Xo h
  have hk:k < m.imports.length:=by omega
  have hr:(m.imports.getD k (dfl (.st .imp))).range.length<=1000000:=Xo (o3 _ (aL m.imports k (dfl (.st .imp)) hk))
  have he:(m.imports.take k).map bL++[bL (m.imports.getD k (dfl (.st .imp)))]=(m.imports.take (k+1)).map bL:=by
   rw [bw m.imports k (dfl (.st .imp)) hk,List.map_append]
   rfl
  refine ⟨by omega,by omega,⟨by first | rfl | trivial,by rw [lk,List.length_singleton];omega⟩,aJ (by omega) (by omega),k+1,by omega,by omega,by omega,?_⟩
  repeat' (first | exact trivial | exact he | exact congrArg List.length he | rfl | apply And.intro)
 have ek:k=m.imports.length:=by
  have:¬((k:Int) < (m.imports.length:Int)):=fun e=>h (Xd e)
  omega
 subst ek
 simp only [List.take_length]
 refine ⟨⟨0,Nat.zero_le _,(by repeat' (first | exact trivial | rfl | apply And.intro))⟩,?_⟩
 intro j j1
 have lj:((m.decls.take j).map bq).length=j:=by rw [List.length_map,List.length_take];omega
 refine aa (fun h=>?_) (fun h=>?_)
 ·have h:=Xo h
  have hj:j < m.decls.length:=by omega
  have hm:=aL m.decls j (dfl (.st .decl)) hj
  have hD:=od hm
  have hs:=lY (o1 _ hm)
  have he:(m.decls.take j).map bq++[bq (m.decls.getD j (dfl (.st .decl)))]=(m.decls.take (j+1)).map bq:=by
   rw [bw m.decls j (dfl (.st .decl)) hj,List.map_append]
   rfl
  refine ⟨by omega,⟨⟨jR hD,Nat.le_trans (jR hD) (by decide),(qa hD).1⟩,(by repeat' (first | exact trivial | rfl | apply And.intro))⟩,aa (fun g=>?_) (fun g=>?_)⟩
  ·have g:(m.decls.getD j (dfl (.st .decl))).kind=3:=Xo g
   refine ⟨⟨⟨yr hD g,(qa hD).2,hs.2⟩,(by repeat' (first | exact trivial | rfl | apply And.intro))⟩,⟨by first | rfl | trivial,by rw [lj,List.length_singleton];omega⟩,aJ (by omega) (by omega),j+1,by omega,by omega,by omega,?_⟩
   repeat' (first | exact trivial | exact he | exact congrArg List.length he | rfl | apply And.intro)
  ·have g:¬(m.decls.getD j (dfl (.st .decl))).kind=3:=fun e=>g (Xd e)
   have hb:=BM hD g
   rw [hb]
   refine ⟨⟨by first | rfl | trivial,by rw [lj,List.length_singleton];omega⟩,aJ (by omega) (by omega),j+1,by omega,by omega,by omega,?_⟩
   repeat' (first | exact trivial | exact he | exact congrArg List.length he | rfl | apply And.intro)
 have ej:j=m.decls.length:=by
  have:¬((j:Int) < (m.decls.length:Int)):=fun e=>h (Xd e)
  omega
 subst ej
 simp only [List.take_length]
 repeat' (first | exact trivial | rfl | apply And.intro)
theorem Cs (m:Modu) (hm:Wf (.st .modu) m) (ho:(m.decls.all cb=true/\m.decls.length<=1000000/\m.imports.all (fun x=>decide (x.range.length<=1000000))=true)) :
  let A:=(0:Int);let B:=m=m;let C:=false=false;let D:=m.name=m.name;let E:=m.exports=m.exports;let F:=A=A;let G:=B/\nV UInt8=nV UInt8/\F/\True;let H:=(↑(List.length m.imports):Int);let I:=dfl (Ty.st SN.imp);let J:=(140737488355328:Nat);let K:=(1:Int);let L:=(↑(List.length m.decls):Int);let M:=dfl (Ty.st SN.decl);let N:=List.map bL m.imports=List.map bL m.imports;let O:=jf m;(List.all m.decls cb=true/\List.length m.decls<=(1000000:Nat))/\if (!decide (bz m=A))=true then True/\m=jf m/\True else (∃(x:Nat),let P:=List.take x m.imports;x<=List.length m.imports/\A=(↑x:Int)/\B/\C/\D/\List.map bL P=[]/\E/\F/\List.length (List.map bL P)=(0:Nat)/\G)/\∀(x:Nat),let P:=(↑x:Int);let Q:=List.take x m.imports;let R:=List.map bL Q;let S:=List.length R=List.length R;let T:=List.getD m.imports (Int.toNat P) I;let U:=[{name:=T.name,pin:=T.pin,range:=T.range,pos:=A:Impt}];let V:=S/\G;x<=List.length m.imports→if decide (P<H)=true then (A<=P/\P<H)/\(S/\(List.length R+List.length U)*(88:Nat)<=J)/\inR IntKind.i64 (P+K)/\∃(y:Nat),let W:=List.take y m.imports;y<=List.length m.imports/\List.length m.imports - y<List.length m.imports - x/\P+K=(↑y:Int)/\B/\C/\D/\List.map bL Q++U=List.map bL W/\E/\F/\List.length (List.map bL Q++U)=List.length (List.map bL W)/\G else (∃(x_1:Nat),let W:=List.take x_1 m.decls;x_1<=List.length m.decls/\A=(↑x_1:Int)/\P=P/\B/\C/\C/\D/\List.map bL Q=List.map bL m.imports/\List.map bq W=[]/\E/\F/\List.length (List.map bq W)=(0:Nat)/\V)/\∀(x_1:Nat),let W:=(↑x_1:Int);let X:=List.getD m.decls (Int.toNat W) M;let Y:=l7 X;let Z:=List.take x_1 m.decls;let a:=List.map bq Z;let b:=List.length a=List.length a;let c:=F/\D/\N/\List.map bq Z=List.map bq Z/\E/\F/\b/\V;let d:=bq X;let e:=bareT Y.term;let f:=bareT X.term;let g:=[bq X];x_1<=List.length m.decls→if decide (W<L)=true then (A<=W/\W<L)/\(W=W/\P=P/\B/\C/\C/\true=true/\X.kind=Y.kind/\X.name=Y.name/\X.shape.kind=Y.shape.kind/\X.shape.pkg=Y.shape.pkg/\X.shape.name=Y.shape.name/\X.shape.names=Y.shape.names/\X.shape.parts=Y.shape.parts/\X.term.kind=Y.term.kind/\X.term.pkg=Y.term.pkg/\X.term.name=Y.term.name/\X.term.n=Y.term.n/\X.term.names=Y.term.names/\X.term.vars=Y.term.vars/\X.term.shapes=Y.term.shapes/\X.term.parts=Y.term.parts/\X.term.pos=Y.term.pos/\c)/\((szT Y.term<=(1000000000:Nat)/\cD Y.term=true)/\W=W/\P=P/\B/\C/\C/\true=true/\Y.kind=d.kind/\Y.name=d.name/\Y.shape.kind=d.shape.kind/\Y.shape.pkg=d.shape.pkg/\Y.shape.name=d.shape.name/\Y.shape.names=d.shape.names/\Y.shape.parts=d.shape.parts/\e.kind=f.kind/\e.pkg=f.pkg/\e.name=f.name/\e.n=f.n/\e.names=f.names/\e.vars=f.vars/\e.shapes=f.shapes/\e.parts=f.parts/\e.pos=f.pos/\c)/\(b/\(List.length a+List.length g)*(272:Nat)<=J)/\inR IntKind.i64 (W+K)/\∃(y:Nat),let h:=List.take y m.decls;y<=List.length m.decls/\List.length m.decls - y<List.length m.decls - x_1/\W+K=(↑y:Int)/\P=P/\B/\C/\C/\D/\N/\List.map bq Z++g=List.map bq h/\E/\F/\List.length (List.map bq Z++g)=List.length (List.map bq h)/\V else True/\m.name=O.name/\List.map bL m.imports=O.imports/\List.map bq Z=O.decls/\m.exports=O.exports/\A=O.pos/\True:=by
 conv=>zeta
 obtain ⟨o1,o2,o3⟩:=ho
 rw [List.all_eq_true] at o1 o3
 refine ⟨⟨List.all_eq_true.2 o1,o2⟩,aa (fun c=>?_) (fun c=>?_)⟩
 ·rw [vo (ndN c)]
  repeat' (first | exact trivial | rfl | apply And.intro)
 have c:bz m=0:=ndP c
 rw [mS c]
 have hH:=ix.1 (Ar (l8.1 c))
 have od:=fun {d:Dcl} (hd:d∈m.decls)=>tm c hd
 simp only [Int.toNat_natCast]
 refine ⟨⟨0,Nat.zero_le _,(by repeat' (first | exact trivial | rfl | apply And.intro))⟩,?_⟩
 intro k k1
 have lk:((m.imports.take k).map bL).length=k:=by rw [List.length_map,List.length_take];omega
 refine aa (fun h=>?_) (fun h=>?_)
 ·have h:=Xo h
  have hk:k < m.imports.length:=by omega
  have hr:(m.imports.getD k (dfl (.st .imp))).range.length<=1000000:=Xo (o3 _ (aL m.imports k (dfl (.st .imp)) hk))
  have he:(m.imports.take k).map bL++[bL (m.imports.getD k (dfl (.st .imp)))]=(m.imports.take (k+1)).map bL:=by
   rw [bw m.imports k (dfl (.st .imp)) hk,List.map_append]
   rfl
  refine ⟨by omega,⟨by first | rfl | trivial,by rw [lk,List.length_singleton];omega⟩,aJ (by omega) (by omega),k+1,by omega,by omega,by omega,?_⟩
  repeat' (first | exact trivial | exact he | exact congrArg List.length he | rfl | apply And.intro)
 have ek:k=m.imports.length:=by
  have:¬((k:Int) < (m.imports.length:Int)):=fun e=>h (Xd e)
  omega
 subst ek
 simp only [List.take_length]
 refine ⟨⟨0,Nat.zero_le _,(by repeat' (first | exact trivial | rfl | apply And.intro))⟩,?_⟩
 intro j j1
 have lj:((m.decls.take j).map bq).length=j:=by rw [List.length_map,List.length_take];omega
 refine aa (fun h=>?_) (fun h=>?_)
 ·have h:=Xo h
  have hj:j < m.decls.length:=by omega
  have hm:=aL m.decls j (dfl (.st .decl)) hj
  have hD:=od hm
  have hs:=lY (o1 _ hm)
  have he:(m.decls.take j).map bq++[bq (m.decls.getD j (dfl (.st .decl)))]=(m.decls.take (j+1)).map bq:=by
   rw [bw m.decls j (dfl (.st .decl)) hj,List.map_append]
   rfl
  have hz:=vp hD
  refine ⟨by omega,(by repeat' (first | exact trivial | rfl | apply And.intro)),⟨⟨show szT (l7 (m.decls.getD j (dfl (.st .decl)))).term<=1000000000 from Nat.le_trans hz (by decide),(qa hD).2⟩,(by repeat' (first | exact trivial | rfl | apply And.intro))⟩,⟨by first | rfl | trivial,by rw [lj,List.length_singleton];omega⟩,aJ (by omega) (by omega),j+1,by omega,by omega,by omega,?_⟩
  repeat' (first | exact trivial | exact he | exact congrArg List.length he | rfl | apply And.intro)
 have ej:j=m.decls.length:=by
  have:¬((j:Int) < (m.decls.length:Int)):=fun e=>h (Xd e)
  omega
 subst ej
 simp only [List.take_length]
 repeat' (first | exact trivial | rfl | apply And.intro)
theorem zj (a b:Modu) (ha:Wf (.st .modu) a) (ho:(a=b/\a.decls.all BL=true)) :
  let A:=True/\false=true/\True;let B:=(↑(List.length a.imports):Int);let C:=(↑(List.length b.imports):Int);let D:=(↑(List.length a.decls):Int);let E:=(↑(List.length b.decls):Int);let F:=(↑(List.length a.exports):Int);let G:=(↑(List.length b.exports):Int);let H:=(0:Int);let I:=false=false;let J:=I/\a=a/\b=b/\True;let K:=a=a/\b=b/\J;let L:=dfl (Ty.st SN.imp);let M:=(1:Int);let N:=a=a/\b=b/\I/\J;let O:=dfl (Ty.st SN.decl);let P:=a=a/\b=b/\I/\I/\J;if (!decide (a.name=b.name))=true then A else if (!decide (a.pos=b.pos))=true then A else if (!decide (B=C))=true then A else if (!decide (D=E))=true then A else if (!decide (F=G))=true then A else (∃(x:Nat),x<=List.length a.imports/\H=(↑x:Int)/\K)/\∀(x:Nat),let Q:=(↑x:Int);let R:=List.getD a.imports (Int.toNat Q) L;let S:=List.getD b.imports (Int.toNat Q) L;x<=List.length a.imports→if decide (Q<B)=true then (H<=Q/\Q<B)/\(H<=Q/\Q<C)/\if (!decide (R.name=S.name))=true then A else if (!(decide (R.pin.major=S.pin.major) && (decide (R.pin.minor=S.pin.minor) && (decide (R.pin.patch=S.pin.patch) && (decide (R.pin.pre=S.pin.pre) && true)))))=true then A else if (!decide (R.pos=S.pos))=true then A else R.range=S.range/\inR IntKind.i64 (Q+M)/\∃(y:Nat),y<=List.length a.imports/\List.length a.imports - y<List.length a.imports - x/\Q+M=(↑y:Int)/\K else (∃(x_1:Nat),x_1<=List.length a.decls/\H=(↑x_1:Int)/\Q=Q/\N)/\∀(x_1:Nat),let T:=(↑x_1:Int);let U:=List.getD a.decls (Int.toNat T) O;let V:=List.getD b.decls (Int.toNat T) O;let W:=T=T/\Q=Q/\P;x_1<=List.length a.decls→if decide (T<D)=true then (H<=T/\T<D)/\(H<=T/\T<E)/\if (!decide (U.kind=V.kind))=true then A else if (!decide (U.name=V.name))=true then A else if (!decide (U.pos=V.pos))=true then A else sz U.shape<=(400:Nat)/\if (!eqS U.shape V.shape)=true then A else szT U.term<=(4096:Nat)/\if (!eqT U.term V.term true)=true then A else inR IntKind.i64 (T+M)/\∃(y:Nat),y<=List.length a.decls/\List.length a.decls - y<List.length a.decls - x_1/\T+M=(↑y:Int)/\Q=Q/\N else (∃(x_2:Nat),x_2<=List.length a.exports/\H=(↑x_2:Int)/\W)/\∀(x_2:Nat),let X:=(↑x_2:Int);x_2<=List.length a.exports→if decide (X<F)=true then (H<=X/\X<F)/\(H<=X/\X<G)/\if (!decide (List.getD a.exports (Int.toNat X) (dfl Ty.str)=List.getD b.exports (Int.toNat X) (dfl Ty.str)))=true then A else inR IntKind.i64 (X+M)/\∃(y:Nat),y<=List.length a.exports/\List.length a.exports - y<List.length a.exports - x_2/\X+M=(↑y:Int)/\W else True/\true=true/\True:=by
 conv=>zeta
 obtain ⟨rfl,o2⟩:=ho
 rw [List.all_eq_true] at o2
 have l1:=ha.modu_imports.len
 have l2:=ha.modu_decls.len
 have l3:=ha.modu_exports.len
 simp only [Int.toNat_natCast]
 refine aa (fun c=>absurd c (by simp)) (fun _=>aa (fun c=>absurd c (by simp)) (fun _=>aa (fun c=>absurd c (by simp)) (fun _=>aa (fun c=>absurd c (by simp)) (fun _=>aa (fun c=>absurd c (by simp)) (fun _=>?_)))))
 refine ⟨⟨0,Nat.zero_le _,(by repeat' (first | exact trivial | rfl | apply And.intro))⟩,?_⟩
 intro k k1
 refine aa (fun h=>?_) (fun h=>?_)
 ·have h:=Xo h
  have hk:k < a.imports.length:=by omega
  exact ⟨by omega,by omega,aa (fun c=>absurd c (by simp)) (fun _=>aa (fun c=>absurd c (by simp)) (fun _=>aa (fun c=>absurd c (by simp)) (fun _=>⟨by first | rfl | trivial,ar hk l1,k+1,by omega,by omega,by omega,(by repeat' (first | exact trivial | rfl | apply And.intro))⟩)))⟩
 clear h
 refine ⟨⟨0,Nat.zero_le _,(by repeat' (first | exact trivial | rfl | apply And.intro))⟩,?_⟩
 intro j j1
 refine aa (fun h=>?_) (fun h=>?_)
 ·have h:=Xo h
  have hj:j < a.decls.length:=by omega
  have hf:=vl.1 (o2 _ (aL a.decls j (dfl (.st .decl)) hj))
  exact ⟨by omega,by omega,aa (fun c=>absurd c (by simp)) (fun _=>aa (fun c=>absurd c (by simp)) (fun _=>aa (fun c=>absurd c (by simp)) (fun _=>⟨hf.1,aa (fun c=>absurd (eqS_self _) (nbN c)) (fun _=>⟨hf.2,aa (fun c=>absurd (eqT_self _ _) (nbN c)) (fun _=>⟨ar hj l2,j+1,by omega,by omega,by omega,(by repeat' (first | exact trivial | rfl | apply And.intro))⟩)⟩)⟩)))⟩
 clear h
 refine ⟨⟨0,Nat.zero_le _,(by repeat' (first | exact trivial | rfl | apply And.intro))⟩,?_⟩
 intro i i1
 refine aa (fun h=>?_) (fun _=>(by repeat' (first | exact trivial | rfl | apply And.intro)))
 have h:=Xo h
 have hi:i < a.exports.length:=by omega
 exact ⟨by omega,by omega,aa (fun c=>absurd c (by simp)) (fun _=>⟨ar hi l3,i+1,by omega,by omega,by omega,(by repeat' (first | exact trivial | rfl | apply And.intro))⟩)⟩
theorem zk (m:Modu) (hm:Wf (.st .modu) m) :
  let A:=(↑(List.length m.imports):Int);let B:=True/\false=gR m/\True;let C:=(100:Int);let D:=(0:Int);let E:=false=false/\m=m/\True;let F:=dfl (Ty.st SN.imp);let G:=m=m/\false=false/\true=true/\E;let H:=(1:Int);if decide ((30:Int)<A)=true then B else if decide (C<(↑(List.length m.decls):Int))=true then B else if decide ((200:Int)<(↑(List.length m.exports):Int))=true then B else (∃(x:Nat),(x<=List.length m.imports/\List.all m.imports fc=List.all (List.drop x m.imports) fc)/\D=(↑x:Int)/\m=m/\E)/\∀(x:Nat),let I:=(↑x:Int);let J:=D<=I/\I<A;let K:=List.getD m.imports (Int.toNat I) F;let L:=(↑(List.length K.range):Int);let M:=(List.all K.range fun (b:Bnd)=>decide (List.length b.v.pre<=(100:Nat)));x<=List.length m.imports/\List.all m.imports fc=List.all (List.drop x m.imports) fc→if decide (I<A)=true then J/\if decide ((50:Int)<L)=true then B else J/\if decide (C<(↑(List.length K.pin.pre):Int))=true then B else (∃(x_1:Nat),(x_1<=List.length K.range/\M=List.all (List.drop x_1 K.range) fun (b:Bnd)=>decide (List.length b.v.pre<=(100:Nat)))/\D=(↑x_1:Int)/\I=I/\G)/\∀(x_1:Nat),let N:=(↑x_1:Int);(x_1<=List.length K.range/\M=List.all (List.drop x_1 K.range) fun (b:Bnd)=>decide (List.length b.v.pre<=(100:Nat)))→J/\if decide (N<L)=true then J/\(D<=N/\N<L)/\if decide (C<(↑(List.length (List.getD K.range (Int.toNat N) (dfl (Ty.st SN.bound))).v.pre):Int))=true then B else inR IntKind.i64 (N+H)/\∃(y:Nat),(y<=List.length K.range/\M=List.all (List.drop y K.range) fun (b:Bnd)=>decide (List.length b.v.pre<=(100:Nat)))/\List.length K.range - y<List.length K.range - x_1/\N+H=(↑y:Int)/\I=I/\G else inR IntKind.i64 (I+H)/\∃(y:Nat),(y<=List.length m.imports/\List.all m.imports fc=List.all (List.drop y m.imports) fc)/\List.length m.imports - y<List.length m.imports - x/\I+H=(↑y:Int)/\m=m/\E else True/\true=gR m/\True:=by
 conv=>zeta
 have l1:=hm.modu_imports.len
 have bad:(gR m=true→False)→True/\false=gR m/\True:=fun e=>⟨trivial,(bF e).symm,trivial⟩
 refine aa (fun c=>bad fun e=>by have:=(fe.1 e).1;have:=Xo c;omega) (fun c1=>aa (fun c=>bad fun e=>by have:=(fe.1 e).2.1;have:=Xo c;omega) (fun c2=>aa (fun c=>bad fun e=>by have:=(fe.1 e).2.2.1;have:=Xo c;omega) (fun c3=>?_)))
 have c1:¬(30:Int) < m.imports.length:=fun e=>c1 (Xd e)
 have c2:¬(100:Int) < m.decls.length:=fun e=>c2 (Xd e)
 have c3:¬(200:Int) < m.exports.length:=fun e=>c3 (Xd e)
 simp only [Int.toNat_natCast]
 refine ⟨⟨0,⟨Nat.zero_le _,rfl⟩,(by repeat' (first | exact trivial | rfl | apply And.intro))⟩,?_⟩
 rintro k ⟨k1,k2⟩
 refine aa (fun h=>?_) (fun h=>?_)
 ·have h:=Xo h
  have hk:k < m.imports.length:=by omega
  rw [ai m.imports k (dfl (.st .imp)) hk,List.all_cons] at k2
  have no:((m.imports.getD k (dfl (.st .imp))).range.length<=50/\(m.imports.getD k (dfl (.st .imp))).pin.pre.length<=100/\((m.imports.getD k (dfl (.st .imp))).range.all fun b=>decide (b.v.pre.length<=100))=true→False)→True/\false=gR m/\True:=fun f=>bad fun e=>by
   have h4:=(fe.1 e).2.2.2
   rw [k2,Bool.and_eq_true] at h4
   exact f (lf.1 h4.1)
  refine ⟨by omega,aa (fun c=>no fun e=>by have:=Xo c;omega) (fun d1=>⟨by omega,aa (fun c=>no fun e=>by have:=Xo c;omega) (fun d2=>?_)⟩)⟩
  have d1:¬(50:Int) < (m.imports.getD k (dfl (.st .imp))).range.length:=fun e=>d1 (Xd e)
  have d2:¬(100:Int) < (m.imports.getD k (dfl (.st .imp))).pin.pre.length:=fun e=>d2 (Xd e)
  refine ⟨⟨0,⟨Nat.zero_le _,rfl⟩,(by repeat' (first | exact trivial | rfl | apply And.intro))⟩,?_⟩
  rintro j ⟨j1,j2⟩
  refine ⟨by omega,aa (fun h=>?_) (fun h=>?_)⟩
  ·have h:=Xo h
   have hj:j < (m.imports.getD k (dfl (.st .imp))).range.length:=by omega
   rw [ai (m.imports.getD k (dfl (.st .imp))).range j (dfl (.st .bound)) hj,List.all_cons] at j2
   refine ⟨by omega,by omega,aa (fun c=>no fun e=>?_) (fun c=>?_)⟩
   ·have h3:=e.2.2
    rw [j2,Bool.and_eq_true,decide_eq_true_eq] at h3
    have:=Xo c
    omega
   ·have c:¬(100:Int) < ((m.imports.getD k (dfl (.st .imp))).range.getD j (dfl (.st .bound))).v.pre.length:=fun e=>c (Xd e)
    rw [Xd (show ((m.imports.getD k (dfl (.st .imp))).range.getD j (dfl (.st .bound))).v.pre.length<=100 by omega),Bool.true_and] at j2
    exact ⟨aJ (by omega) (by omega),j+1,⟨by omega,j2⟩,by omega,by omega,(by repeat' (first | exact trivial | rfl | apply And.intro))⟩
  ·have e:j=(m.imports.getD k (dfl (.st .imp))).range.length:=by
    have:¬((j:Int) < ((m.imports.getD k (dfl (.st .imp))).range.length:Int)):=fun e=>h (Xd e)
    omega
   rw [e,List.drop_length] at j2
   have yes:fc (m.imports.getD k (dfl (.st .imp)))=true:=lf.2 ⟨by omega,by omega,j2⟩
   rw [yes,Bool.true_and] at k2
   exact ⟨aJ (by omega) (by omega),k+1,⟨by omega,k2⟩,by omega,by omega,(by repeat' (first | exact trivial | rfl | apply And.intro))⟩
 ·have e:k=m.imports.length:=by
   have:¬((k:Int) < (m.imports.length:Int)):=fun e=>h (Xd e)
   omega
  rw [e,List.drop_length] at k2
  exact ⟨trivial,(fe.2 ⟨by omega,by omega,by omega,k2⟩).symm,trivial⟩
theorem mg (m:Modu) (hm:Wf (.st .modu) m) (hs:m.decls.all cb=true) :
  let A:=True/\true=true/\True;let B:=List.all m.decls cb=true;let C:=(1000000:Nat);let D:=List.length m.decls<=C;let E:=(B/\D/\(List.all m.imports fun (x:Impt)=>decide (List.length x.range<=C))=true);if (!gR m)=true then A else (B/\D)/\(B/\D)/\if (!decide (bz m=bz m))=true then True/\false=true/\True else if (!decide (bz m=(0:Int)))=true then A else E/\E/\(jf m=jf m/\List.all (jf m).decls BL=true)/\A:=by
 conv=>zeta
 refine aa (fun _=>⟨trivial,rfl,trivial⟩) (fun h=>?_)
 have h:=nbP h
 have hl:=(fe.1 h).2.1
 have hr:=vq h
 refine ⟨⟨hs,by omega⟩,⟨hs,by omega⟩,aa (fun c=>absurd rfl (ndN c)) (fun _=>aa (fun _=>⟨trivial,rfl,trivial⟩) (fun c=>?_))⟩
 exact ⟨⟨hs,by omega,hr⟩,⟨hs,by omega,hr⟩,⟨rfl,E9 (ndP c)⟩,trivial,rfl,trivial⟩
end Go.AL.Seat
end
section
open Go Go.AL Go.Proofs Go.Shelf Go.Pd
namespace Go.AL.Seat
open Go.Proofs.Tryz
variable [Tabs]
variable [SeatLaid] [SeatPow]
theorem mW:ag prog 119 (p1 (.int .u8) fun c=>.ret (.bool (bO c))):=
 ax (ee func119) fun c _ _=>g0 sn a0 func119 (Ex c)
theorem mX:ag prog 128 (p1 (.int .u8) fun c=>.ret (.bool (bS c))):=
 ax (ee func128) fun c _ _=>g0 sn a0 func128 (Ey c)
theorem Ct:ag prog 159 (p1 (.int .u8) fun c=>.ret (.bool (bJ c))):=
 ax (ee func159) fun c _ _=>g0 sn a0 func159 (Ez c)
theorem vZ:ag prog 158 (p1 (.int .u8) fun c=>.ret (.bool (dx c))):=
 ax (ee func158) fun c _ _=>g0 (sc mW (sc mX (sc Ct sn))) a0 func158 (Gf c)
theorem zl:ag prog 118 (pf .str 119 fun s=>.ret (.bool (cu bO s))):=
 kz (ee func118) fun s hs _=>g0 (sc mW (sc mX (sc vZ sn))) ⟨[(4,fun S0=>⟨Nat,fun k=>k<=s.length/\cu bO s=(s.drop k).all fun c=>dx (bI c),fun k=>[(22,.int .i64 k)],fun _=>[],fun k=>s.length - k⟩)],[],[]⟩ func118 (BV s hs)
theorem zm:ag prog 118 (pf .str 128 fun s=>.ret (.bool (cu bS s))):=
 kz (ee func118) fun s hs _=>g0 (sc mW (sc mX (sc vZ sn))) ⟨[(4,fun S0=>⟨Nat,fun k=>k<=s.length/\cu bS s=(s.drop k).all fun c=>dx (bI c),fun k=>[(22,.int .i64 k)],fun _=>[],fun k=>s.length - k⟩)],[],[]⟩ func118 (BW s hs)
theorem F6:ag prog 120 (p1 .str fun s=>.ret (.bool (lS s))):=
 ax (ee func120) fun s _ _=>g0 sn a0 func120 (Gg s)
theorem gD:ag prog 54 (p1 .str fun s=>.ret (.bool (al s))):=
 ax (ee func54) fun s _ _=>g0 (sc zl (sc F6 sn)) a0 func54 (Gh s)
theorem iA:ag prog 59 (p1 .str fun s=>.ret (.bool (bB s))):=
 ax (ee func59) fun s _ _=>g0 (sc zm sn) a0 func59 (EA s)
theorem Cu:ag prog 266 (p1 .str fun s=>.ret (.bool (jH s))):=
 ax (ee func266) fun s _ _=>g0 sn a0 func266 (EB s)
theorem lq:ag prog 130 (p1 (.lst .str) fun a=>⟨none,none,.fn 199 [.ptr 1 0],[(1,.box (.lst .str a none))]⟩):=
 ax (ee func130) fun a _ _=>g0 sn a0 func130 (BX a)
theorem Cv:ag prog 265 (p1 (.st .shape) fun s=>⟨some (s.parts.length *16<=140737488355328),none,.bool (cN s),[]⟩):=
 ax (ee func265) fun s hs ho=>g0 (sc gD (sc lq (sc (iZ) (sc (gL) sn)))) ⟨[(4,fun S0=>⟨Nat,fun k=>k<=s.names.length/\s.names.length=s.parts.length/\cN s=(((s.names.drop k).all al) && decide s.names.Nodup),fun k=>[(16,.int .i64 k)],fun _=>[],fun k=>s.names.length - k⟩)],[],[]⟩ func265 (EC s hs (ho _ rfl))
theorem F7:ag prog 192 (p1 (.st .shape) fun s=>⟨some (s.parts.length *16<=140737488355328),none,.bool (aV s),[]⟩):=
 ax (ee func192) fun s hs ho=>g0 (sc Cv (sc iA (sc gD (sc Cu sn)))) a0 func192 (Gi s hs (ho _ rfl))
theorem qh:an prog 191:=ee func191
theorem qU (n:Nat) (s:AL.Shape) (hs:Wf (.st .shape) s) (hn:sz s<=n+1) (hb:n<=1000000) (hA:ag prog 191 (pf (.st .shape) 192 fun s=>⟨some (sz s<=n),none,.bool (allS aV s),[]⟩)):aw prog 191 [.st .shape s,.fn 192 []] [] (.ret (.bool (allS aV s))):=
 g0 (sc F7 (sc (hA) sn)) ⟨[(4,fun S0=>⟨Nat,fun k=>k<=s.parts.length/\allS aV s=allL aV (s.parts.drop k),fun k=>[(14,.int .i64 k)],fun _=>[],fun k=>s.parts.length - k⟩)],[],[]⟩ func191 (yM n s hs hn hb)
theorem w8:∀n:Nat,n<=1000000→ag prog 191 (pf (.st .shape) 192 fun s=>⟨some (sz s<=n),none,.bool (allS aV s),[]⟩):=by
 intro n
 induction n with
 | zero=>exact fun _=>kz qh fun a hs ho=>absurd (ho _ rfl) (by have:=dP a;omega)
 | succ n ih=>exact fun hb=>kz qh fun a hs ho=>qU n a hs (ho _ rfl) (by omega) (ih (by omega))
theorem mY:ag prog 125 (p1 (.st .shape) fun s=>.ret (.int .i64 (bj s))):=
 ax (ee func125) fun s _ _=>g0 (sc (BQ) (sc (w8 400 (by decide)) sn)) a0 func125 (ED s)
theorem AG:an prog 83:=ee func83
theorem zn (n:Nat) (s:AL.Shape) (m:Int) (hs:Wf (.st .shape) s) (ho:sz s<=n+1/\0<=m/\m<=1000000) (hA:ag prog 83 (p2 (.st .shape) (.int .i64) fun s m=>⟨some (sz s<=n/\0<=m/\m<=1000000),none,.int .i64 (sizeF s m),[]⟩)):aw prog 83 [.st .shape s,.int .i64 m] [] (.ret (.int .i64 (sizeF s m))):=
 g0 (sc (hA) sn) ⟨[(3,fun S0=>⟨Nat × Int,fun x=>x.1<=s.parts.length/\1<=x.2/\x.2<=m+1/\sizeL (s.parts.drop x.1) x.2 m=sizeF s m,fun x=>[(5,.int .i64 x.2),(6,.int .i64 x.1)],fun _=>[],fun x=>s.parts.length - x.1⟩)],[],[]⟩ func83 (Gj n s m hs ho)
theorem F8:∀n:Nat,ag prog 83 (p2 (.st .shape) (.int .i64) fun s m=>⟨some (sz s<=n/\0<=m/\m<=1000000),none,.int .i64 (sizeF s m),[]⟩):=by
 intro n
 induction n with
 | zero=>exact bX AG fun a m _ _ ho=>absurd (ho _ rfl).1 (by have:=dP a;omega)
 | succ n ih=>exact bX AG fun a m ha _ ho=>zn n a m ha (ho _ rfl) ih
theorem qi:ag prog 132 (p1 (.int .u8) fun c=>.ret (.bool (bO c))):=
 ax (ee func132) fun c _ _=>g0 sn a0 func132 (BY c)
theorem qj:ag prog 141 (p1 (.int .u8) fun c=>.ret (.bool (bS c))):=
 ax (ee func141) fun c _ _=>g0 sn a0 func141 (BZ c)
theorem zo:ag prog 175 (p1 (.int .u8) fun c=>.ret (.bool (bJ c))):=
 ax (ee func175) fun c _ _=>g0 sn a0 func175 (C0 c)
theorem rP:ag prog 133 (p1 .str fun s=>.ret (.int .i64 (dc s:Int))):=
 ax (ee func133) fun s hs _=>g0 (sc qi (sc qj (sc zo sn))) ⟨[(2,fun S0=>⟨Nat,fun k=>k<=s.length/\dc s=k+dc (s.drop k),fun k=>[(3,.int .i64 k)],fun _=>[],fun k=>s.length - k⟩)],[],[]⟩ func133 (EE s hs)
theorem Cw:ag prog 200 (p2 .str (.lst .str) fun s l=>.ret (.bool (decide (s∈l)))):=
 bX (ee func200) fun s l _ hl _=>g0 sn ⟨[(2,fun S0=>⟨Nat,fun k=>k<=l.length/\decide (s∈l)=decide (s∈l.drop k),fun k=>[(5,.int .i64 k)],fun _=>[],fun k=>l.length - k⟩)],[],[]⟩ func200 (EF s l hl)
theorem Cx:ag prog 134 (p1 .str fun s=>.ret (.bool (lS s))):=
 ax (ee func134) fun s _ _=>g0 (sc Cw sn) a0 func134 (EG s)
theorem gd:ag prog 61 (p1 .str fun s=>.ret (.bool (al s))):=
 ax (ee func61) fun s _ _=>g0 (sc qi (sc rP (sc Cx sn))) a0 func61 (EH s)
theorem j9:ag prog 66 (p1 .str fun s=>.ret (.bool (bB s))):=
 ax (ee func66) fun s _ _=>g0 (sc qj (sc rP sn)) a0 func66 (C1 s)
theorem zp:ag prog 339 (p2 (.lst .str) (.int .i64) fun ns n=>.ret (.bool (fO ns n))):=
 bX (ee func339) fun ns n hl _ _=>g0 (sc gd sn) ⟨[(2,fun S0=>⟨Nat,fun k=>k<=ns.length/\(ns.take k).all al=true/\(ns.take k).Nodup,fun k=>[(5,.int .i64 k)],fun _=>[],fun k=>ns.length - k⟩),(7,fun S0=>D8 S0 5 fun k0=>⟨Nat,fun j=>(j:Int)<=k0/\(ns.getD k0.toNat (dfl .str))∉ns.take j,fun j=>[(6,.int .i64 j)],fun _=>[],fun j=>k0.toNat - j⟩)],[],[]⟩ func339 (C2 ns n hl)
theorem Cy:ag prog 276 (p1 (.st .shape) fun s=>.ret (.bool (aV s))):=
 ax (ee func276) fun s hs _=>g0 (sc zp (sc j9 (sc gd sn))) a0 func276 (EI s hs)
theorem w9:an prog 206:=ee func206
theorem wa (n:Nat) (s:AL.Shape) (hs:Wf (.st .shape) s) (hn:sz s<=n+1) (hA:ag prog 206 (p1 (.st .shape) fun s=>⟨some (sz s<=n),none,.bool (allS aV s),[]⟩)):aw prog 206 [.st .shape s] [] (.ret (.bool (allS aV s))):=
 g0 (sc Cy (sc (hA) sn)) ⟨[(4,fun S0=>⟨Nat,fun k=>k<=s.parts.length/\allS aV s=allL aV (s.parts.drop k),fun k=>[(3,.int .i64 k)],fun _=>[],fun k=>s.parts.length - k⟩)],[],[]⟩ func206 (EJ n s hs hn)
theorem Cz:∀n:Nat,ag prog 206 (p1 (.st .shape) fun s=>⟨some (sz s<=n),none,.bool (allS aV s),[]⟩):=by
 intro n
 induction n with
 | zero=>exact ax w9 fun a _ ho=>absurd (ho _ rfl) (by have:=dP a;omega)
 | succ n ih=>exact ax w9 fun a hs ho=>wa n a hs (ho _ rfl) ih
theorem AH:an prog 205:=ee func205
theorem zq (n:Nat) (s:AL.Shape) (hs:Wf (.st .shape) s) (hn:sz s<=n+1) (hb:n<=1000000) (hA:ag prog 205 (p1 (.st .shape) fun s=>⟨some (sz s<=n),none,.int .i64 (deepF s:Int),[]⟩)):aw prog 205 [.st .shape s] [] (.ret (.int .i64 (deepF s:Int))):=
 g0 (sc (hA) sn) ⟨[(3,fun S0=>⟨Nat × Int,fun x=>x.1<=s.parts.length/\0<=x.2/\max x.2 (maxDeep (s.parts.drop x.1):Int)=maxDeep s.parts,fun x=>[(3,.int .i64 x.2),(4,.int .i64 x.1)],fun _=>[],fun x=>s.parts.length - x.1⟩)],[],[]⟩ func205 (Gk n s hs hn hb)
theorem F9:∀n:Nat,n<=1000000→ag prog 205 (p1 (.st .shape) fun s=>⟨some (sz s<=n),none,.int .i64 (deepF s:Int),[]⟩):=by
 intro n
 induction n with
 | zero=>exact fun _=>ax AH fun a _ ho=>absurd (ho _ rfl) (by have:=dP a;omega)
 | succ n ih=>exact fun hb=>ax AH fun a hs ho=>zq n a hs (ho _ rfl) (by omega) (ih (by omega))
theorem qk:ag prog 139 (p1 (.st .shape) fun s=>.ret (.int .i64 (bj s))):=
 ax (ee func139) fun s hs _=>g0 (sc (F8 (sz s)) (sc (F9 400 (by decide)) (sc (Cz 400) sn))) a0 func139 (C3 s hs)
theorem rQ:an prog 52:=ee func52
theorem tu (n:Nat) (a b:Shape) (ha:Wf (.st .shape) a) (hb:Wf (.st .shape) b) (hn:sz a<=n+1) (hA:ag prog 52 (p2 (.st .shape) (.st .shape) fun a b=>⟨some (sz a<=n),none,.bool (eqS a b),[]⟩)):aw prog 52 [.st .shape a,.st .shape b] [] (.ret (.bool (eqS a b))):=
 g0 (sc (hA) sn) ⟨[(4,fun S0=>⟨Nat,fun k=>k<=a.names.length/\a.names.length=b.names.length/\a.parts.length=b.parts.length/\eqS a b=(decide (a.names.drop k=b.names.drop k) && eqL a.parts b.parts),fun k=>[(5,.int .i64 k)],fun _=>[],fun k=>a.names.length - k⟩),(9,fun S0=>⟨Nat,fun k=>k<=a.parts.length/\a.parts.length=b.parts.length/\eqS a b=eqL (a.parts.drop k) (b.parts.drop k),fun k=>[(6,.int .i64 k)],fun _=>[],fun k=>a.parts.length - k⟩)],[],[]⟩ func52 (C4 n a b ha hb hn)
theorem lr:∀n:Nat,ag prog 52 (p2 (.st .shape) (.st .shape) fun a b=>⟨some (sz a<=n),none,.bool (eqS a b),[]⟩):=by
 intro n
 induction n with
 | zero=>exact bX rQ fun a b _ _ ho=>absurd (ho _ rfl) (by have:=dP a;omega)
 | succ n ih=>exact bX rQ fun a b ha hb ho=>tu n a b ha hb (ho _ rfl) ih
theorem mh:ag prog 201 (p1 .str fun s=>.ret (.bool (aI s))):=
 ax (ee func201) fun s hs _=>g0 sn ⟨[(2,fun S0=>⟨Nat,fun k=>k<=s.length/\(s.all fun c=>bJ (bI c))=(s.drop k).all fun c=>bJ (bI c),fun k=>[(3,.int .i64 k)],fun _=>[],fun k=>s.length - k⟩)],[],[]⟩ func201 (vO s hs)
theorem zr:ag prog 136 (p1 .str fun s=>.ret (.bool (bP s))):=
 ax (ee func136) fun s hs _=>g0 (sc mh sn) ⟨[(2,fun S0=>⟨Nat,fun k=>k<=s.length/\(s.all fun c=>dF (bI c))=(s.drop k).all fun c=>dF (bI c),fun k=>[(3,.int .i64 k)],fun _=>[],fun k=>s.length - k⟩)],[],[]⟩ func136 (C5 s hs)
theorem nM:ag prog 62 (p1 (.st .version) fun v=>.ret (.int .i64 (bf v))):=
 ax (ee func62) fun v hv _=>g0 (sc (qg) (sc zr sn)) ⟨[(7,fun S0=>⟨Nat,fun k=>k<=(splitB 46 v.pre).length/\(splitB 46 v.pre).all bP=((splitB 46 v.pre).drop k).all bP,fun k=>[(4,.int .i64 k)],fun _=>[],fun k=>(splitB 46 v.pre).length - k⟩)],[],[]⟩ func62 (yN v hv)
theorem CA:ag prog 243 (p1 (.int .i64) fun p=>.ret (.bool (dB p))):=
 ax (ee func243) fun p _ _=>g0 sn a0 func243 (EK p)
theorem CB:ag prog 244 (p1 (.int .i64) fun p=>⟨some (0<=p/\p<=1114111),none,.str (cv p),[]⟩):=
 ax (ee func244) fun p _ ho=>g0 sn a0 func244 (EL p (ho _ rfl))
theorem CD:ag prog 174 (p1 .str fun s=>.ret (.tup [.int .i64 (fC s).1,.int .i64 (fC s).2])):=
 ax (ee func174) fun s hs _=>g0 (sc CA (sc CB sn)) ⟨[(16,fun S0=>⟨Nat,fun k=>1<=k/\k<=bK s/\(k=1→-300<=aO s k/\aO s k<=300)/\(k=2→-20000<=aO s k/\aO s k<=20000)/\(k=3→-1300000<=aO s k/\aO s k<=1300000)/\(k=4→-90000000<=aO s k/\aO s k<=90000000),fun k=>[(6,.int .i64 k),(5,.int .i64 (aO s k))],fun _=>[],fun k=>bK s - k⟩)],[],[(100013,fun S0=>⟨[(4,.int .i64 (bK s:Int)),(5,.int .i64 (eJ s))],[]⟩)]⟩ func174 (EM s hs)
theorem rR:an prog 195:=ee func195
theorem tv (n:Nat) (t:Trm) (m:Int) (hs:Wf (.st .term) t) (hz:szT t<=n+1) (h0:0<=m) (h1:m<=1000000) (hA:ag prog 195 (p2 (.st .term) (.int .i64) fun t m=>⟨some (szT t<=n/\0<=m/\m<=1000000),none,.tup [.int .i64 (countT t m).1,.int .i64 (countT t m).2],[]⟩)):aw prog 195 [.st .term t,.int .i64 m] [] (⟨some (szT t<=n+1/\0<=m/\m<=1000000),none,.tup [.int .i64 (countT t m).1,.int .i64 (countT t m).2],[]⟩):=
 g0 (sc (hA) sn) ⟨[(3,fun S0=>⟨Nat × Int × Int,fun y=>y.1<=t.parts.length/\1<=y.2.1/\y.2.1<=m+1/\0<=y.2.2/\y.2.2+1<=y.2.1/\countL (t.parts.drop y.1) m y.2.1 y.2.2=countL t.parts m 1 0,fun y=>[(6,.int .i64 y.2.1),(7,.int .i64 y.2.2),(15,.int .i64 y.1)],fun _=>[],fun y=>t.parts.length - y.1⟩)],[],[]⟩ func195 (C6 n t m hs hz h0 h1)
theorem ql:∀n:Nat,ag prog 195 (p2 (.st .term) (.int .i64) fun t m=>⟨some (szT t<=n/\0<=m/\m<=1000000),none,.tup [.int .i64 (countT t m).1,.int .i64 (countT t m).2],[]⟩)
 | 0=>bX rR fun t m hs _ ho=>absurd (ho _ rfl).1 (by have:=dh t;omega)
 | n+1=>bX rR fun t m hs _ ho=>tv n t m hs (ho _ rfl).1 (ho _ rfl).2.1 (ho _ rfl).2.2 (ql n)
theorem wb:ag prog 370 (pcl .str 54 fun x=>⟨none,none,.bool (!al x),[]⟩):=
 sZ (ee func370) fun x _ ho=>g0 (sc gD sn) a0 func370 (yO x)
theorem wc:ag prog 388 (pfc (.lst .str) 370 54 fun l=>⟨none,none,.int .i64 (bd al l 0),[]⟩):=
 jJ (ee func388) fun l hl ho=>g0 (sc wb sn) ⟨[(2,fun S0=>⟨Nat,fun k=>k<=l.length/\bd al (l.drop k) k=bd al l 0,fun k=>[(8,.int .i64 k)],fun _=>[],fun k=>l.length - k⟩)],[],[]⟩ func388 (yP l hl)
theorem we:ag prog 369 (pfc (.lst .str) 370 54 fun l=>⟨none,none,.bool (!l.all al),[]⟩):=
 jJ (ee func369) fun l _ ho=>g0 (sc wc sn) a0 func369 (yQ l)
theorem rS:ag prog 322 (pf (.lst .str) 54 fun l=>⟨none,none,.bool (l.all al),[]⟩):=
 kz (ee func322) fun l _ ho=>g0 (sc we sn) a0 func322 (EN l)
theorem CE:ag prog 321 (p1 (.lst .str) fun l=>⟨some (l.length *16<=140737488355328),none,.bool (l.all al && decide l.Nodup),[]⟩):=
 ax (ee func321) fun l _ ho=>g0 (sc lq (sc (iZ) (sc rS (sc (gL) sn)))) a0 func321 (EO l (ho _ rfl))
theorem zt:an prog 366:=ee func366
theorem qV (n:Nat) (x:Shape)  (ho:sz x<=n) (hA:ag prog 367 (p1 (.st .shape) fun s=>⟨some (sz s<=n),none,.bool (allS aj s),[]⟩)):aw prog 366 [.st .shape x,.ptr 900 0] [(900,.box (.fn 367 []))] (⟨some (sz x<=n),none,.bool (!(allS aj) x),[]⟩):=
 g0 (sc (hA) sn) a0 func366 (yR n x ho)
theorem wg (n:Nat) (hA:ag prog 367 (p1 (.st .shape) fun s=>⟨some (sz s<=n),none,.bool (allS aj s),[]⟩)):ag prog 366 (pcl (.st .shape) 367 fun x=>⟨some (sz x<=n),none,.bool (!(allS aj) x),[]⟩):=
 sZ zt fun x _ ho=>qV n x (ho _ rfl) hA
theorem zu:an prog 267:=ee func267
theorem qW (n:Nat) (l:List AL.Shape)  (hl:Wf (.lst (.st .shape)) l) (ho:∀x∈l,sz x<=n) (hA:ag prog 367 (p1 (.st .shape) fun s=>⟨some (sz s<=n),none,.bool (allS aj s),[]⟩)):aw prog 267 [.lst (.st .shape) l none,.fn 366 [.ptr 900 0]] [(900,.box (.fn 367 []))] (⟨some (∀x∈l,sz x<=n),none,.int .i64 (bd (allS aj) l 0),[]⟩):=
 g0 (sc ((wg n hA)) sn) ⟨[(2,fun S0=>⟨Nat,fun k=>k<=l.length/\bd (allS aj) (l.drop k) k=bd (allS aj) l 0,fun k=>[(8,.int .i64 k)],fun _=>[],fun k=>l.length - k⟩)],[],[]⟩ func267 (yS n l hl ho)
theorem wh (n:Nat) (hA:ag prog 367 (p1 (.st .shape) fun s=>⟨some (sz s<=n),none,.bool (allS aj s),[]⟩)):ag prog 267 (pfc (.lst (.st .shape)) 366 367 fun l=>⟨some (∀x∈l,sz x<=n),none,.int .i64 (bd (allS aj) l 0),[]⟩):=
 jJ zu fun l hl ho=>qW n l hl (ho _ rfl) hA
theorem zw:an prog 193:=ee func193
theorem qX (n:Nat) (l:List AL.Shape)  (ho:∀x∈l,sz x<=n) (hA:ag prog 367 (p1 (.st .shape) fun s=>⟨some (sz s<=n),none,.bool (allS aj s),[]⟩)):aw prog 193 [.lst (.st .shape) l none,.fn 366 [.ptr 900 0]] [(900,.box (.fn 367 []))] (⟨some (∀x∈l,sz x<=n),none,.bool (!l.all (allS aj)),[]⟩):=
 g0 (sc ((wh n hA)) sn) a0 func193 (yT n l ho)
theorem wi (n:Nat) (hA:ag prog 367 (p1 (.st .shape) fun s=>⟨some (sz s<=n),none,.bool (allS aj s),[]⟩)):ag prog 193 (pfc (.lst (.st .shape)) 366 367 fun l=>⟨some (∀x∈l,sz x<=n),none,.bool (!l.all (allS aj)),[]⟩):=
 jJ zw fun l _ ho=>qX n l (ho _ rfl) hA
theorem Fa:an prog 318:=ee func318
theorem wj (n:Nat) (l:List AL.Shape)  (ho:∀x∈l,sz x<=n) (hA:ag prog 367 (p1 (.st .shape) fun s=>⟨some (sz s<=n),none,.bool (allS aj s),[]⟩)):aw prog 318 [.lst (.st .shape) l none,.fn 367 []] [] (⟨some (∀x∈l,sz x<=n),none,.bool (l.all (allS aj)),[]⟩):=
 g0 (sc ((wi n hA)) sn) a0 func318 (EP n l ho)
theorem CF (n:Nat) (hA:ag prog 367 (p1 (.st .shape) fun s=>⟨some (sz s<=n),none,.bool (allS aj s),[]⟩)):ag prog 318 (pf (.lst (.st .shape)) 367 fun l=>⟨some (∀x∈l,sz x<=n),none,.bool (l.all (allS aj)),[]⟩):=
 kz Fa fun l _ ho=>wj n l (ho _ rfl) hA
theorem AI:an prog 367:=ee func367
theorem zx (n:Nat) (s:AL.Shape) (ho:sz s<=n+1) (hE:ag prog 318 (pf (.lst (.st .shape)) 367 fun l=>⟨some (∀x∈l,sz x<=n),none,.bool (l.all (allS aj)),[]⟩)):aw prog 367 [.st .shape s] [] (⟨some (sz s<=n+1),none,.bool (allS aj s),[]⟩):=
 g0 (sc (hE) sn) a0 func367 (Gl n s ho)
theorem wk:∀n:Nat,ag prog 367 (p1 (.st .shape) fun s=>⟨some (sz s<=n),none,.bool (allS aj s),[]⟩)
 | 0=>ax AI fun s _ ho=>absurd (ho _ rfl) (by have:=dP s;omega)
 | n+1=>ax AI fun s _ ho=>zx n s (ho _ rfl) (CF n (wk n))
theorem zy:ag prog 319 (p1 (.st .shape) fun s=>.ret (.bool (decide (bj s=0) && allS aj s))):=
 ax (ee func319) fun s _ _=>g0 (sc mY (sc (wk 400) sn)) a0 func319 (C7 s)
theorem Gr:ag prog 317 (p1 (.st .term) fun t=>.ret (.agg [.int .i64 (t.names.length:Int),.int .i64 (t.vars.length:Int),.int .i64 (t.shapes.length:Int),.int .i64 (t.parts.length:Int)])):=
 ax (ee func317) fun t _ _=>g0 sn a0 func317 (Ho t)
theorem CG:ag prog 320 (p1 .str fun s=>.ret (.bool (gC s))):=
 ax (ee func320) fun s hs _=>g0 (sc (BD) sn) ⟨[(2,fun S0=>⟨Nat,fun k=>k<=s.length/\(s.all cJ)=(s.drop k).all cJ,fun k=>[(8,.int .i64 k)],fun _=>[],fun k=>s.length - k⟩)],[],[]⟩ func320 (ER s hs)
theorem tw:ag prog 366 (pcl (.st .shape) 319 fun x=>⟨none,none,.bool (!aW x),[]⟩):=
 sZ (ee func366) fun x _ ho=>g0 (sc zy sn) a0 func366 (vP x)
theorem tx:ag prog 267 (pfc (.lst (.st .shape)) 366 319 fun l=>⟨none,none,.int .i64 (bd aW l 0),[]⟩):=
 jJ (ee func267) fun l hl ho=>g0 (sc tw sn) ⟨[(2,fun S0=>⟨Nat,fun k=>k<=l.length/\bd aW (l.drop k) k=bd aW l 0,fun k=>[(8,.int .i64 k)],fun _=>[],fun k=>l.length - k⟩)],[],[]⟩ func267 (vQ l hl)
theorem tz:ag prog 193 (pfc (.lst (.st .shape)) 366 319 fun l=>⟨none,none,.bool (!l.all aW),[]⟩):=
 jJ (ee func193) fun l _ ho=>g0 (sc tx sn) a0 func193 (vR l)
theorem zA:ag prog 318 (pf (.lst (.st .shape)) 319 fun l=>⟨none,none,.bool (l.all aW),[]⟩):=
 kz (ee func318) fun l _ ho=>g0 (sc tz sn) a0 func318 (C8 l)
theorem CH:ag prog 268 (p1 (.st .term) fun t=>⟨some (t.names.length<=8796093022208),none,.bool (aq t),[]⟩):=
 ax (ee func268) fun t ht ho=>g0 (sc Gr (sc zA (sc CG (sc gD (sc CE (sc rS (sc iA sn))))))) ⟨[],[],[(2,fun S0=>⟨[(34,.bool (!fI t))],[]⟩)]⟩ func268 (ES t ht (ho _ rfl))
theorem wm:an prog 324:=ee func324
theorem qm (n:Nat) (x:Trm)  (ho:szT x<=n/\bT x=true) (hA:ag prog 196 (p1 (.st .term) fun t=>⟨some (szT t<=n/\bT t=true),none,.bool (allT aq t),[]⟩)):aw prog 324 [.st .term x,.ptr 900 0] [(900,.box (.fn 196 []))] (⟨some (szT x<=n/\bT x=true),none,.bool (!(allT aq) x),[]⟩):=
 g0 (sc (hA) sn) a0 func324 (vT n x ho)
theorem tA (n:Nat) (hA:ag prog 196 (p1 (.st .term) fun t=>⟨some (szT t<=n/\bT t=true),none,.bool (allT aq t),[]⟩)):ag prog 324 (pcl (.st .term) 196 fun x=>⟨some (szT x<=n/\bT x=true),none,.bool (!(allT aq) x),[]⟩):=
 sZ wm fun x _ ho=>qm n x (ho _ rfl) hA
theorem wo:an prog 371:=ee func371
theorem qn (n:Nat) (l:List Trm)  (hl:Wf (.lst (.st .term)) l) (ho:∀x∈l,szT x<=n/\bT x=true) (hA:ag prog 196 (p1 (.st .term) fun t=>⟨some (szT t<=n/\bT t=true),none,.bool (allT aq t),[]⟩)):aw prog 371 [.lst (.st .term) l none,.fn 324 [.ptr 900 0]] [(900,.box (.fn 196 []))] (⟨some (∀x∈l,szT x<=n/\bT x=true),none,.int .i64 (bd (allT aq) l 0),[]⟩):=
 g0 (sc ((tA n hA)) sn) ⟨[(2,fun S0=>⟨Nat,fun k=>k<=l.length/\bd (allT aq) (l.drop k) k=bd (allT aq) l 0,fun k=>[(8,.int .i64 k)],fun _=>[],fun k=>l.length - k⟩)],[],[]⟩ func371 (vU n l hl ho)
theorem tB (n:Nat) (hA:ag prog 196 (p1 (.st .term) fun t=>⟨some (szT t<=n/\bT t=true),none,.bool (allT aq t),[]⟩)):ag prog 371 (pfc (.lst (.st .term)) 324 196 fun l=>⟨some (∀x∈l,szT x<=n/\bT x=true),none,.int .i64 (bd (allT aq) l 0),[]⟩):=
 jJ wo fun l hl ho=>qn n l hl (ho _ rfl) hA
theorem wq:an prog 323:=ee func323
theorem qo (n:Nat) (l:List Trm)  (ho:∀x∈l,szT x<=n/\bT x=true) (hA:ag prog 196 (p1 (.st .term) fun t=>⟨some (szT t<=n/\bT t=true),none,.bool (allT aq t),[]⟩)):aw prog 323 [.lst (.st .term) l none,.fn 324 [.ptr 900 0]] [(900,.box (.fn 196 []))] (⟨some (∀x∈l,szT x<=n/\bT x=true),none,.bool (!l.all (allT aq)),[]⟩):=
 g0 (sc ((tB n hA)) sn) a0 func323 (vV n l ho)
theorem tC (n:Nat) (hA:ag prog 196 (p1 (.st .term) fun t=>⟨some (szT t<=n/\bT t=true),none,.bool (allT aq t),[]⟩)):ag prog 323 (pfc (.lst (.st .term)) 324 196 fun l=>⟨some (∀x∈l,szT x<=n/\bT x=true),none,.bool (!l.all (allT aq)),[]⟩):=
 jJ wq fun l _ ho=>qo n l (ho _ rfl) hA
theorem CI:an prog 269:=ee func269
theorem tD (n:Nat) (l:List Trm)  (ho:∀x∈l,szT x<=n/\bT x=true) (hA:ag prog 196 (p1 (.st .term) fun t=>⟨some (szT t<=n/\bT t=true),none,.bool (allT aq t),[]⟩)):aw prog 269 [.lst (.st .term) l none,.fn 196 []] [] (⟨some (∀x∈l,szT x<=n/\bT x=true),none,.bool (l.all (allT aq)),[]⟩):=
 g0 (sc ((tC n hA)) sn) a0 func269 (C9 n l ho)
theorem zB (n:Nat) (hA:ag prog 196 (p1 (.st .term) fun t=>⟨some (szT t<=n/\bT t=true),none,.bool (allT aq t),[]⟩)):ag prog 269 (pf (.lst (.st .term)) 196 fun l=>⟨some (∀x∈l,szT x<=n/\bT x=true),none,.bool (l.all (allT aq)),[]⟩):=
 kz CI fun l _ ho=>tD n l (ho _ rfl) hA
theorem rT:an prog 196:=ee func196
theorem tE (n:Nat) (t:Trm) (ho:szT t<=n+1/\bT t=true) (hE:ag prog 269 (pf (.lst (.st .term)) 196 fun l=>⟨some (∀x∈l,szT x<=n/\bT x=true),none,.bool (l.all (allT aq)),[]⟩)):aw prog 196 [.st .term t] [] (⟨some (szT t<=n+1/\bT t=true),none,.bool (allT aq t),[]⟩):=
 g0 (sc CH (sc (hE) sn)) a0 func196 (Ca n t ho)
theorem qp:∀n:Nat,ag prog 196 (p1 (.st .term) fun t=>⟨some (szT t<=n/\bT t=true),none,.bool (allT aq t),[]⟩)
 | 0=>ax rT fun t _ ho=>absurd (ho _ rfl).1 (by have:=dh t;omega)
 | n+1=>ax rT fun t _ ho=>tE n t (ho _ rfl) (zB n (qp n))
theorem tF (x:Trm) (ho:bT x=true) :aw prog 127 [.st .term x] [] (⟨some (bT x=true),none,.int .i64 (bD x),[]⟩):=
 g0 (sc (ql (szT x)) (sc (qp (szT x)) sn)) a0 func127 (Cb x ho)
theorem lu:ag prog 127 (p1 (.st .term) fun t=>⟨some (bT t=true),none,.int .i64 (bD t),[]⟩):=
 ax (ee func127) fun t _ ho=>tF t (ho _ rfl)
theorem zC:ag prog 335 (p2 (.lst .str) .bool fun ns b=>.ret (.bool (dC ns b))):=
 bX (ee func335) fun ns b hl _ _=>g0 (sc gd sn) ⟨[(2,fun S0=>⟨Nat,fun k=>k<=ns.length/\(ns.take k).all al=true/\(b=true→(ns.take k).Nodup),fun k=>[(5,.int .i64 k)],fun _=>[],fun k=>ns.length - k⟩),(7,fun S0=>D8 S0 5 fun k0=>⟨Nat,fun j=>(j:Int)<=k0/\(b=true→(ns.getD k0.toNat (dfl .str))∉ns.take j)/\(b=false→j=0),fun j=>[(6,.int .i64 j)],fun _=>[],fun j=>k0.toNat - j⟩)],[],[]⟩ func335 (Cc ns b hl)
theorem qq:an prog 375:=ee func375
theorem qY (n:Nat) (s:AL.Shape) (hs:Wf (.st .shape) s) (hn:sz s<=n+1) (hA:ag prog 375 (p1 (.st .shape) fun s=>⟨some (sz s<=n),none,.bool (!allS aj s),[]⟩)):aw prog 375 [.st .shape s] [] (.ret (.bool (!allS aj s))):=
 g0 (sc (hA) sn) ⟨[(2,fun S0=>⟨Nat,fun k=>k<=s.parts.length/\allS aj s=(aj s && allL aj (s.parts.drop k)),fun k=>[(3,.int .i64 k)],fun _=>[],fun k=>s.parts.length - k⟩)],[],[]⟩ func375 (yU n s hs hn)
theorem wu:∀n:Nat,ag prog 375 (p1 (.st .shape) fun s=>⟨some (sz s<=n),none,.bool (!allS aj s),[]⟩):=by
 intro n
 induction n with
 | zero=>exact ax qq fun a _ ho=>absurd (ho _ rfl) (by have:=dP a;omega)
 | succ n ih=>exact ax qq fun a hs ho=>qY n a hs (ho _ rfl) ih
theorem wv:ag prog 336 (p1 (.lst (.st .shape)) fun l=>.ret (.bool (l.all aW))):=
 ax (ee func336) fun l hl _=>g0 (sc qk (sc (wu 400) sn)) ⟨[(2,fun S0=>⟨Nat,fun k=>k<=l.length/\l.all aW=(l.drop k).all aW,fun k=>[(3,.int .i64 k)],fun _=>[],fun k=>l.length - k⟩)],[],[]⟩ func336 (yV l hl)
theorem zD:ag prog 337 (p5 (.st .term) (.int .i64) (.int .i64) (.int .i64) (.int .i64) fun t n v s p=>.ret (.bool (fw t n v s p))):=
 HK (ee func337) fun t n v s p _ _ _ _=>g0 sn a0 func337 (Cd t n v s p)
theorem wy:ag prog 376 (p1 .str fun s=>⟨some (s.length<=2000000),none,.tup [.lst (.int .i64) (gQ s).1 none,.st .fault (gQ s).2],[]⟩):=
 ax (ee func376) fun s hs ho=>g0 (sc CD sn) ⟨[(3,fun S0=>⟨Nat × Nat × List Int,fun y=>y.2.1<=s.length/\s.length - y.2.1 < y.1/\y.2.2.length<=y.2.1/\j6 s y.1 y.2.1 y.2.2=gQ s,fun y=>[(5,.int .i64 (y.2.1:Int)),(4,.lst (.int .i64) y.2.2 (some 701))],fun y=>[(701,.tail (.int .i64) y.2.2.length)],fun y=>s.length - y.2.1⟩)],[],[]⟩ func376 (yW s hs (ho _ rfl))
theorem CJ:ag prog 338 (p1 .str fun s=>⟨some (s.length<=2000000),none,.bool (gC s),[]⟩):=
 ax (ee func338) fun s hs ho=>g0 (sc wy sn) ⟨[(2,fun S0=>⟨Nat,fun k=>k<=s.length/\s.all cJ=(s.drop k).all cJ,fun k=>[(3,.int .i64 k)],fun _=>[],fun k=>s.length - k⟩)],[],[]⟩ func338 (ET s hs (ho _ rfl))
theorem CK:ag prog 275 (p1 (.st .term) fun t=>⟨some (t.name.length<=2000000/\t.names.length<=2000000),none,.bool (aq t),[]⟩):=
 ax (ee func275) fun t ht ho=>g0 (sc zC (sc wv (sc gd (sc j9 (sc zD (sc CJ sn)))))) a0 func275 (EU t ht (ho _ rfl))
theorem rU:an prog 204:=ee func204
theorem tG (n:Nat) (t:Trm) (ht:Wf (.st .term) t) (hn:szT t<=n+1) (ho:cR t=true) (hA:ag prog 204 (p1 (.st .term) fun t=>⟨some (szT t<=n/\cR t=true),none,.bool (allT aq t),[]⟩)):aw prog 204 [.st .term t] [] (.ret (.bool (allT aq t))):=
 g0 (sc CK (sc (hA) sn)) ⟨[(4,fun S0=>⟨Nat,fun k=>k<=t.parts.length/\allT aq t=allTL aq (t.parts.drop k),fun k=>[(3,.int .i64 k)],fun _=>[],fun k=>t.parts.length - k⟩)],[],[]⟩ func204 (Ce n t ht hn ho)
theorem zE:∀n:Nat,ag prog 204 (p1 (.st .term) fun t=>⟨some (szT t<=n/\cR t=true),none,.bool (allT aq t),[]⟩):=by
 intro n
 induction n with
 | zero=>exact ax rU fun a _ ho=>absurd (ho _ rfl).1 (by have:=dh a;omega)
 | succ n ih=>exact ax rU fun a hs ho=>tG n a hs (ho _ rfl).1 (ho _ rfl).2 ih
theorem wz:an prog 82:=ee func82
theorem wA (n:Nat) (s:Trm) (m:Int) (hs:Wf (.st .term) s) (ho:szT s<=n+1/\0<=m/\m<=1000000) (hA:ag prog 82 (p2 (.st .term) (.int .i64) fun s m=>⟨some (szT s<=n/\0<=m/\m<=1000000),none,.int .i64 (dr s m),[]⟩)):aw prog 82 [.st .term s,.int .i64 m] [] (.ret (.int .i64 (dr s m))):=
 g0 (sc (hA) sn) ⟨[(3,fun S0=>⟨Nat × Int,fun x=>x.1<=s.parts.length/\1<=x.2/\x.2<=m+1/\sizeTL (s.parts.drop x.1) x.2 m=dr s m,fun x=>[(5,.int .i64 x.2),(6,.int .i64 x.1)],fun _=>[],fun x=>s.parts.length - x.1⟩)],[],[]⟩ func82 (EV n s m hs ho)
theorem CL:∀n:Nat,ag prog 82 (p2 (.st .term) (.int .i64) fun s m=>⟨some (szT s<=n/\0<=m/\m<=1000000),none,.int .i64 (dr s m),[]⟩):=by
 intro n
 induction n with
 | zero=>exact bX wz fun a m _ _ ho=>absurd (ho _ rfl).1 (by have:=dh a;omega)
 | succ n ih=>exact bX wz fun a m ha _ ho=>wA n a m ha (ho _ rfl) ih
theorem wB:an prog 203:=ee func203
theorem wC (n:Nat) (s:Trm) (hs:Wf (.st .term) s) (hn:szT s<=n+1) (hb:n<=1000000) (hA:ag prog 203 (p1 (.st .term) fun s=>⟨some (szT s<=n),none,.int .i64 (deepT s:Int),[]⟩)):aw prog 203 [.st .term s] [] (.ret (.int .i64 (deepT s:Int))):=
 g0 (sc (hA) sn) ⟨[(3,fun S0=>⟨Nat × Int,fun x=>x.1<=s.parts.length/\0<=x.2/\max x.2 (maxDT (s.parts.drop x.1):Int)=maxDT s.parts,fun x=>[(3,.int .i64 x.2),(4,.int .i64 x.1)],fun _=>[],fun x=>s.parts.length - x.1⟩)],[],[]⟩ func203 (EW n s hs hn hb)
theorem CM:∀n:Nat,n<=1000000→ag prog 203 (p1 (.st .term) fun s=>⟨some (szT s<=n),none,.int .i64 (deepT s:Int),[]⟩):=by
 intro n
 induction n with
 | zero=>exact fun _=>ax wB fun a _ ho=>absurd (ho _ rfl) (by have:=dh a;omega)
 | succ n ih=>exact fun hb=>ax wB fun a hs ho=>wC n a hs (ho _ rfl) (by omega) (ih (by omega))
theorem zF:ag prog 138 (p1 (.st .term) fun s=>⟨some (cR s=true),none,.int .i64 (bD s),[]⟩):=
 ax (ee func138) fun s hs ho=>g0 (sc (CL (szT s)) (sc (CM 4096 (by decide)) (sc (zE 4096) sn))) a0 func138 (Cf s hs (ho _ rfl))
theorem tH:ag prog 117 (p2 (.lst .str) (.lst .str) fun a b=>.ret (.bool (decide (a=b)))):=
 bX (ee func117) fun a b ha hb _=>g0 sn ⟨[(4,fun S0=>⟨Nat,fun k=>k<=a.length/\a.length=b.length/\(a=b↔a.drop k=b.drop k),fun k=>[(5,.int .i64 k)],fun _=>[],fun k=>a.length - k⟩)],[],[]⟩ func117 (vW a b ha hb)
theorem rV:an prog 53:=ee func53
theorem tI (n:Nat) (a b:Trm) (p:Bool) (ha:Wf (.st .term) a) (hb:Wf (.st .term) b) (hn:szT a<=n+1) (hA:ag prog 53 (p3 (.st .term) (.st .term) .bool fun a b p=>⟨some (szT a<=n),none,.bool (eqT a b p),[]⟩)):aw prog 53 [.st .term a,.st .term b,.bool p] [] (.ret (.bool (eqT a b p))):=
 g0 (sc tH (sc (lr (szL a.shapes)) (sc (hA) sn))) ⟨[(6,fun S0=>⟨Nat,fun k=>k<=a.shapes.length/\a.shapes.length=b.shapes.length/\a.parts.length=b.parts.length/\eqT a b p=(eqL (a.shapes.drop k) (b.shapes.drop k) && eqTL a.parts b.parts p),fun k=>[(7,.int .i64 k)],fun _=>[],fun k=>a.shapes.length - k⟩),(11,fun S0=>⟨Nat,fun k=>k<=a.parts.length/\a.parts.length=b.parts.length/\eqT a b p=eqTL (a.parts.drop k) (b.parts.drop k) p,fun k=>[(8,.int .i64 k)],fun _=>[],fun k=>a.parts.length - k⟩)],[],[]⟩ func53 (Cg n a b p ha hb hn)
theorem qt:∀n:Nat,ag prog 53 (p3 (.st .term) (.st .term) .bool fun a b p=>⟨some (szT a<=n),none,.bool (eqT a b p),[]⟩):=by
 intro n
 induction n with
 | zero=>exact GA rV fun a b _ _ _ _ ho=>absurd (ho _ rfl) (by have:=dh a;omega)
 | succ n ih=>exact GA rV fun a b p ha hb _ ho=>tI n a b p ha hb (ho _ rfl) ih
theorem nN:ag prog 187 (p1 .str fun s=>.ret (.bool (aI s))):=
 ax (ee func187) fun s _ _=>g0 (sc (vd) sn) a0 func187 (yX s)
theorem CN:ag prog 122 (p1 .str fun s=>.ret (.bool (bP s))):=
 ax (ee func122) fun s hs _=>g0 (sc nN sn) ⟨[(4,fun S0=>⟨Nat,fun k=>k<=s.length/\(s.all fun c=>dF (bI c))=(s.drop k).all fun c=>dF (bI c),fun k=>[(22,.int .i64 k)],fun _=>[],fun k=>s.length - k⟩)],[],[]⟩ func122 (EX s hs)
theorem lv:ag prog 55 (p1 (.st .version) fun v=>.ret (.int .i64 (bf v))):=
 ax (ee func55) fun v hv _=>g0 (sc (mR) (sc CN sn)) ⟨[(2,fun S0=>⟨Nat,fun k=>k<=3/\([v.major,v.minor,v.patch].take k).all nZ=true,fun k=>[(15,.int .i64 k)],fun _=>[],fun k=>3 - k⟩),(11,fun S0=>⟨Nat,fun k=>k<=(splitB 46 v.pre).length/\((splitB 46 v.pre).take k).all bP=true,fun k=>[(37,.int .i64 k)],fun _=>[],fun k=>(splitB 46 v.pre).length - k⟩)],[],[]⟩ func55 (Ch v hv)
theorem rW:an prog 207:=ee func207
theorem tJ (n:Nat) (l:List AL.Shape) (hl:Wf (.lst (.st .shape)) l) (ho:szL l < n+1/\szL l<=1000000000/\allL iw l=true) (hA:ag prog 207 (p1 (.lst (.st .shape)) fun l=>⟨some (szL l < n/\szL l<=1000000000/\allL iw l=true),none,.lst (.st .shape) l none,[]⟩)):aw prog 207 [.lst (.st .shape) l none] [] (⟨some (szL l < n+1/\szL l<=1000000000/\allL iw l=true),none,.lst (.st .shape) l none,[]⟩):=
 g0 (sc (kh) (sc (hA) sn)) ⟨[(3,fun S0=>⟨Nat,fun k=>k<=l.length,fun k=>[(3,.lst (.st .shape) (l.take k) (some 701)),(8,.int .i64 k)],fun k=>[(701,.tail (.st .shape) (l.take k).length)],fun k=>l.length - k⟩)],[],[]⟩ func207 (Ci n l hl ho)
theorem qu:∀n:Nat,ag prog 207 (p1 (.lst (.st .shape)) fun l=>⟨some (szL l < n/\szL l<=1000000000/\allL iw l=true),none,.lst (.st .shape) l none,[]⟩)
 | 0=>ax rW fun l _ ho=>absurd (ho _ rfl).1 (Nat.not_lt_zero _)
 | n+1=>ax rW fun l hl ho=>tJ n l hl (ho _ rfl) (qu n)
theorem AJ:an prog 142:=ee func142
theorem zG (n:Nat) (t:Trm) (ht:Wf (.st .term) t) (ho:szT t<=n+1/\cD t=true) (hA:ag prog 142 (p1 (.st .term) fun t=>⟨some (szT t<=n/\cD t=true),none,.st .term (bareT t),[]⟩)):aw prog 142 [.st .term t] [] (⟨some (szT t<=n+1/\cD t=true),none,.st .term (bareT t),[]⟩):=
 g0 (sc (kh) (sc (qu (szL t.shapes+1)) (sc (hA) sn))) ⟨[(5,fun S0=>⟨Nat,fun k=>k<=t.parts.length,fun k=>[(3,.lst (.st .term) ((t.parts.take k).map bareT) (some 701)),(22,.int .i64 k)],fun k=>[(701,.tail (.st .term) ((t.parts.take k).map bareT).length)],fun k=>t.parts.length - k⟩)],[],[]⟩ func142 (Gm n t ht ho)
theorem wD:∀n:Nat,ag prog 142 (p1 (.st .term) fun t=>⟨some (szT t<=n/\cD t=true),none,.st .term (bareT t),[]⟩)
 | 0=>ax AJ fun t _ ho=>absurd (ho _ rfl).1 (by have:=dh t;omega)
 | n+1=>ax AJ fun t ht ho=>zG n t ht (ho _ rfl) (wD n)
theorem zH:ag prog 219 (p2 .str (.int .u8) fun s c=>⟨some (c=48),none,.str (bQ s),[]⟩):=
 bX (ee func219) fun s c hs _ ho=>g0 sn ⟨[(1,fun S0=>⟨Nat,fun k=>k<=s.length/\bQ s=bQ (s.drop k),fun k=>[(0,.str (s.drop k))],fun _=>[],fun k=>s.length - k⟩)],[],[]⟩ func219 (Cj s c hs (ho _ rfl))
theorem tK:ag prog 315 (p2 .str .str fun s t=>⟨some (t=[48]),none,.str (bQ s),[]⟩):=
 bX (ee func315) fun s t _ _ ho=>g0 (sc zH sn) a0 func315 (vX s t (ho _ rfl))
theorem Fb:ag prog 259 (p1 (.int .i64) fun a=>.ret (.bool false)):=
 ax (ee func259) fun a _ _=>g0 sn a0 func259 (Gn a)
theorem qv:ag prog 188 (p2 (.int .i64) (.int .i64) fun a b=>.ret (.int .i64 (bc a b))):=
 bX (ee func188) fun a b _ _ _=>g0 (sc Fb sn) a0 func188 (Ck a b)
theorem AK:ag prog 89 (p1 (.lst (.int .i64)) fun l=>.ret (.int .i64 (orI l))):=
 ax (ee func89) fun l hl _=>g0 sn ⟨[(3,fun S0=>⟨Nat,fun k=>k<=l.length/\orI l=orI (l.drop k),fun k=>[(8,.int .i64 k)],fun _=>[],fun k=>l.length - k⟩)],[],[]⟩ func89 (Hp l hl)
theorem wE:ag prog 260 (p2 .str .str fun a b=>.ret (.int .i64 (uY a b))):=
 bX (ee func260) fun a b _ _ _=>g0 (sc tK (sc qv (sc (nD) (sc AK sn)))) a0 func260 (yY a b)
theorem zI:ag prog 189 (p2 .str .str fun a b=>.ret (.int .i64 (fv a b))):=
 bX (ee func189) fun a b _ _ _=>g0 (sc nN (sc wE (sc (nD) sn))) a0 func189 (Cl a b)
theorem Fc:ag prog 124 (p2 (.st .version) (.st .version) fun a b=>⟨some (a.pre.length<=4096/\b.pre.length<=4096),none,.int .i64 (eF a b),[]⟩):=
 bX (ee func124) fun a b _ _ ho=>g1 nn (fun _=>[]) nn nn (fun d=>Nat.beq d 17 || Nat.beq d 22 || Nat.beq d 27 || Nat.beq d 29 || Nat.beq d 43 || Nat.beq d 46 || Nat.beq d 63) (sc qv (sc AK (sc zI (sc (mR) sn)))) ⟨[(12,fun S0=>⟨Nat,fun k=>k<=(splitB 46 a.pre).length/\k<=(splitB 46 b.pre).length/\fb (splitB 46 a.pre) (splitB 46 b.pre)=fb ((splitB 46 a.pre).drop k) ((splitB 46 b.pre).drop k),fun k=>[(52,.int .i64 k)],fun _=>[],fun k=>(splitB 46 a.pre).length - k⟩)],[],[]⟩ func124 (Gp a b (ho _ rfl))
theorem CO:ag prog 123 (p1 (.int .i64) fun n=>.ret (.str (pQ n))):=
 ax (ee func123) fun n _ _=>g0 sn a0 func123 (EY n)
theorem qw:ag prog 56 (p1 (.lst (.st .bound)) fun l=>.ret (.int .i64 (fB l))):=
 ax (ee func56) fun l hl _=>g0 (sc CO (sc lv sn)) ⟨[(4,fun S0=>⟨Nat,fun k=>k<=l.length/\l.all eh=(l.drop k).all eh,fun k=>[(10,.int .i64 k)],fun _=>[],fun k=>l.length - k⟩)],[],[]⟩ func56 (Cm l hl)
theorem qx:ag prog 57 (p2 (.st .version) (.lst (.st .bound)) fun v l=>⟨some (v.pre.length<=4096/\∀b∈l,b.v.pre.length<=4096),none,.bool (bn v l),[]⟩):=
 bX (ee func57) fun v l _ hl ho=>g0 (sc Fc sn) ⟨[(2,fun S0=>⟨Nat,fun k=>k<=l.length/\bn v l=bn v (l.drop k),fun k=>[(10,.int .i64 k)],fun _=>[],fun k=>l.length - k⟩)],[],[]⟩ func57 (Cn v l hl (ho _ rfl))
theorem wF:ag prog 272 (p2 (.int .i64) (.int .i64) fun a b=>.ret (.int .i64 (bc a b))):=
 bX (ee func272) fun a b _ _ _=>g0 sn a0 func272 (yZ a b)
theorem wG:ag prog 334 (p2 .str .str fun a b=>.ret (.int .i64 (ed a b))):=
 bX (ee func334) fun a b _ _ _=>g0 sn a0 func334 (z6 a b)
theorem Fe:ag prog 273 (p2 .str .str fun a b=>.ret (.int .i64 (nzT a b))):=
 bX (ee func273) fun a b _ _ _=>g0 sn a0 func273 (Gq a b)
theorem wH:ag prog 274 (p2 .str .str fun a b=>⟨some (a.length<=4096/\b.length<=4096),none,.int .i64 (fv a b),[]⟩):=
 bX (ee func274) fun a b _ _ ho=>g0 (sc mh (sc wG sn)) ⟨[(8,fun S0=>⟨Nat,fun k=>k<=b.length - a.length,fun k=>[(0,.str (List.replicate k 48++a))],fun _=>[],fun k=>b.length - a.length - k⟩),(10,fun S0=>⟨Nat,fun k=>k<=a.length - b.length,fun k=>[(1,.str (List.replicate k 48++b))],fun _=>[],fun k=>a.length - b.length - k⟩)],[],[]⟩ func274 (z7 a b (ho _ rfl))
theorem CP:ag prog 202 (p2 (.st .version) (.st .version) fun a b=>⟨some (a.pre.length<=4096/\b.pre.length<=4096),none,.int .i64 (eF a b),[]⟩):=
 bX (ee func202) fun a b _ _ ho=>g1 nn (fun _=>[]) nn nn (fun d=>Nat.beq d 50 || Nat.beq d 53 || Nat.beq d 54 || Nat.beq d 59 || Nat.beq d 63 || Nat.beq d 66) (sc wF (sc Fe (sc wH (sc (qg) sn)))) ⟨[(3,fun S0=>⟨Nat,fun k=>k<=3/\∀j < k,[bc a.major b.major,bc a.minor b.minor,bc a.patch b.patch].getD j 0=0,fun k=>[(6,.int .i64 k)],fun _=>[],fun k=>3 - k⟩),(11,fun S0=>⟨Nat,fun k=>k<=(splitB 46 a.pre).length/\k<=(splitB 46 b.pre).length/\fb (splitB 46 a.pre) (splitB 46 b.pre)=fb ((splitB 46 a.pre).drop k) ((splitB 46 b.pre).drop k),fun k=>[(9,.int .i64 k)],fun _=>[],fun k=>(splitB 46 a.pre).length - k⟩)],[],[]⟩ func202 (EZ a b (ho _ rfl))
theorem wI:ag prog 63 (p1 (.lst (.st .bound)) fun l=>.ret (.int .i64 (fB l))):=
 ax (ee func63) fun l hl _=>g0 (sc nM sn) ⟨[(4,fun S0=>⟨Nat,fun k=>k<=l.length/\l.all eh=(l.drop k).all eh,fun k=>[(3,.int .i64 k)],fun _=>[],fun k=>l.length - k⟩)],[],[]⟩ func63 (z8 l hl)
theorem CQ:ag prog 137 (p2 (.st .version) (.st .bound) fun v b=>⟨some (v.pre.length<=4096/\b.v.pre.length<=4096),none,.bool (kl v b),[]⟩):=
 bX (ee func137) fun v b _ _ ho=>g0 (sc CP sn) a0 func137 (F0 v b (ho _ rfl))
theorem wJ:ag prog 64 (p2 (.st .version) (.lst (.st .bound)) fun v l=>⟨some (v.pre.length<=4096/\∀b∈l,b.v.pre.length<=4096),none,.bool (bn v l),[]⟩):=
 bX (ee func64) fun v l _ hl ho=>g0 (sc CQ sn) ⟨[(2,fun S0=>⟨Nat,fun k=>k<=l.length/\bn v l=bn v (l.drop k),fun k=>[(5,.int .i64 k)],fun _=>[],fun k=>l.length - k⟩)],[],[]⟩ func64 (za v l hl (ho _ rfl))
theorem zJ:ag prog 51 (p2 (.lst (.st .bound)) (.lst (.st .bound)) fun a b=>⟨some (a=b),none,.bool true,[]⟩):=
 bX (ee func51) fun a b hl _ ho=>g0 sn ⟨[(4,fun S0=>⟨Nat,fun k=>k<=a.length,fun k=>[(5,.int .i64 k)],fun _=>[],fun k=>a.length - k⟩)],[],[]⟩ func51 (Co a b hl (ho _ rfl))
theorem zK:an prog 194:=ee func194
theorem qZ (n:Nat) (x:Shape) (ho:sz x<=n) (hA:ag prog 126 (p1 (.st .shape) fun s=>⟨some (sz s<=n),none,.bool (allS aj s),[]⟩)):aw prog 194 [.st .shape x] [] (⟨some (sz x<=n),none,.bool (!allS aj x),[]⟩):=
 g0 (sc (hA) sn) a0 func194 (zb n x ho)
theorem wK (n:Nat) (hA:ag prog 126 (p1 (.st .shape) fun s=>⟨some (sz s<=n),none,.bool (allS aj s),[]⟩)):ag prog 194 (p1 (.st .shape) fun x=>⟨some (sz x<=n),none,.bool (!allS aj x),[]⟩):=
 ax zK fun x _ ho=>qZ n x (ho _ rfl) hA
theorem zL:an prog 267:=ee func267
theorem r6 (n:Nat) (l:List AL.Shape) (hl:Wf (.lst (.st .shape)) l) (ho:∀x∈l,sz x<=n) (hA:ag prog 126 (p1 (.st .shape) fun s=>⟨some (sz s<=n),none,.bool (allS aj s),[]⟩)):aw prog 267 [.lst (.st .shape) l none,.fn 194 []] [] (⟨some (∀x∈l,sz x<=n),none,.int .i64 (bd (allS aj) l 0),[]⟩):=
 g0 (sc (wK n hA) sn) ⟨[(2,fun S0=>⟨Nat,fun k=>k<=l.length/\bd (allS aj) (l.drop k) k=bd (allS aj) l 0,fun k=>[(8,.int .i64 k)],fun _=>[],fun k=>l.length - k⟩)],[],[]⟩ func267 (zc n l hl ho)
theorem wL (n:Nat) (hA:ag prog 126 (p1 (.st .shape) fun s=>⟨some (sz s<=n),none,.bool (allS aj s),[]⟩)):ag prog 267 (pf (.lst (.st .shape)) 194 fun l=>⟨some (∀x∈l,sz x<=n),none,.int .i64 (bd (allS aj) l 0),[]⟩):=
 kz zL fun l hl ho=>r6 n l hl (ho _ rfl) hA
theorem zM:an prog 193:=ee func193
theorem r8 (n:Nat) (l:List AL.Shape) (hl:Wf (.lst (.st .shape)) l) (ho:∀x∈l,sz x<=n) (hA:ag prog 126 (p1 (.st .shape) fun s=>⟨some (sz s<=n),none,.bool (allS aj s),[]⟩)):aw prog 193 [.lst (.st .shape) l none,.fn 194 []] [] (⟨some (∀x∈l,sz x<=n),none,.bool (!l.all (allS aj)),[]⟩):=
 g0 (sc (wL n hA) sn) a0 func193 (zd n l hl ho)
theorem wM (n:Nat) (hA:ag prog 126 (p1 (.st .shape) fun s=>⟨some (sz s<=n),none,.bool (allS aj s),[]⟩)):ag prog 193 (pf (.lst (.st .shape)) 194 fun l=>⟨some (∀x∈l,sz x<=n),none,.bool (!l.all (allS aj)),[]⟩):=
 kz zM fun l hl ho=>r8 n l hl (ho _ rfl) hA
theorem wN:an prog 126:=ee func126
theorem wO (n:Nat) (s:AL.Shape) (ho:sz s<=n+1) (hE:ag prog 193 (pf (.lst (.st .shape)) 194 fun l=>⟨some (∀x∈l,sz x<=n),none,.bool (!l.all (allS aj)),[]⟩)):aw prog 126 [.st .shape s] [] (⟨some (sz s<=n+1),none,.bool (allS aj s),[]⟩):=
 g0 (sc (hE) sn) a0 func126 (F1 n s ho)
theorem rX:∀n:Nat,ag prog 126 (p1 (.st .shape) fun s=>⟨some (sz s<=n),none,.bool (allS aj s),[]⟩)
 | 0=>ax wN fun s _ ho=>absurd (dP s) (by have:=ho _ rfl;omega)
 | n+1=>ax wN fun s _ ho=>wO n s (ho _ rfl) (wM n (rX n))
theorem zN:ag prog 60 (p1 (.lst .str) fun l=>⟨some (l.length *16<=140737488355328),none,.bool (decide l.Nodup),[]⟩):=
 ax (ee func60) fun l _ ho=>g0 (sc lq (sc (iZ) (sc (gL) sn))) a0 func60 (Cp l (ho _ rfl))
theorem CR:ag prog 58 (p1 (.st .decl) fun d=>⟨some (cb d=true),none,.bool (bG d),[]⟩):=
 ax (ee func58) fun d _ ho=>g0 (sc iA (sc gD (sc mY (sc (rX 400) (sc lu sn))))) ⟨[],[],[(1,fun S0=>⟨[(3,.bool (noS d.shape))],[]⟩),(3,fun S0=>⟨[(5,.bool (noT d.term))],[]⟩)]⟩ func58 (F2 d (ho _ rfl))
theorem lx:ag prog 15 (p1 (.st .modu) fun m=>⟨some (m.decls.all cb=true/\m.decls.length<=1000000),none,.int .i64 (bz m),[]⟩):=
 ax (ee func15) fun m hm ho=>g0 (sc gD (sc iA (sc lv (sc qw (sc qx (sc CR (sc zN sn))))))) ⟨[(5,fun S0=>⟨Nat,fun k=>k<=m.imports.length/\m.imports.all fD=(m.imports.drop k).all fD,fun k=>[(3,.lst .str (m.name ::(m.imports.take k).map (·.name)) (some 34)),(38,.int .i64 k)],fun k=>[(34,.tail .str (m.name ::(m.imports.take k).map (·.name)).length)],fun k=>m.imports.length - k⟩),(13,fun S0=>⟨Nat,fun k=>k<=m.decls.length/\m.decls.all fx=(m.decls.drop k).all fx,fun k=>[(6,.lst .str (dt++(m.decls.take k).map (·.name)) (some 77)),(81,.int .i64 k)],fun k=>[(77,.tail .str (dt++(m.decls.take k).map (·.name)).length)],fun k=>m.decls.length - k⟩),(20,fun S0=>⟨Nat,fun k=>k<=m.exports.length/\m.exports.all eG=(m.exports.drop k).all eG,fun k=>[(102,.int .i64 k)],fun _=>[],fun k=>m.exports.length - k⟩)],[],[]⟩ func15 (Cq m hm (ho _ rfl))
theorem wP:ag prog 114 (p2 .str (.lst .str) fun s l=>.ret (.bool (decide (s∈l)))):=
 bX (ee func114) fun s l _ hl _=>g0 sn ⟨[(2,fun S0=>⟨Nat,fun k=>k<=l.length/\decide (s∈l)=decide (s∈l.drop k),fun k=>[(5,.int .i64 k)],fun _=>[],fun k=>l.length - k⟩)],[],[]⟩ func114 (ze s l hl)
theorem nO:an prog 140:=ee func140
theorem qy (n:Nat) (s:AL.Shape) (hs:Wf (.st .shape) s) (hn:sz s<=n+1) (hA:ag prog 140 (p1 (.st .shape) fun s=>⟨some (sz s<=n),none,.bool (!allS aj s),[]⟩)):aw prog 140 [.st .shape s] [] (.ret (.bool (!allS aj s))):=
 g0 (sc (hA) sn) ⟨[(2,fun S0=>⟨Nat,fun k=>k<=s.parts.length/\allS aj s=(aj s && allL aj (s.parts.drop k)),fun k=>[(3,.int .i64 k)],fun _=>[],fun k=>s.parts.length - k⟩)],[],[]⟩ func140 (vY n s hs hn)
theorem mj:∀n:Nat,ag prog 140 (p1 (.st .shape) fun s=>⟨some (sz s<=n),none,.bool (!allS aj s),[]⟩)
 | 0=>ax nO fun s _ ho=>absurd (dP s) (by have:=ho _ rfl;omega)
 | n+1=>ax nO fun s hs ho=>qy n s hs (ho _ rfl) (mj n)
theorem wQ:ag prog 67 (p1 (.lst .str) fun l=>.ret (.bool (decide l.Nodup))):=
 ax (ee func67) fun l hl _=>g0 (sc wP sn) ⟨[(2,fun S0=>⟨Nat,fun k=>k<=l.length/\(l.take k).Nodup,fun k=>[(3,.int .i64 k)],fun _=>[],fun k=>l.length - k⟩)],[],[]⟩ func67 (zf l hl)
theorem zO:ag prog 65 (p1 (.st .decl) fun d=>⟨some (cb d=true),none,.bool (bG d),[]⟩):=
 ax (ee func65) fun d hd ho=>g0 (sc gd (sc j9 (sc zF (sc qk (sc (lr (sz d.shape)) (sc (qt (szT d.term)) (sc (mj 400) sn))))))) a0 func65 (Cr d hd (ho _ rfl))
theorem nP:ag prog 16 (p1 (.st .modu) fun m=>⟨some (m.decls.all cb=true/\m.decls.length<=1000000),none,.int .i64 (bz m),[]⟩):=
 ax (ee func16) fun m hm ho=>g0 (sc gd (sc j9 (sc nM (sc wI (sc wJ (sc zO (sc wQ sn))))))) ⟨[(5,fun S0=>⟨Nat,fun k=>k<=m.imports.length/\m.imports.all fD=(m.imports.drop k).all fD,fun k=>[(3,.lst .str (m.name ::(m.imports.take k).map (·.name)) (some 32)),(4,.int .i64 k)],fun k=>[(32,.tail .str (m.name ::(m.imports.take k).map (·.name)).length)],fun k=>m.imports.length - k⟩),(13,fun S0=>⟨Nat,fun k=>k<=m.decls.length/\m.decls.all fx=(m.decls.drop k).all fx,fun k=>[(6,.lst .str (dt++(m.decls.take k).map (·.name)) (some 79)),(7,.int .i64 k)],fun k=>[(79,.tail .str (dt++(m.decls.take k).map (·.name)).length)],fun k=>m.decls.length - k⟩),(19,fun S0=>⟨Nat,fun k=>k<=m.exports.length/\m.exports.all eG=(m.exports.drop k).all eG,fun k=>[(8,.int .i64 k)],fun _=>[],fun k=>m.exports.length - k⟩)],[],[]⟩ func16 (zg m hm (ho _ rfl))
theorem qz:an prog 70:=ee func70
theorem rf (n:Nat) (s:AL.Shape) (hs:Wf (.st .shape) s) (ho:sz s<=n+1/\sz s<=1000000000/\allS iw s=true) (hA:ag prog 70 (p1 (.st .shape) fun s=>⟨some (sz s<=n/\sz s<=1000000000/\allS iw s=true),none,.st .shape s,[]⟩)):aw prog 70 [.st .shape s] [] (⟨some (sz s<=n+1/\sz s<=1000000000/\allS iw s=true),none,.st .shape s,[]⟩):=
 g0 (sc (kh) (sc (hA) sn)) ⟨[(4,fun S0=>⟨Nat,fun k=>k<=s.parts.length,fun k=>[(3,.lst (.st .shape) (s.parts.take k) (some 701)),(13,.int .i64 k)],fun k=>[(701,.tail (.st .shape) (s.parts.take k).length)],fun k=>s.parts.length - k⟩)],[],[]⟩ func70 (zh n s hs ho)
theorem nQ:∀n:Nat,ag prog 70 (p1 (.st .shape) fun s=>⟨some (sz s<=n/\sz s<=1000000000/\allS iw s=true),none,.st .shape s,[]⟩)
 | 0=>ax qz fun s _ ho=>absurd (dP s) (by have:=(ho _ rfl).1;omega)
 | n+1=>ax qz fun s hs ho=>rf n s hs (ho _ rfl) (nQ n)
theorem wR:ag prog 69 (p1 (.lst (.st .bound)) fun l=>⟨some (l.length *48<=140737488355328),none,.lst (.st .bound) l none,[]⟩):=
 ax (ee func69) fun l hl ho=>g0 sn a0 func69 (zi l hl (ho _ rfl))
theorem wS:an prog 72:=ee func72
theorem wT (n:Nat) (t:Trm) (ht:Wf (.st .term) t) (ho:szT t<=n+1/\cD t=true) (hA:ag prog 72 (p1 (.st .term) fun t=>⟨some (szT t<=n/\cD t=true),none,.st .term (bareT t),[]⟩)):aw prog 72 [.st .term t] [] (⟨some (szT t<=n+1/\cD t=true),none,.st .term (bareT t),[]⟩):=
 g0 (sc (hA) sn) ⟨[(5,fun S0=>⟨Nat,fun k=>k<=t.parts.length,fun k=>[(4,.int .i64 k)],fun k=>[(3,.box (.agg [.int .i64 t.kind,.str t.pkg,.str t.name,.int .i64 t.n,.lst .str t.names none,.lst .str t.vars none,.lst (.st .shape) t.shapes none,.lst (.st .term) ((t.parts.take k).map bareT) (some 701),.int .i64 0])),(701,.tail (.st .term) ((t.parts.take k).map bareT).length)],fun k=>t.parts.length - k⟩)],[],[]⟩ func72 (F3 n t ht ho)
theorem rY:∀n:Nat,ag prog 72 (p1 (.st .term) fun t=>⟨some (szT t<=n/\cD t=true),none,.st .term (bareT t),[]⟩)
 | 0=>ax wS fun t _ ho=>absurd (dh t) (by have:=(ho _ rfl).1;omega)
 | n+1=>ax wS fun t ht ho=>wT n t ht (ho _ rfl) (rY n)
theorem CS:ag prog 71 (p1 (.st .term) fun t=>⟨some (bD t=0/\cD t=true/\bT t=true),none,.st .term (bareT t),[]⟩):=
 ax (ee func71) fun t ht ho=>g0 (sc lu (sc (wD (szT t)) sn)) a0 func71 (F4 t ht (ho _ rfl))
theorem CT:ag prog 17 (p1 (.st .modu) fun m=>⟨some (m.decls.all cb=true/\m.decls.length<=1000000/\m.imports.all (fun x=>decide (x.range.length<=1000000))=true),none,.st .modu (jf m),[]⟩):=
 ax (ee func17) fun m hm ho=>g1 nn (fun _=>[]) nn nn (fun d=>Nat.beq d 16) (sc lx (sc (kh) (sc wR (sc (nQ 400) (sc CS sn))))) ⟨[(5,fun S0=>⟨Nat,fun k=>k<=m.imports.length,fun k=>[(21,.int .i64 k)],fun k=>[(3,.box (.agg [.str m.name,.lst (.st .imp) ((m.imports.take k).map bL) (some 701),.nils,.lst .str m.exports none,.int .i64 0])),(701,.tail (.st .imp) ((m.imports.take k).map bL).length)],fun k=>m.imports.length - k⟩),(11,fun S0=>⟨Nat,fun k=>k<=m.decls.length,fun k=>[(40,.int .i64 k)],fun k=>[(3,.box (.agg [.str m.name,.lst (.st .imp) (m.imports.map bL) (some 701),.lst (.st .decl) ((m.decls.take k).map bq) (some 702),.lst .str m.exports none,.int .i64 0])),(702,.tail (.st .decl) ((m.decls.take k).map bq).length)],fun k=>m.decls.length - k⟩)],[],[(13,fun S0=>⟨[],[(7,.box (.st .decl (l7 (m.decls.getD ((asInt .i64 (aS S0.t 40)).getD 0).toNat (dfl (.st .decl))))))]⟩),(15,fun S0=>⟨[],[(7,.box (.st .decl (bq (m.decls.getD ((asInt .i64 (aS S0.t 40)).getD 0).toNat (dfl (.st .decl))))))]⟩)]⟩ func17 (F5 m hm (ho _ rfl))
theorem zP:ag prog 18 (p1 (.st .modu) fun m=>⟨some (m.decls.all cb=true/\m.decls.length<=1000000/\m.imports.all (fun x=>decide (x.range.length<=1000000))=true),none,.st .modu (jf m),[]⟩):=
 ax (ee func18) fun m hm ho=>g0 (sc nP (sc (rY 1000000000) sn)) ⟨[(5,fun S0=>⟨Nat,fun k=>k<=m.imports.length,fun k=>[(4,.int .i64 k)],fun k=>[(3,.box (.agg [.str m.name,.lst (.st .imp) ((m.imports.take k).map bL) (some 701),.nils,.lst .str m.exports none,.int .i64 0])),(701,.tail (.st .imp) ((m.imports.take k).map bL).length)],fun k=>m.imports.length - k⟩),(11,fun S0=>⟨Nat,fun k=>k<=m.decls.length,fun k=>[(6,.int .i64 k)],fun k=>[(3,.box (.agg [.str m.name,.lst (.st .imp) (m.imports.map bL) (some 701),.lst (.st .decl) ((m.decls.take k).map bq) (some 702),.lst .str m.exports none,.int .i64 0])),(702,.tail (.st .decl) ((m.decls.take k).map bq).length)],fun k=>m.decls.length - k⟩)],[],[(14,fun S0=>⟨[],[(7,.box (.st .decl (l7 (m.decls.getD ((asInt .i64 (aS S0.t 6)).getD 0).toNat (dfl (.st .decl))))))]⟩),(15,fun S0=>⟨[],[(7,.box (.st .decl (bq (m.decls.getD ((asInt .i64 (aS S0.t 6)).getD 0).toNat (dfl (.st .decl))))))]⟩)]⟩ func18 (Cs m hm (ho _ rfl))
theorem wU:ag prog 12 (p2 (.st .modu) (.st .modu) fun a b=>⟨some (a=b/\a.decls.all BL=true),none,.bool true,[]⟩):=
 bX (ee func12) fun a b ha _ ho=>g0 (sc zJ (sc (lr 400) (sc (qt 4096) sn))) ⟨[(4,fun S0=>⟨Nat,fun k=>k<=a.imports.length,fun k=>[(5,.int .i64 k)],fun _=>[],fun k=>a.imports.length - k⟩),(10,fun S0=>⟨Nat,fun k=>k<=a.decls.length,fun k=>[(8,.int .i64 k)],fun _=>[],fun k=>a.decls.length - k⟩),(16,fun S0=>⟨Nat,fun k=>k<=a.exports.length,fun k=>[(11,.int .i64 k)],fun _=>[],fun k=>a.exports.length - k⟩)],[],[]⟩ func12 (zj a b ha (ho _ rfl))
theorem wV:ag prog 14 (p1 (.st .modu) fun m=>.ret (.bool (gR m))):=
 ax (ee func14) fun m hm _=>g0 sn ⟨[(4,fun S0=>⟨Nat,fun k=>k<=m.imports.length/\m.imports.all fc=(m.imports.drop k).all fc,fun k=>[(3,.int .i64 k)],fun _=>[],fun k=>m.imports.length - k⟩),(9,fun S0=>D8 S0 3 fun k0=>⟨Nat,fun j=>j<=(m.imports.getD k0.toNat (dfl (.st .imp))).range.length/\((m.imports.getD k0.toNat (dfl (.st .imp))).range.all fun b=>decide (b.v.pre.length<=100))=(((m.imports.getD k0.toNat (dfl (.st .imp))).range.drop j).all fun b=>decide (b.v.pre.length<=100)),fun j=>[(4,.int .i64 j)],fun _=>[],fun j=>(m.imports.getD k0.toNat (dfl (.st .imp))).range.length - j⟩)],[],[]⟩ func14 (zk m hm)
theorem jU (m:Modu) (hm:Wf (.st .modu) m) (hs:m.decls.all cb=true) (hW:ag prog 13 (p0 (.ret (.bool true)))):aw prog 4 [.st .modu m] [] (.ret (.bool true)):=
 g0 (sc wV (sc (hW) (sc lx (sc nP (sc CT (sc zP (sc wU sn))))))) a0 func4 (mg m hm hs)
end Go.AL.Seat
end
noncomputable section
namespace Go.AL.Seat
open Go Go.AL Go.Proofs Go.Shelf Go.Pd
variable [Tabs]
def Hq (t:Str):Bool:=!t.isEmpty && decide (t.length<=15) && t.all fun c=>decide (48<=c.toNat) && decide (c.toNat<=57)
theorem Gs {t:Str} (h:Hq t=true):lU t:=by
 unfold Hq at h
 simp only [Bool.and_eq_true,Bool.not_eq_true',decide_eq_true_eq,List.all_eq_true] at h
 exact ⟨fun e=>(by rw [e] at h;exact absurd h.1.1 (by decide)),h.1.2,h.2⟩
def Ff:List AV→List (Nat × SObj)→Bool
 | [_,.str s],[(_,.bld _ _ l)]=>decide (l.length+s.length<=140737488355328)
 | _,_=>false
def Gt:List AV→List (Nat × SObj)→Bool
 | _,[(_,.bld _ _ l)]=>decide (l.length<=b8)
 | _,_=>false
def rO (sep:Str) (l:List Str):Bool:=decide (l.length<=140737488355328) && decide ((joinG sep l).length<=140737488355328)
def AM:List AV→List (Nat × SObj)→Bool
 | [a,.str sep],[]=>(match arg (.lst .str) a with | some l=>rO sep l | none=>false)
 | [.arr _ n _,.str sep],[(_,.box (.row .str l))]=>decide (n=l.length) && rO sep l
 | _,_=>false
theorem CU {f t u:Nat} (h:ag Tryz.prog f (gw t u)):ag Tryz.prog f (tested Ff (gw t u)):=by
 refine h.tested fun args S A q hb hg ho=>?_
 unfold gw at hg
 split at hg
 ·split at hg
  ·cases hg;cases ho
   exact Xo hb
  ·cases hg
 ·cases hg
theorem zQ {f t u:Nat} (h:ag Tryz.prog f (eZ t u)):ag Tryz.prog f (tested Gt (eZ t u)):=by
 refine h.tested fun args S A q hb hg ho=>?_
 unfold eZ at hg
 split at hg
 ·split at hg
  ·cases hg;cases ho
   exact Xo hb
  ·cases hg
 ·cases hg
theorem Gu {f t u:Nat} (h:ag Tryz.prog f (kZ t u)):ag Tryz.prog f (tested Gt (kZ t u)):=by
 refine h.tested fun args S A q hb hg ho=>?_
 unfold kZ at hg
 split at hg
 ·split at hg
  ·cases hg;cases ho
   exact Xo hb
  ·cases hg
 ·cases hg
theorem Fg {f:Nat} (h:ag Tryz.prog f iY):ag Tryz.prog f (tested AM iY):=by
 refine h.tested fun args S A q hb hg ho=>?_
 unfold iY at hg
 split at hg
 ·split at hg
  ·rename_i l hx
   cases hg;cases ho
   simp only [AM,hx] at hb
   rw [rO,Bool.and_eq_true] at hb
   exact ⟨Xo hb.1,Xo hb.2⟩
  ·cases hg
 ·cases hg;cases ho
  simp only [AM] at hb
  rw [rO,Bool.and_eq_true,Bool.and_eq_true] at hb
  exact ⟨Xo hb.1,Xo hb.2.1,Xo hb.2.2⟩
 ·cases hg
def Fh:List (Nat × Pat):=
 [(218,p1 .str fun s=>.ret (.tup [.int .i32 ((iX s).1:Int),.int .i64 ((iX s).2:Int)])),
  (228,p2 .str (.int .u8) fun a c=>.ret (.int .i64 (DC a c))),
  (161,q2 .str .str (fun _ b=>decide (b=nY)) fun a _=>.str (kG a)),
  (226,q2 .str .str (fun a b=>decide (b=[45]) && decide (a.length < 4294967281)) fun a _=>.tup [.str (gO a),.str (kW a),.bool (mL a)]),
  (121,q2 .str .str (fun a b=>decide (b=[46]) && decide (a.length < 4294967281)) fun a _=>.lst .str (splitB 46 a) none),
  (230,q2 .str .str (fun _ b=>decide (b.length=1)) fun a b=>.bool (decide (b.getD 0 0∈a))),
  (227,q1 .str Hq fun t=>.tup [.int .i64 (kE t),.nilif]),
  (129,tested AF (dN 199)),
  (131,tested vG dO),
  (74,tested Ff (gw 117 5)),(81,tested Gt (eZ 117 5)),(80,tested Gt (kZ 117 5)),(75,tested AM iY),
  (145,q1 (.int .i64) (fun n=>decide ((Lib.itoa n).length<=1000)) fun n=>.str (Lib.itoa n)),
  (54,p1 .str fun s=>.ret (.bool (al s))),(59,p1 .str fun s=>.ret (.bool (bB s))),
  (125,p1 (.st .shape) fun s=>.ret (.int .i64 (bj s))),
  (127,q1 (.st .term) bT fun t=>.int .i64 (bD t)),
  (55,p1 (.st .version) fun v=>.ret (.int .i64 (bf v))),
  (56,p1 (.lst (.st .bound)) fun l=>.ret (.int .i64 (fB l))),
  (57,q2 (.st .version) (.lst (.st .bound)) (fun v l=>decide (v.pre.length<=4096) && l.all fun b=>decide (b.v.pre.length<=4096)) fun v l=>.bool (bn v l)),
  (15,q1 (.st .modu) (fun m=>m.decls.all cb && decide (m.decls.length<=1000000)) fun m=>.int .i64 (bz m))]
theorem ml [SeatLaid] [SeatPow]:bH Tryz.prog (fH Fh):=
 sc pR (sc qT (sc (vE vd fun _ _ h=>Xo h)
  (sc (vE FV fun _ _ h=>by rw [Bool.and_eq_true] at h;exact ⟨Xo h.1,Xo h.2⟩)
  (sc (vE mR fun _ _ h=>by rw [Bool.and_eq_true] at h;exact ⟨Xo h.1,Xo h.2⟩)
  (sc (vE te fun _ _ h=>Xo h) (sc (vD DK fun _ h=>Gs h)
  (sc (yJ iZ) (sc (vH gL)
  (sc (CU BB) (sc (zQ yg) (sc (Gu FU) (sc (Fg DW)
  (sc (vD DX fun _ h=>Xo h)
  (sc gD (sc iA (sc mY (sc (vD lu fun _ h=>h) (sc lv (sc qw
  (sc (vE qx fun _ _ h=>by rw [Bool.and_eq_true,List.all_eq_true] at h;exact ⟨Xo h.1,fun b hb=>Xo (h.2 b hb)⟩)
  (sc (vD lx fun _ h=>by rw [Bool.and_eq_true] at h;exact ⟨h.1,Xo h.2⟩) sn)))))))))))))))))))))
end Go.AL.Seat
end
noncomputable section
namespace Go.AL.Seat
open Go Go.AL Go.Proofs
variable [Tabs]
def ba:List (Nat × TR):=[(3,r2),(9,r9),(44,⟨.strct false [(0,3),(1,9),(2,9),(3,3),(4,24),(5,24),(6,41),(7,42),(8,3)],9,152,[.int .i64 0,.str [],.str [],.int .i64 0,.nils,.nils,.nils,.nils,.int .i64 0],some (.st .term)⟩),(24,⟨.slice 9,1,24,[.nils],some (.lst .str)⟩),(81,⟨.strct true [(0,3),(1,9),(2,3)],3,32,[.int .i64 0,.str [],.int .i64 0],some (.st .token)⟩),(228,⟨.strct false [(0,226)],4,48,[.nils,.int .i64 0,.int .i64 0,.int .i64 0],some (.st .par)⟩),(223,⟨.ptr 228,1,8,[.nilp],none⟩),(46,⟨.strct false [(0,3),(1,9),(2,9),(3,24),(4,41)],5,88,[.int .i64 0,.str [],.str [],.nils,.nils],some (.st .shape)⟩),(29,⟨.strct true [(0,27),(1,3)],2,16,[.int .i64 0,.int .i64 0],some (.st .fault)⟩),(78,r77),(5,r5),(88,⟨.strct true [(0,3),(1,3),(2,3),(3,9)],4,40,[.int .i64 0,.int .i64 0,.int .i64 0,.str []],some (.st .version)⟩),(42,⟨.slice 44,1,24,[.nils],some (.lst (.st .term))⟩),(41,⟨.slice 46,1,24,[.nils],some (.lst (.st .shape))⟩),(27,r2),(159,G8),(157,G7),(226,⟨.strct false [(0,71),(1,3),(2,29)],4,48,[.nils,.int .i64 0,.int .i64 0,.int .i64 0],some (.st .par)⟩),(71,⟨.slice 81,1,24,[.nils],some (.lst (.st .token))⟩),(26,⟨.strct false [(0,9),(1,22),(2,23),(3,24),(4,3)],5,96,[.str [],.nils,.nils,.nils,.int .i64 0],some (.st .modu)⟩),(4,⟨.bool,1,1,[.bool false],some .bool⟩),(48,⟨.strct false [(0,3),(1,9),(2,46),(7,44),(16,3)],17,272,[.int .i64 0,.str [],.int .i64 0,.str [],.str [],.nils,.nils,.int .i64 0,.str [],.str [],.int .i64 0,.nils,.nils,.nils,.nils,.int .i64 0,.int .i64 0],some (.st .decl)⟩),(91,⟨.strct false [(0,9),(1,88),(5,89),(6,3)],7,88,[.str [],.int .i64 0,.int .i64 0,.int .i64 0,.str [],.nils,.int .i64 0],some (.st .imp)⟩),(155,⟨.ptr 159,1,8,[.nilp],none⟩),(76,r75),(89,⟨.slice 102,1,24,[.nils],some (.lst (.st .bound))⟩),(166,⟨.slice 3,1,24,[.nils],some (.lst (.int .i64))⟩),(22,⟨.slice 91,1,24,[.nils],some (.lst (.st .imp))⟩),(1,r1),(102,⟨.strct true [(0,3),(1,88)],5,48,[.int .i64 0,.int .i64 0,.int .i64 0,.int .i64 0,.str []],some (.st .bound)⟩),(23,⟨.slice 48,1,24,[.nils],some (.lst (.st .decl))⟩),(115,⟨.slice 5,1,24,[.nils],some (.lst (.int .u8))⟩),(222,⟨.map 9 3,1,8,[.nilm],none⟩),(79,r1),(267,⟨.arr 3 3,3,24,[.int .i64 0,.int .i64 0,.int .i64 0],none⟩),(21,r21),(117,G6),(225,r75),(227,⟨.strct false [(0,226)],4,48,[.nils,.int .i64 0,.int .i64 0,.int .i64 0],none⟩),(101,⟨.strct true [(0,3),(1,88)],5,48,[.int .i64 0,.int .i64 0,.int .i64 0,.int .i64 0,.str []],none⟩),(158,G8),(156,G7),(45,⟨.strct false [(0,3),(1,9),(2,9),(3,24),(4,41)],5,88,[.int .i64 0,.str [],.str [],.nils,.nils],none⟩),(43,⟨.strct false [(0,3),(1,9),(2,9),(3,3),(4,24),(5,24),(6,41),(7,42),(8,3)],9,152,[.int .i64 0,.str [],.str [],.int .i64 0,.nils,.nils,.nils,.nils,.int .i64 0],none⟩),(47,⟨.strct false [(0,3),(1,9),(2,46),(7,44),(16,3)],17,272,[.int .i64 0,.str [],.int .i64 0,.str [],.str [],.nils,.nils,.int .i64 0,.str [],.str [],.int .i64 0,.nils,.nils,.nils,.nils,.int .i64 0,.int .i64 0],none⟩),(87,⟨.strct true [(0,3),(1,3),(2,3),(3,9)],4,40,[.int .i64 0,.int .i64 0,.int .i64 0,.str []],none⟩),(90,⟨.strct false [(0,9),(1,88),(5,89),(6,3)],7,88,[.str [],.int .i64 0,.int .i64 0,.int .i64 0,.str [],.nils,.int .i64 0],none⟩),(116,G6),(114,⟨.ptr 117,1,8,[.nilp],none⟩),(80,⟨.strct true [(0,3),(1,9),(2,3)],3,32,[.int .i64 0,.str [],.int .i64 0],none⟩),(77,r77),(75,r75),(28,⟨.strct true [(0,27),(1,3)],2,16,[.int .i64 0,.int .i64 0],none⟩),(25,⟨.strct false [(0,9),(1,22),(2,23),(3,24),(4,3)],5,96,[.str [],.nils,.nils,.nils,.int .i64 0],none⟩)]
theorem oB:aT Tryz.prog ba:=.cons tk (.cons tk (.cons tk (.cons tk (.cons tk (.cons tk (.cons tk (.cons tk (.cons tk (.cons tk (.cons tk (.cons tk (.cons tk (.cons tk (.cons tk (.cons tk (.cons tk (.cons tk (.cons tk (.cons tk (.cons tk (.cons tk (.cons tk (.cons tk (.cons tk (.cons tk (.cons tk (.cons tk (.cons tk (.cons tk (.cons tk (.cons tk (.cons tk (.cons tk (.cons tk (.cons tk (.cons tk (.cons tk (.cons tk (.cons tk (.cons tk (.cons tk (.cons tk (.cons tk (.cons tk (.cons tk (.cons tk (.cons tk (.cons tk (.cons tk (.cons tk (.cons tk (.cons tk (.cons tk (.nil))))))))))))))))))))))))))))))))))))))))))))))))))))))
end Go.AL.Seat
end
noncomputable section
namespace Go.AL.Seat
open Go Go.AL Go.Proofs
set_option maxRecDepth 1000000
variable [Tabs]
def GI (f:Nat):List (Option Nat):=if Nat.beq f 98 || Nat.beq f 99 then [some 2] else if Nat.beq f 36 || (Nat.beq f 37 || (Nat.beq f 41 || (Nat.beq f 42 || (Nat.beq f 43 || Nat.beq f 103)))) then [some 4] else []
def GJ (f:Nat):Bool:=false
def zR:List (Nat × FB):=(10,b6 ba Tryz.f10 288511851128455421 [] (fun _=>false) (fun _=>false) (fun _=>false) false) ::(19,b6 ba Tryz.f19 81129643250466181018244365077375 [] (fun _=>false) (fun _=>false) (fun _=>false) false) ::(35,b6 ba Tryz.f35 77975715369647181664879229 [] (fun _=>false) (fun _=>false) (fun _=>false) false) ::(36,b6 ba Tryz.f36 259 [] (fun _=>false) (fun _=>false) (fun _=>false) false) ::(37,b6 ba Tryz.f37 65587 [] (fun _=>false) (fun _=>false) (fun _=>false) false) ::(38,b6 ba Tryz.f38 19380592045697041145266237 [] (fun _=>false) (fun _=>false) (fun _=>false) false) ::(39,b6 ba Tryz.f39 38685626517024445242019965 [] (fun _=>false) (fun _=>false) (fun _=>false) false) ::(40,b6 ba Tryz.f40 1180591655902890688517 [] (fun _=>false) (fun _=>false) (fun _=>false) false) ::(41,b6 ba Tryz.f41 5 [] (fun _=>false) (fun _=>false) (fun _=>false) false) ::(42,b6 ba Tryz.f42 263 [] (fun _=>false) (fun _=>false) (fun _=>false) false) ::(43,b6 ba Tryz.f43 5 [] (fun _=>false) (fun _=>false) (fun _=>false) false) ::(73,b6 ba Tryz.f73 3 [] (fun _=>false) (fun _=>false) (fun _=>false) false) ::(76,b6 ba Tryz.f76 67109439 [] (fun _=>false) (fun _=>false) (fun d=>Nat.beq d 13 || Nat.beq d 17 || Nat.beq d 22) false) ::(77,b6 ba Tryz.f77 4071869 [] (fun _=>false) (fun _=>false) (fun _=>false) false) ::(78,b6 ba Tryz.f78 287 [] (fun _=>false) (fun _=>false) (fun _=>false) false) ::(79,b6 ba Tryz.f79 287 [] (fun _=>false) (fun _=>false) (fun _=>false) false) ::(98,b6 ba Tryz.f98 65555 [] (fun _=>false) (fun _=>false) (fun _=>false) false) ::(99,b6 ba Tryz.f99 4294967347 [] (fun _=>false) (fun _=>false) (fun _=>false) false) ::(100,b6 ba Tryz.f100 5 [] (fun _=>false) (fun _=>false) (fun _=>false) false) ::(101,b6 ba Tryz.f101 8388935 [] (fun _=>false) (fun _=>false) (fun _=>false) false) ::(102,b6 ba Tryz.f102 87112288527988523651034566703108870643455 [] (fun _=>false) (fun _=>false) (fun d=>Nat.beq d 21) false) ::(103,b6 ba Tryz.f103 67108915 [] (fun _=>false) (fun _=>false) (fun _=>false) false) ::(104,b6 ba Tryz.f104 19 [] (fun _=>false) (fun _=>false) (fun _=>false) false) ::(105,b6 ba Tryz.f105 8388807 [] (fun _=>false) (fun _=>false) (fun _=>false) false) ::(106,b6 ba Tryz.f106 13 [] (fun _=>false) (fun _=>false) (fun _=>false) false) ::(107,b6 ba Tryz.f107 2361185498182472704253 [] (fun _=>false) (fun _=>false) (fun _=>false) false) ::(108,b6 ba Tryz.f108 9016029707634675 [] (fun _=>false) (fun _=>false) (fun _=>false) false) ::(109,b6 ba Tryz.f109 134250995 [] (fun _=>false) (fun _=>false) (fun _=>false) false) ::(123,b6 ba Tryz.f123 5469 [] (fun _=>false) (fun _=>false) (fun _=>false) false) ::(146,b6 ba Tryz.f146 10142442744226592204801291486263 [] (fun _=>false) (fun _=>false) (fun _=>false) false) ::(147,b6 ba Tryz.f147 4835722017983501592174335 [] (fun _=>false) (fun _=>false) (fun _=>false) false) ::(155,b6 ba Tryz.f155 549890048253 [] (fun _=>false) (fun _=>false) (fun _=>false) false) ::(156,b6 ba Tryz.f156 71 [] (fun _=>false) (fun _=>false) (fun _=>false) false) ::(157,b6 ba Tryz.f157 79 [] (fun _=>false) (fun _=>false) (fun _=>false) false) ::(119,b6 ba Tryz.f119 5 [] (fun _=>false) (fun _=>false) (fun _=>false) false) ::(128,b6 ba Tryz.f128 5 [] (fun _=>false) (fun _=>false) (fun _=>false) false) ::(158,b6 ba Tryz.f158 5 [] (fun _=>false) (fun _=>false) (fun _=>false) false) ::(120,b6 ba Tryz.f120 29 [] (fun _=>false) (fun _=>false) (fun _=>false) false) ::(159,b6 ba Tryz.f159 5 [] (fun _=>false) (fun _=>false) (fun _=>false) false) ::(160,b6 ba Tryz.f160 5 [] (fun _=>false) (fun _=>false) (fun _=>false) false) ::(162,b6 ba Tryz.f162 151115799509488183025661 [] (fun _=>false) (fun _=>false) (fun _=>false) false) ::(163,b6 ba Tryz.f163 618970019647202533975261693 [] (fun _=>false) (fun _=>false) (fun _=>false) false) ::(164,b6 ba Tryz.f164 29 [] (fun _=>false) (fun _=>false) (fun _=>false) false) ::(165,b6 ba Tryz.f165 19 [] (fun _=>false) (fun _=>false) (fun _=>false) false) ::(166,b6 ba Tryz.f166 66483 [] (fun _=>false) (fun _=>false) (fun _=>false) false) ::(167,b6 ba Tryz.f167 4195343 [] (fun _=>false) (fun _=>false) (fun _=>false) false) ::(168,b6 ba Tryz.f168 33816627 [] (fun _=>false) (fun _=>false) (fun _=>false) false) ::(169,b6 ba Tryz.f169 5 [] (fun _=>false) (fun _=>false) (fun _=>false) false) ::(170,b6 ba Tryz.f170 268439557 [] (fun _=>false) (fun _=>false) (fun _=>false) false) ::(171,b6 ba Tryz.f171 81129648086015544455969055506495 [] (fun _=>false) (fun _=>false) (fun _=>false) false) ::(172,b6 ba Tryz.f172 263 [] (fun _=>false) (fun _=>false) (fun _=>false) false) ::(173,b6 ba Tryz.f173 2228285 [] (fun _=>false) (fun _=>false) (fun _=>false) false) ::(211,b6 ba Tryz.f211 9588525 [] (fun _=>false) (fun _=>false) (fun _=>false) false) ::(212,b6 ba Tryz.f212 55 [] (fun _=>false) (fun _=>false) (fun _=>false) false) ::(213,b6 ba Tryz.f213 1005 [] (fun _=>false) (fun _=>false) (fun _=>false) false) ::(214,b6 ba Tryz.f214 39266745031364704935454223568670719 [] (fun _=>false) (fun _=>false) (fun _=>false) false) ::(187,b6 ba Tryz.f187 5 [] (fun _=>false) (fun _=>false) (fun _=>false) false) ::(229,b6 ba Tryz.f229 5 [] (fun _=>false) (fun _=>false) (fun _=>false) false) ::(231,b6 ba Tryz.f231 66483 [] (fun _=>false) (fun _=>false) (fun _=>false) false) ::(232,b6 ba Tryz.f232 3 [] (fun d=>Nat.beq d 8) (fun _=>false) (fun _=>false) false) ::(233,b6 ba Tryz.f233 7 [] (fun d=>Nat.beq d 15) (fun _=>false) (fun _=>false) false) ::(235,b6 ba Tryz.f235 275 [] (fun _=>false) (fun _=>false) (fun _=>false) false) ::(234,b6 ba Tryz.f234 131 [] (fun _=>false) (fun _=>false) (fun _=>false) false) ::(237,b6 ba Tryz.f237 7 [] (fun _=>false) (fun _=>false) (fun _=>false) false) ::(236,b6 ba Tryz.f236 271375 [] (fun _=>false) (fun _=>false) (fun _=>false) false) ::(239,b6 ba Tryz.f239 32819 [] (fun _=>false) (fun _=>false) (fun _=>false) false) ::(240,b6 ba Tryz.f240 15 [] (fun _=>false) (fun _=>false) (fun _=>false) false) ::(241,b6 ba Tryz.f241 17180524607 [] (fun _=>false) (fun _=>false) (fun _=>false) false) ::(242,b6 ba Tryz.f242 324677087359430077278579446644799 [] (fun d=>Nat.beq d 129) (fun _=>false) (fun _=>false) false) ::(280,b6 ba Tryz.f280 15 [] (fun _=>false) (fun _=>false) (fun _=>false) false) ::(299,b6 ba Tryz.f299 51 [] (fun _=>false) (fun _=>false) (fun _=>false) false) ::(238,b6 ba Tryz.f238 65587 [] (fun _=>false) (fun _=>false) (fun _=>false) false) ::(300,b6 ba Tryz.f300 23945973599159813139139346461134680183357916012085311 [] (fun _=>false) (fun _=>false) (fun _=>false) false) ::(301,b6 ba Tryz.f301 3 [] (fun d=>Nat.beq d 8) (fun _=>false) (fun _=>false) false) ::(302,b6 ba Tryz.f302 7 [] (fun d=>Nat.beq d 21) (fun _=>false) (fun _=>false) false) ::(304,b6 ba Tryz.f304 149971 [] (fun _=>false) (fun _=>false) (fun _=>false) false) ::(305,b6 ba Tryz.f305 3 [] (fun d=>Nat.beq d 8) (fun _=>false) (fun _=>false) false) ::(357,b6 ba Tryz.f357 3 [] (fun d=>Nat.beq d 23) (fun _=>false) (fun _=>false) false) ::(358,b6 ba Tryz.f358 13 [] (fun _=>false) (fun _=>false) (fun _=>false) false) ::(303,b6 ba Tryz.f303 5 [] (fun _=>false) (fun _=>false) (fun _=>false) false) ::[]
theorem ki:ay Tryz.prog zR:=ay.cons Tryz.func10 (by kernel_rfl) (ay.cons Tryz.func19 (by kernel_rfl) (ay.cons Tryz.func35 (by kernel_rfl) (ay.cons Tryz.func36 (by kernel_rfl) (ay.cons Tryz.func37 (by kernel_rfl) (ay.cons Tryz.func38 (by kernel_rfl) (ay.cons Tryz.func39 (by kernel_rfl) (ay.cons Tryz.func40 (by kernel_rfl) (ay.cons Tryz.func41 (by kernel_rfl) (ay.cons Tryz.func42 (by kernel_rfl) (ay.cons Tryz.func43 (by kernel_rfl) (ay.cons Tryz.func73 (by kernel_rfl) (ay.cons Tryz.func76 (by kernel_rfl) (ay.cons Tryz.func77 (by kernel_rfl) (ay.cons Tryz.func78 (by kernel_rfl) (ay.cons Tryz.func79 (by kernel_rfl) (ay.cons Tryz.func98 (by kernel_rfl) (ay.cons Tryz.func99 (by kernel_rfl) (ay.cons Tryz.func100 (by kernel_rfl) (ay.cons Tryz.func101 (by kernel_rfl) (ay.cons Tryz.func102 (by kernel_rfl) (ay.cons Tryz.func103 (by kernel_rfl) (ay.cons Tryz.func104 (by kernel_rfl) (ay.cons Tryz.func105 (by kernel_rfl) (ay.cons Tryz.func106 (by kernel_rfl) (ay.cons Tryz.func107 (by kernel_rfl) (ay.cons Tryz.func108 (by kernel_rfl) (ay.cons Tryz.func109 (by kernel_rfl) (ay.cons Tryz.func123 (by kernel_rfl) (ay.cons Tryz.func146 (by kernel_rfl) (ay.cons Tryz.func147 (by kernel_rfl) (ay.cons Tryz.func155 (by kernel_rfl) (ay.cons Tryz.func156 (by kernel_rfl) (ay.cons Tryz.func157 (by kernel_rfl) (ay.cons Tryz.func119 (by kernel_rfl) (ay.cons Tryz.func128 (by kernel_rfl) (ay.cons Tryz.func158 (by kernel_rfl) (ay.cons Tryz.func120 (by kernel_rfl) (ay.cons Tryz.func159 (by kernel_rfl) (ay.cons Tryz.func160 (by kernel_rfl) (ay.cons Tryz.func162 (by kernel_rfl) (ay.cons Tryz.func163 (by kernel_rfl) (ay.cons Tryz.func164 (by kernel_rfl) (ay.cons Tryz.func165 (by kernel_rfl) (ay.cons Tryz.func166 (by kernel_rfl) (ay.cons Tryz.func167 (by kernel_rfl) (ay.cons Tryz.func168 (by kernel_rfl) (ay.cons Tryz.func169 (by kernel_rfl) (ay.cons Tryz.func170 (by kernel_rfl) (ay.cons Tryz.func171 (by kernel_rfl) (ay.cons Tryz.func172 (by kernel_rfl) (ay.cons Tryz.func173 (by kernel_rfl) (ay.cons Tryz.func211 (by kernel_rfl) (ay.cons Tryz.func212 (by kernel_rfl) (ay.cons Tryz.func213 (by kernel_rfl) (ay.cons Tryz.func214 (by kernel_rfl) (ay.cons Tryz.func187 (by kernel_rfl) (ay.cons Tryz.func229 (by kernel_rfl) (ay.cons Tryz.func231 (by kernel_rfl) (ay.cons Tryz.func232 (by kernel_rfl) (ay.cons Tryz.func233 (by kernel_rfl) (ay.cons Tryz.func235 (by kernel_rfl) (ay.cons Tryz.func234 (by kernel_rfl) (ay.cons Tryz.func237 (by kernel_rfl) (ay.cons Tryz.func236 (by kernel_rfl) (ay.cons Tryz.func239 (by kernel_rfl) (ay.cons Tryz.func240 (by kernel_rfl) (ay.cons Tryz.func241 (by kernel_rfl) (ay.cons Tryz.func242 (by kernel_rfl) (ay.cons Tryz.func280 (by kernel_rfl) (ay.cons Tryz.func299 (by kernel_rfl) (ay.cons Tryz.func238 (by kernel_rfl) (ay.cons Tryz.func300 (by kernel_rfl) (ay.cons Tryz.func301 (by kernel_rfl) (ay.cons Tryz.func302 (by kernel_rfl) (ay.cons Tryz.func304 (by kernel_rfl) (ay.cons Tryz.func305 (by kernel_rfl) (ay.cons Tryz.func357 (by kernel_rfl) (ay.cons Tryz.func358 (by kernel_rfl) (ay.cons Tryz.func303 (by kernel_rfl) (ay.nil))))))))))))))))))))))))))))))))))))))))))))))))))))))))))))))))))))))))))))))))
abbrev Hr:=yI ba zR GJ GI 5000 (fH Fh) 100
end Go.AL.Seat
end
noncomputable section
namespace Go.AL.Seat
open Go Go.AL Go.Proofs Go.Pd
set_option maxRecDepth 1000000
def awL:AV:=.tup [.lst (.st .token) [⟨5,[109,111,100,117,108,101],0⟩,⟨1,[112],7⟩,⟨5,[105,109,112,111,114,116],9⟩,⟨1,[113],16⟩,⟨5,[112,105,110],18⟩,⟨7,[49,46,50,46,51],22⟩,⟨5,[114,97,110,103,101],28⟩,⟨6,[94],34⟩,⟨7,[49,46,48,46,48],35⟩,⟨5,[116,121,112,101],41⟩,⟨2,[65],46⟩,⟨6,[61],48⟩,⟨6,[123],50⟩,⟨1,[97],51⟩,⟨6,[58],52⟩,⟨2,[73,110,116],54⟩,⟨6,[125],57⟩,⟨5,[108,101,116],59⟩,⟨1,[102],63⟩,⟨6,[61],65⟩,⟨5,[102,117,110],67⟩,⟨6,[40],71⟩,⟨1,[120],72⟩,⟨6,[58],73⟩,⟨2,[65],75⟩,⟨6,[41],76⟩,⟨6,[45,62],78⟩,⟨1,[120],81⟩,⟨6,[46],82⟩,⟨1,[97],83⟩,⟨5,[101,120,112,111,114,116],85⟩,⟨6,[40],92⟩,⟨1,[102],93⟩,⟨6,[44],94⟩,⟨2,[65],96⟩,⟨6,[41],97⟩,⟨0,[],98⟩] none,.agg [.int .i64 0,.int .i64 0]]
variable [Tabs] [SeatLaid] [SeatPow]
theorem run1:aw Tryz.prog 35 [.str awS] [] (.ret awL):=iz (n:=100) mixed oB ml ki (by kernel_rfl:Hr 35 [.str awS] []=some ⟨none,none,awL,[]⟩)
end Go.AL.Seat
end
noncomputable section
namespace Go.AL.Seat
open Go Go.AL Go.Proofs Go.Pd
set_option maxRecDepth 1000000
def awM:Modu:=⟨[112],[⟨[113],⟨1,2,3,[]⟩,[⟨4,⟨1,0,0,[]⟩⟩,⟨1,⟨2,0,0,[]⟩⟩],9⟩],[⟨1,[65],⟨6,[],[],[[97]],[⟨1,[],[],[],[]⟩]⟩,⟨0,[],[],0,[],[],[],[],0⟩,41⟩,
 ⟨3,[102],⟨0,[],[],[],[]⟩,⟨6,[],[],0,[[120]],[],[⟨9,[],[65],[],[]⟩],[⟨9,[],[97],0,[],[],[],[⟨5,[],[120],0,[],[],[],[],81⟩],81⟩],67⟩,59⟩],[[102],[65]],85⟩
def awA:AV:=.agg [.str awM.name,.lst (.st .imp) awM.imports none,.lst (.st .decl) awM.decls none,.lst .str awM.exports none,.int .i64 awM.pos]
def awV:AV:=.tup [awA,.agg [.int .i64 0,.int .i64 0]]
def awW:AV:=.tup [.agg [.str [],.nils,.nils,.nils,.int .i64 0],.agg [.int .i64 111,.int .i64 16]]
def awO:Str:=[109,111,100,117,108,101,32,112,10,105,109,112,111,114,116,32,113,32,112,105,110,32,49,46,50,46,51,32,114,97,110,103,101,32,62,61,49,46,48,46,48,32,60,50,46,48,46,48,10,116,121,112,101,32,65,32,61,32,123,97,58,32,73,110,116,125,10,108,101,116,32,102,32,61,32,102,117,110,32,40,120,58,32,65,41,32,45,62,32,120,46,97,10,101,120,112,111,114,116,32,40,102,44,32,65,41,10]
mutual
theorem eqT_snd:∀{a b:Trm},eqT a b true=true→a=b
 | ⟨k,g,q,z,ns,vs,ss,ps,pp⟩,⟨k',g',q',z',ns',vs',ss',ps',pp'⟩,h=>by
  simp only [eqT,Bool.and_eq_true,decide_eq_true_eq,Bool.not_true,Bool.false_or] at h
  obtain ⟨⟨⟨⟨⟨⟨⟨⟨rfl,rfl⟩,rfl⟩,rfl⟩,rfl⟩,rfl⟩,rfl⟩,h1⟩,h2⟩:=h
  rw [eqL_eq h1,eqTL_snd h2]
theorem eqTL_snd:∀{a b:List Trm},eqTL a b true=true→a=b
 | [],[],_=>rfl
 | [],_ ::_,h=>by simp [eqTL] at h
 | _ ::_,[],h=>by simp [eqTL] at h
 | a ::r,b ::s,h=>by
  simp only [eqTL,Bool.and_eq_true] at h
  rw [eqT_snd h.1,eqTL_snd h.2]
end
def CV {α:Type} (f:α→α→Bool):List α→List α→Bool
 | [],[]=>true
 | a ::r,b ::s=>f a b && CV f r s
 | _,_=>false
theorem mm {α:Type} {f:α→α→Bool} (hf:∀a b,f a b=true→a=b):∀{l m:List α},CV f l m=true→l=m
 | [],[],_=>rfl
 | a ::r,b ::s,h=>by
  simp only [CV,Bool.and_eq_true] at h
  rw [hf a b h.1,mm hf h.2]
 | [],_ ::_,h=>by cases h
 | _ ::_,[],h=>by cases h
def tL (a b:Vers):Bool:=decide (a.major=b.major) && decide (a.minor=b.minor) && decide (a.patch=b.patch) && decide (a.pre=b.pre)
def zS (a b:Bnd):Bool:=decide (a.op=b.op) && tL a.v b.v
def zT (a b:Impt):Bool:=decide (a.name=b.name) && tL a.pin b.pin && CV zS a.range b.range && decide (a.pos=b.pos)
def zU (a b:Dcl):Bool:=decide (a.kind=b.kind) && decide (a.name=b.name) && eqS a.shape b.shape && eqT a.term b.term true && decide (a.pos=b.pos)
def tM (a b:Modu):Bool:=decide (a.name=b.name) && CV zT a.imports b.imports && CV zU a.decls b.decls && decide (a.exports=b.exports) && decide (a.pos=b.pos)
theorem qA (a b:Vers) (h:tL a b=true):a=b:=by
 cases a;cases b
 simp only [tL,Bool.and_eq_true,decide_eq_true_eq] at h
 obtain ⟨⟨⟨rfl,rfl⟩,rfl⟩,rfl⟩:=h;rfl
theorem zW (a b:Bnd) (h:zS a b=true):a=b:=by
 cases a;cases b
 simp only [zS,Bool.and_eq_true,decide_eq_true_eq] at h
 rw [h.1,qA _ _ h.2]
theorem zX (a b:Impt) (h:zT a b=true):a=b:=by
 cases a;cases b
 simp only [zT,Bool.and_eq_true,decide_eq_true_eq] at h
 rw [h.1.1.1,qA _ _ h.1.1.2,mm zW h.1.2,h.2]
theorem zY (a b:Dcl) (h:zU a b=true):a=b:=by
 cases a;cases b
 simp only [zU,Bool.and_eq_true,decide_eq_true_eq] at h
 rw [h.1.1.1.1,h.1.1.1.2,eqS_eq h.1.1.2,eqT_snd h.1.2,h.2]
theorem zZ (a b:Modu) (h:tM a b=true):a=b:=by
 cases a;cases b
 simp only [tM,Bool.and_eq_true,decide_eq_true_eq] at h
 rw [h.1.1.1.1,mm zX h.1.1.1.2,mm zY h.1.1.2,h.1.2,h.2]
variable [Tabs] [SeatLaid] [SeatPow]
def GK:List (Nat × Pat):=(35,vF [.str awS] awL) ::Fh
theorem Fi:bH Tryz.prog (fH GK):=sc (tt (ee Tryz.func35) run1) ml
theorem run2:aw Tryz.prog 10 [.str awS] [] (.ret awV):=iz (n:=100) mixed oB Fi ki (by kernel_rfl:yI ba zR GJ GI 5000 (fH GK) 100 10 [.str awS] []=some ⟨none,none,awV,[]⟩)
theorem run3:aw Tryz.prog 19 [.st .modu awM] [] (.ret (.tup [.str awO,.int .i64 0])):=iz (n:=100) mixed oB ml ki (by kernel_rfl:Hr 19 [.st .modu awM] []=some ⟨none,none,.tup [.str awO,.int .i64 0],[]⟩)
theorem CW:ag Tryz.prog 19 (q1 (.st .modu) (fun m=>tM m awM) fun _=>.tup [.str awO,.int .i64 0]):=
 vD (O:=fun m=>m=awM) (ax (ee Tryz.func19) fun m _ ho=>by obtain rfl:=ho _ rfl;exact run3) fun _ h=>zZ _ _ h
end Go.AL.Seat
end
noncomputable section
namespace Go.AL.Seat
open Go Go.AL Go.Proofs Go.Pd
set_option maxRecDepth 1000000
variable [Tabs] [SeatLaid] [SeatPow]
theorem run4:aw Tryz.prog 10 [.str awT] [] (.ret awW):=iz (n:=100) mixed oB ml ki (by kernel_rfl:Hr 10 [.str awT] []=some ⟨none,none,awW,[]⟩)
end Go.AL.Seat
end
noncomputable section
namespace Go.AL.Seat
open Go Go.AL Go.Proofs Go.Pd
set_option maxRecDepth 1000000
variable [Tabs] [SeatLaid] [SeatPow]
def Fj:List (Nat × Pat):=[(10,vF [.str awS] awV),(10,vF [.str awT] awW),(19,q1 (.st .modu) (fun m=>tM m awM) fun _=>.tup [.str awO,.int .i64 0])]
theorem CX:bH Tryz.prog (fH Fj):=sc (tt (ee Tryz.func10) run2) (sc (tt (ee Tryz.func10) run4) (sc CW sn))
theorem wW:ag Tryz.prog 13 (p0 (.ret (.bool true))):=
 HJ (ee Tryz.func13) (iz (n:=2) mixed Ek CX vJ (by kernel_rfl:yI Ej vI Hn Hm 50 (fH Fj) 2 13 [] []=some ⟨none,none,.bool true,[]⟩))
end Go.AL.Seat
end
