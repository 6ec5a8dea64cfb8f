/- What the functions' conditions say, proved. Plain facts. No condition. -/
import Derived.Test.YtbhedkjcdhgkhaaGreatDoorT06
set_option linter.all false
set_option maxRecDepth 100000
section
open Go Go.AL Go.Pd
namespace Go.AL.Seat
theorem EN(N n:Nat)(l:List Nam)(t:Trm)(hl:Wf (.lst (.st .nm)) l)(ht:Wf (.st .term) t)(ho:szT t<=n+1/\allT (mxU N) t=true/\l.length+(useT t).length<=1000000000000) :
  let A:=(1000000000000:Nat);let B:=an l (cC t);let C:=(0:Int);let D:=t=t;let E:=D/\true=true/\D/\True;let F:=(↑(List.length t.shapes):Int);let G:=dfl (Ty.st SN.shape);let H:=(1:Int);let I:=an B (useSL t.shapes);let J:=false=false/\D/\True;let K:=D/\true=true/\J;let L:=(↑(List.length t.parts):Int);let M:=dfl (Ty.st SN.term);let O:=D/\false=false/\J;let P:=(∃(x:Nat),x<=List.length t.shapes/\l=an B (useSL (List.take x t.shapes))/\C=(↑x:Int)/\D/\J)/\∀(x:Nat),let Q:=(↑x:Int);let R:=List.getD t.shapes (Int.toNat Q) G;let S:=useSL (List.take x t.shapes);x<=List.length t.shapes->if decide (Q<F)=true then(C<=Q/\Q<F)/\(sz R<=N/\List.length (an B S)+List.length (useS R)<=A)/\inR IntKind.i64 (Q+H)/\∃(y:Nat),y<=List.length t.shapes/\List.length t.shapes-y<List.length t.shapes-x/\an (an B S) (useS R)=an B (useSL (List.take y t.shapes))/\Q+H=(↑y:Int)/\D/\J else(∃(x_1:Nat),x_1<=List.length t.parts/\an B S=an I (useTL (List.take x_1 t.parts))/\C=(↑x_1:Int)/\Q=Q/\O)/\∀(x_1:Nat),let T:=(↑x_1:Int);let U:=List.getD t.parts (Int.toNat T) M;let V:=useTL (List.take x_1 t.parts);x_1<=List.length t.parts->if decide (T<L)=true then(C<=T/\T<L)/\(szT U<=n/\allT (mxU N) U=true/\List.length (an I V)+List.length (useT U)<=A)/\inR IntKind.i64 (T+H)/\∃(y:Nat),y<=List.length t.parts/\List.length t.parts-y<List.length t.parts-x_1/\an (an I V) (useT U)=an I (useTL (List.take y t.parts))/\T+H=(↑y:Int)/\Q=Q/\O else True/\an I V=an l (useT t)/\True;if decide (t.kind=(5:Int))=true then if(!decide (t.pkg=[]))=true then List.length l<=A/\(∃(x:Nat),x<=List.length t.shapes/\cA l {pkg:=t.pkg,name:=t.name:Nam}=an B (useSL (List.take x t.shapes))/\C=(↑x:Int)/\E)/\∀(x:Nat),let Q:=(↑x:Int);let R:=List.getD t.shapes (Int.toNat Q) G;let S:=useSL (List.take x t.shapes);x<=List.length t.shapes->if decide (Q<F)=true then(C<=Q/\Q<F)/\(sz R<=N/\List.length (an B S)+List.length (useS R)<=A)/\inR IntKind.i64 (Q+H)/\∃(y:Nat),y<=List.length t.shapes/\List.length t.shapes-y<List.length t.shapes-x/\an (an B S) (useS R)=an B (useSL (List.take y t.shapes))/\Q+H=(↑y:Int)/\E else(∃(x_1:Nat),x_1<=List.length t.parts/\an B S=an I (useTL (List.take x_1 t.parts))/\C=(↑x_1:Int)/\Q=Q/\K)/\∀(x_1:Nat),let T:=(↑x_1:Int);let U:=List.getD t.parts (Int.toNat T) M;let V:=useTL (List.take x_1 t.parts);x_1<=List.length t.parts->if decide (T<L)=true then(C<=T/\T<L)/\(szT U<=n/\allT (mxU N) U=true/\List.length (an I V)+List.length (useT U)<=A)/\inR IntKind.i64 (T+H)/\∃(y:Nat),y<=List.length t.parts/\List.length t.parts-y<List.length t.parts-x_1/\an (an I V) (useT U)=an I (useTL (List.take y t.parts))/\T+H=(↑y:Int)/\Q=Q/\K else True/\an I V=an l (useT t)/\True else P else P:=by
 conv=>zeta
 have ls:=ht.term_shapes.len;have lp:=ht.term_parts.len;obtain⟨o1,o3,o2⟩:=ho;have hz:=gi t;have hu:useT t=cC t++(useSL t.shapes++useTL t.parts):=qa t;rw[hu,Kw,Kw]at o2;rw[allT_eq,Ka,allTL_all,Kp]at o3;have o4:=o3.1;rw[mxU,Kp]at o4;have l2:=dK (cC t) l
 have tail2:∀x:Nat,x<=t.parts.length->if decide ((x:Int)<(t.parts.length:Int))=true then((0:Int)<=(x:Int)/\(x:Int)<(t.parts.length:Int))/\(szT (t.parts.getD x (dfl (.st .term)))<=n/\allT (mxU N) (t.parts.getD x (dfl (.st .term)))=true/\(an (an (an l (cC t)) (useSL t.shapes)) (useTL (t.parts.take x))).length+(useT (t.parts.getD x (dfl (.st .term)))).length<=1000000000000)/\inR .i64 ((x:Int)+1)/\∃y:Nat,y<=t.parts.length/\t.parts.length-y<t.parts.length-x/\an (an (an (an l (cC t)) (useSL t.shapes)) (useTL (t.parts.take x))) (useT (t.parts.getD x (dfl (.st .term))))=an (an (an l (cC t)) (useSL t.shapes)) (useTL (t.parts.take y))/\(x:Int)+1=(y:Int)else an (an (an l (cC t)) (useSL t.shapes)) (useTL (t.parts.take x))=an l (useT t):=by
  intro k h1;apply aa<;>intro h
  ·replace h:=Xo h;have hk:k<t.parts.length:=by omega
   have hmm:=aP t.parts k (dfl (.st .term)) hk;have hm:=eV hmm;have hh:=sw t.parts k (dfl (.st .term)) hk;have l1:=dK (useTL (t.parts.take k)) (an (an l (cC t)) (useSL t.shapes));have l5:=dK (useSL t.shapes) (an l (cC t));have l3:=yl t.parts (k+1);rw[hh,Kw]at l3;exact⟨by omega,⟨by omega,o3.2 _ hmm,by omega⟩,aw hk lp,k+1,by omega,by omega,by rw[hh,fv (an (an l (cC t)) (useSL t.shapes))],by omega⟩
  ·have e:k=t.parts.length:=by have:¬((k:Int)<(t.parts.length:Int)):=fun e=>h (Xd e);omega
   rw[e,KW,hu,fv,fv]
 have tail:∀x:Nat,x<=t.shapes.length->if decide ((x:Int)<(t.shapes.length:Int))=true then((0:Int)<=(x:Int)/\(x:Int)<(t.shapes.length:Int))/\(sz (t.shapes.getD x (dfl (.st .shape)))<=N/\(an (an l (cC t)) (useSL (t.shapes.take x))).length+(useS (t.shapes.getD x (dfl (.st .shape)))).length<=1000000000000)/\inR .i64 ((x:Int)+1)/\∃y:Nat,y<=t.shapes.length/\t.shapes.length-y<t.shapes.length-x/\an (an (an l (cC t)) (useSL (t.shapes.take x))) (useS (t.shapes.getD x (dfl (.st .shape))))=an (an l (cC t)) (useSL (t.shapes.take y))/\(x:Int)+1=(y:Int)else(∃z:Nat,z<=t.parts.length/\an (an l (cC t)) (useSL (t.shapes.take x))=an (an (an l (cC t)) (useSL t.shapes)) (useTL (t.parts.take z))/\(0:Int)=(z:Int))/\∀q:Nat,q<=t.parts.length->if decide ((q:Int)<(t.parts.length:Int))=true then((0:Int)<=(q:Int)/\(q:Int)<(t.parts.length:Int))/\(szT (t.parts.getD q (dfl (.st .term)))<=n/\allT (mxU N) (t.parts.getD q (dfl (.st .term)))=true/\(an (an (an l (cC t)) (useSL t.shapes)) (useTL (t.parts.take q))).length+(useT (t.parts.getD q (dfl (.st .term)))).length<=1000000000000)/\inR .i64 ((q:Int)+1)/\∃y:Nat,y<=t.parts.length/\t.parts.length-y<t.parts.length-q/\an (an (an (an l (cC t)) (useSL t.shapes)) (useTL (t.parts.take q))) (useT (t.parts.getD q (dfl (.st .term))))=an (an (an l (cC t)) (useSL t.shapes)) (useTL (t.parts.take y))/\(q:Int)+1=(y:Int)else an (an (an l (cC t)) (useSL t.shapes)) (useTL (t.parts.take q))=an l (useT t):=by
  intro k h1;apply aa<;>intro h
  ·replace h:=Xo h;have hk:k<t.shapes.length:=by omega
   have hmm:=aP t.shapes k (dfl (.st .shape)) hk;have hh:=jU t.shapes k (dfl (.st .shape)) hk;have l1:=dK (useSL (t.shapes.take k)) (an l (cC t));have l3:=ny t.shapes (k+1);rw[hh,Kw]at l3;exact⟨by omega,⟨Xo (o4 _ hmm),by omega⟩,aw hk ls,k+1,by omega,by omega,by rw[hh,fv (an l (cC t))],by omega⟩
  ·have e:k=t.shapes.length:=by have:¬((k:Int)<(t.shapes.length:Int)):=fun e=>h (Xd e);omega
   exact⟨⟨0,Kg _,by rw[e,KW];rfl,rfl⟩,tail2⟩
 clear tail2 o3 o4;simp only[Kh,Lt,KV,KI];refine aa (fun h1=>aa (fun h2=>?_) (fun h2=>?_)) (fun h1=>?_)
 ·have h1:=Xo h1;have h2:t.pkg≠[]:=by simpa using h2
  have ho:cC t=[⟨t.pkg,t.name⟩]:=Kf ⟨h1,h2⟩;rw[ho]at tail o2⊢;exact⟨by omega,⟨0,Kg _,rfl,rfl⟩,tail⟩
 ·have h2:t.pkg=[]:=by simpa using h2
  have ho:cC t=[]:=Kb fun q=>q.2 h2;rw[ho]at tail⊢;exact⟨⟨0,Kg _,rfl,rfl⟩,tail⟩
 ·have ho:cC t=[]:=Kb fun q=>h1 (Xd q.1);rw[ho]at tail⊢;exact⟨⟨0,Kg _,rfl,rfl⟩,tail⟩
theorem EO(m:Modu)(hm:Wf (.st .modu) m)(ho:m.decls.all bT=true/\m.decls.length<=60) :
  let A:=(0:Int);let B:=bu m=A;let C:=m=m/\false=false/\m=m/\True;let D:=(↑(List.length m.decls):Int);let E:=dfl (Ty.st SN.decl);let F:=(1000000000000:Nat);(List.all m.decls bT=true/\List.length m.decls<=(1000000:Nat))/\if(!decide (B))=true then True/\bV m=[]/\True else(∃(x:Nat),(B/\x<=List.length m.decls)/\an [] (cz (List.take x m.decls))=[]/\A=(↑x:Int)/\C)/\∀(x:Nat),let G:=(↑x:Int);let H:=A<=G/\G<D;let I:=List.getD m.decls (Int.toNat G) E;let J:=cz (List.take x m.decls);let K:=useS I.shape;let L:=an (an [] J) K;B/\x<=List.length m.decls->if decide (G<D)=true then H/\(sz I.shape<=(400:Nat)/\List.length (an [] J)+List.length K<=F)/\H/\(szT I.term<=(4096:Nat)/\allT (mxU (400:Nat)) I.term=true/\List.length L+List.length (useT I.term)<=F)/\inR IntKind.i64 (G+(1:Int))/\∃(y:Nat),(B/\y<=List.length m.decls)/\List.length m.decls-y<List.length m.decls-x/\an L (useT I.term)=an [] (cz (List.take y m.decls))/\G+(1:Int)=(↑y:Int)/\C else True/\an [] J=bV m/\True:=by
 conv=>zeta
 obtain⟨o1,o2⟩:=ho;have ld:=hm.modu_decls.len;have fin:bu m=0->bV m=an [] (cz m.decls):=fun e=>Kf e;simp only[Kh,Lt,KV,KI];refine⟨⟨o1,by omega⟩,aa (fun h=>?_) (fun h=>?_)⟩
 ·exact Kb fun e=>by rw[Xd e]at h;cases h
 have h:bu m=0:=by simpa using h
 obtain⟨q1,q2⟩:=sy h o2;refine⟨⟨0,⟨h,Kg _⟩,rfl,rfl⟩,?_⟩;rintro k ⟨_,h1⟩;apply aa<;>intro c
 ·have c:=Xo c;have hk:k<m.decls.length:=by omega
  obtain⟨u1,u2,u3,u4⟩:=q1 _ (aP m.decls k (dfl (.st .decl)) hk);have l1:=dK (cz (m.decls.take k)) [];have l2:=dK (useS (m.decls.getD k (dfl (.st .decl))).shape) (an [] (cz (m.decls.take k)));have l3:=yn m.decls k;have ht:=sx m.decls k (dfl (.st .decl)) hk;rw[px,Kw]at u4;rw[KT]at l1;exact⟨by omega,⟨u1,by omega⟩,by omega,⟨u2,u3,by omega⟩,aw hk ld,k+1,⟨h,by omega⟩,by omega,by rw[ht,fv,px,fv],by omega⟩
 ·have e:k=m.decls.length:=by have:¬((k:Int)<(m.decls.length:Int)):=fun e=>c (Xd e);omega
  rw[fin h,e,KW]
theorem EP(m:Modu)(hm:Wf (.st .modu) m)(ho:m.decls.all bT=true/\m.decls.length<=60/\m.imports.length<=20) :
  let A:=List.all m.decls bT=true;let B:=(0:Int);let C:=bu m=B;let D:=bV m;let E:=m=m;let F:=false=false;let G:=bV m=bV m;let H:=E/\True;let I:=(↑(List.length m.imports):Int);let J:=dfl (Ty.st SN.imp);let K:=true=true;let L:=(↑(List.length D):Int);let M:=(1:Int);(A/\List.length m.decls<=(1000000:Nat))/\if(!decide (C))=true then True/\mf m=[]/\True else(A/\List.length m.decls<=(60:Nat))/\(∃(x:Nat),let N:=List.take x m.imports;(C/\x<=List.length m.imports)/\bC D N=[]/\B=(↑x:Int)/\E/\F/\G/\List.length (bC D N)=(0:Nat)/\H)/\∀(x:Nat),let N:=(↑x:Int);let O:=List.getD m.imports (Int.toNat N) J;let P:=List.take x m.imports;let Q:=bC D P;let R:=List.length Q=List.length Q;let S:=bC D P=bC D P/\N=N/\E/\F/\G/\K/\R/\H;let T:=B<=N/\N<I;let U:=[O.name];let V:=inR IntKind.i64 (N+M);C/\x<=List.length m.imports->if decide (N<I)=true then(∃(x_1:Nat),x_1<=List.length D/\false=eQ (List.take x_1 D) O/\B=(↑x_1:Int)/\S)/\∀(x_1:Nat),let W:=(↑x_1:Int);let X:=List.take x_1 D;let Y:=inR IntKind.i64 (W+M);x_1<=List.length D->if decide (W<L)=true then if eQ X O=true then Y/\∃(y:Nat),y<=List.length D/\List.length D-y<List.length D-x_1/\true=eQ (List.take y D) O/\W+M=(↑y:Int)/\S else(B<=W/\W<L)/\T/\Y/\∃(y:Nat),y<=List.length D/\List.length D-y<List.length D-x_1/\decide ((List.getD D (Int.toNat W) (dfl (Ty.st SN.nm))).pkg=O.name)=eQ (List.take y D) O/\W+M=(↑y:Int)/\S else if(!eQ X O)=true then T/\(R/\(List.length Q+List.length U)*(16:Nat)<=(140737488355328:Nat))/\V/\∃(y:Nat),let Z:=List.take y m.imports;(C/\y<=List.length m.imports)/\List.length m.imports-y<List.length m.imports-x/\bC D P++U=bC D Z/\N+M=(↑y:Int)/\E/\F/\G/\List.length (bC D P++U)=List.length (bC D Z)/\H else V/\∃(y:Nat),let Z:=List.take y m.imports;(C/\y<=List.length m.imports)/\List.length m.imports-y<List.length m.imports-x/\bC D P=bC D Z/\N+M=(↑y:Int)/\E/\F/\G/\List.length Q=List.length (bC D Z)/\H else True/\bC D P=mf m/\True:=by
 conv=>zeta
 obtain⟨o1,o2,o3⟩:=ho;have li:=hm.modu_imports.len;have lf:=E9 m o2;have fin:bu m=0->mf m=bC (bV m) m.imports:=fun e=>Kf e;simp only[Kh,Lt,KV,KI];refine⟨⟨o1,by omega⟩,aa (fun h=>?_) (fun h=>?_)⟩
 ·exact Kb fun e=>by rw[Xd e]at h;cases h
 have h:bu m=0:=by simpa using h
 refine⟨⟨o1,o2⟩,⟨0,⟨h,Kg _⟩,rfl,rfl,rfl⟩,?_⟩;rintro k ⟨_,h1⟩;apply aa<;>intro c
 ·have c:=Xo c;have hk:k<m.imports.length:=by omega
  have ht:=sA (bV m) m.imports k (dfl (.st .imp)) hk;have hn:=oM (bV m) (m.imports.take k);rw[LH]at hn;refine⟨⟨0,Kg _,rfl,rfl⟩,?_⟩;intro j j1;apply aa<;>intro d
  ·have d:=Xo d;have hj:j<(bV m).length:=by omega
   have hu:=B5 (bV m) (m.imports.getD k (dfl (.st .imp))) j (dfl (.st .nm)) hj;apply aa<;>intro e
   ·exact⟨aO (by omega) (by omega),j+1,by omega,by omega,by rw[hu,e];rfl,by omega⟩
   ·rw[LI]at e;exact⟨by omega,by omega,aO (by omega) (by omega),j+1,by omega,by omega,by rw[hu,e,Bool.false_or],by omega⟩
  ·have e:j=(bV m).length:=by have:¬((j:Int)<((bV m).length:Int)):=fun e=>d (Xd e);omega
   rw[e,KW];apply aa<;>intro f
   ·have f:¬eQ (bV m) (m.imports.getD k (dfl (.st .imp)))=true:=fun g=>by rw[g]at f;cases f
    rw[Kb f]at ht;exact⟨by omega,by rw[L9];omega,aw hk li,k+1,⟨h,by omega⟩,by omega,ht.symm,by omega,by rw[ht]⟩
   ·have f:eQ (bV m) (m.imports.getD k (dfl (.st .imp)))=true:=by simpa using f
    rw[Kf f]at ht;exact⟨aw hk li,k+1,⟨h,by omega⟩,by omega,ht.symm,by omega,by rw[ht]⟩
 ·have e:k=m.imports.length:=by have:¬((k:Int)<(m.imports.length:Int)):=fun e=>c (Xd e);omega
  rw[fin h,e,KW]
theorem Bz(a b:List Nam)(ha:Wf (.lst (.st .nm)) a) :
  let A:=(↑(List.length a):Int);let B:=(↑(List.length b):Int);let C:=True/\false=decide (a=b)/\True;let D:=List.length a=List.length b;let E:=(0:Int);let F:=a=a/\b=b/\false=false/\True;let G:=dfl (Ty.st SN.nm);if(!decide (A=B))=true then C else(∃(x:Nat),(x<=List.length a/\D/\decide (a=b)=decide (List.drop x a=List.drop x b))/\E=(↑x:Int)/\F)/\∀(x:Nat),let H:=(↑x:Int);let I:=List.getD a (Int.toNat H) G;let J:=List.getD b (Int.toNat H) G;x<=List.length a/\D/\decide (a=b)=decide (List.drop x a=List.drop x b)->if decide (H<A)=true then(E<=H/\H<A)/\(E<=H/\H<B)/\if(!(decide (I.pkg=J.pkg)&&(decide (I.name=J.name)&&true)))=true then C else inR IntKind.i64 (H+(1:Int))/\∃(y:Nat),(y<=List.length a/\D/\decide (a=b)=decide (List.drop y a=List.drop y b))/\List.length a-y<List.length a-x/\H+(1:Int)=(↑y:Int)/\F else True/\true=decide (a=b)/\True:=by
 conv=>zeta
 have ln:=ha.len;simp only[Kh,Lt,KV,KI];apply aa<;>intro h
 ·refine(Xf fun e=>?_).symm;rw[e]at h;simp at h
 have hl:a.length=b.length:=by simp at h;omega
 refine⟨⟨0,⟨Kg _,hl,rfl⟩,rfl⟩,?_⟩;rintro k ⟨h1,_,h3⟩;apply aa<;>intro h
 ·replace h:=Xo h;have hk:k<a.length:=by omega
  have hk':k<b.length:=by omega
  rw[ai a k (dfl (.st .nm)) hk,ai b k (dfl (.st .nm)) hk']at h3;refine⟨by omega,by omega,aa (fun c=>?_) (fun c=>?_)⟩
  ·rw[h3];refine(Xf fun e=>?_).symm;have e:=(Nk e).1;simp at c;rw[<-Ke,<-Ke]at c;exact c.elim (fun z=>z (Lu Nam.pkg e)) (fun z=>z (Lu Nam.name e))
  ·have e:a.getD k (dfl (.st .nm))=b.getD k (dfl (.st .nm)):=by simp at c;exact GV c.1 c.2
   refine⟨aw hk ln,k+1,⟨by omega,hl,?_⟩,by omega,by omega⟩;rw[h3,e];exact L0.2 ⟨fun z=>(Nk z).2,fun z=>by rw[z]⟩
 ·have e:k=a.length:=by have:¬((k:Int)<(a.length:Int)):=fun e=>h (Xd e);omega
  rw[h3,e,Km,hl,Km];rfl
theorem BA(a b:List Str)(ha:Wf (.lst .str) a) :
  let A:=(↑(List.length a):Int);let B:=(↑(List.length b):Int);let C:=True/\false=decide (a=b)/\True;let D:=List.length a=List.length b;let E:=(0:Int);let F:=a=a/\b=b/\false=false/\True;if(!decide (A=B))=true then C else(∃(x:Nat),(x<=List.length a/\D/\decide (a=b)=decide (List.drop x a=List.drop x b))/\E=(↑x:Int)/\F)/\∀(x:Nat),let G:=(↑x:Int);x<=List.length a/\D/\decide (a=b)=decide (List.drop x a=List.drop x b)->if decide (G<A)=true then(E<=G/\G<A)/\(E<=G/\G<B)/\if(!decide (List.getD a (Int.toNat G) (dfl Ty.str)=List.getD b (Int.toNat G) (dfl Ty.str)))=true then C else inR IntKind.i64 (G+(1:Int))/\∃(y:Nat),(y<=List.length a/\D/\decide (a=b)=decide (List.drop y a=List.drop y b))/\List.length a-y<List.length a-x/\G+(1:Int)=(↑y:Int)/\F else True/\true=decide (a=b)/\True:=by
 conv=>zeta
 have ln:=ha.len;simp only[Kh,Lt,KV,KI];apply aa<;>intro h
 ·refine(Xf fun e=>?_).symm;rw[e]at h;simp at h
 have hl:a.length=b.length:=by simp at h;omega
 refine⟨⟨0,⟨Kg _,hl,rfl⟩,rfl⟩,?_⟩;rintro k ⟨h1,_,h3⟩;apply aa<;>intro h
 ·replace h:=Xo h;have hk:k<a.length:=by omega
  have hk':k<b.length:=by omega
  rw[ai a k (dfl .str) hk,ai b k (dfl .str) hk']at h3;refine⟨by omega,by omega,aa (fun c=>?_) (fun c=>?_)⟩
  ·rw[h3];refine(Xf fun e=>?_).symm;have e:=(Nk e).1;exact absurd e (by simpa using c)
  ·have e:a.getD k (dfl .str)=b.getD k (dfl .str):=by simpa using c
   refine⟨aw hk ln,k+1,⟨by omega,hl,?_⟩,by omega,by omega⟩;rw[h3,e];exact L0.2 ⟨fun z=>(Nk z).2,fun z=>by rw[z]⟩
 ·have e:k=a.length:=by have:¬((k:Int)<(a.length:Int)):=fun e=>h (Xd e);omega
  rw[h3,e,Km,hl,Km];rfl
theorem BB(l:List Modu)(N:Nat)(hl:Wf (.lst (.st .modu)) l)(ho:∀m∈l,m.imports.length<=1048576)(hN:∀m∈l,∀d∈m.decls,sz d.shape<=N/\szT d.term<=N) :
  let A:=(0:Int);let B:=(600:Int);let C:=l=l;let D:=True;let E:=(↑(List.length l):Int);let F:=(20:Int);let G:=dfl (Ty.st SN.modu);let H:=D/\false=lgM l A/\D;let I:=(60:Int);let J:=(1:Nat);let K:=true=true;let L:=false=false;let M:=C/\K/\L/\D;let O:=dfl (Ty.st SN.decl);let P:=(300:Int);let Q:=A<=P/\P<=(1000000:Int);let R:=(1:Int);let S:=C/\K/\L/\L/\D;let T:=dfl (Ty.st SN.imp);(∃(x:Nat×Int),(x.1<=List.length l/\A<=x.2/\x.2<=B/\lgM (List.drop x.1 l) x.2=lgM l A)/\A=x.2/\A=(↑x.1:Int)/\C/\D)/\∀(x:Nat×Int),let U:=(↑x.1:Int);let V:=A<=U/\U<E;let W:=List.getD l (Int.toNat U) G;let X:=(↑(List.length W.imports):Int);let Y:=F+X;let Z:=(↑(List.length W.decls):Int);let a:=List.drop (Int.toNat U+J) l;x.1<=List.length l/\A<=x.2/\x.2<=B/\lgM (List.drop x.1 l) x.2=lgM l A->if decide (U<E)=true then V/\inR IntKind.i64 Y/\inR IntKind.i64 (x.2+Y)/\if decide (B<x.2+Y)=true then H else V/\if decide (F<X)=true then H else V/\if decide ((80:Int)<(↑(List.length W.exports):Int))=true then H else V/\if decide (I<Z)=true then H else(∃(x_1:Nat×Int),(x_1.1<=List.length W.decls/\A<=x_1.2/\x_1.2<=B/\lgA (lgD (List.drop x_1.1 W.decls) x_1.2) W (lgM a)=lgM l A)/\x.2+Y=x_1.2/\A=(↑x_1.1:Int)/\U=U/\M)/\∀(x_1:Nat×Int),let b:=(↑x_1.1:Int);let c:=A<=b/\b<Z;let d:=List.getD W.decls (Int.toNat b) O;let e:=dr d.term P+sizeF d.shape P;let f:=x_1.2=x_1.2;let g:=f/\b=b/\U=U/\S;x_1.1<=List.length W.decls/\A<=x_1.2/\x_1.2<=B/\lgA (lgD (List.drop x_1.1 W.decls) x_1.2) W (lgM a)=lgM l A->V/\if decide (b<Z)=true then V/\c/\(szT d.term<=N/\Q)/\V/\c/\(sz d.shape<=N/\Q)/\inR IntKind.i64 e/\inR IntKind.i64 (x_1.2+e)/\if decide (B<x_1.2+e)=true then H else inR IntKind.i64 (b+R)/\∃(y:Nat×Int),(y.1<=List.length W.decls/\A<=y.2/\y.2<=B/\lgA (lgD (List.drop y.1 W.decls) y.2) W (lgM a)=lgM l A)/\List.length W.decls-y.1<List.length W.decls-x_1.1/\x_1.2+e=y.2/\b+R=(↑y.1:Int)/\U=U/\M else(∃(x_2:Nat),(x_2<=List.length W.imports/\(List.all (List.drop x_2 W.imports) lgI&&lgM a x_1.2)=lgM l A)/\A=(↑x_2:Int)/\g)/\∀(x_2:Nat),let h:=(↑x_2:Int);let i:=Int.toNat h;let j:=List.getD W.imports i T;let k:=(↑(List.length j.range):Int);let m:=List.all (List.drop (Int.toNat h+J) W.imports) lgI&&lgM a x_1.2;let n:=h=h/\f/\b=b/\U=U/\C/\K/\L/\L/\K/\L/\List.getD W.imports i T=List.getD W.imports i T/\D;x_2<=List.length W.imports/\(List.all (List.drop x_2 W.imports) lgI&&lgM a x_1.2)=lgM l A->V/\if decide (h<X)=true then V/\(A<=h/\h<X)/\if decide ((30:Int)<k)=true then H else if decide (I<(↑(List.length j.pin.pre):Int))=true then H else(∃(x_3:Nat),(x_3<=List.length j.range/\(lgR (List.drop x_3 j.range)&&m)=lgM l A)/\A=(↑x_3:Int)/\n)/\∀(x_3:Nat),let o:=(↑x_3:Int);x_3<=List.length j.range/\(lgR (List.drop x_3 j.range)&&m)=lgM l A->if decide (o<k)=true then(A<=o/\o<k)/\if decide (I<(↑(List.length (List.getD j.range (Int.toNat o) (dfl (Ty.st SN.bound))).v.pre):Int))=true then H else inR IntKind.i64 (o+R)/\∃(y:Nat),(y<=List.length j.range/\(lgR (List.drop y j.range)&&m)=lgM l A)/\List.length j.range-y<List.length j.range-x_3/\o+R=(↑y:Int)/\n else inR IntKind.i64 (h+R)/\∃(y:Nat),(y<=List.length W.imports/\(List.all (List.drop y W.imports) lgI&&lgM a x_1.2)=lgM l A)/\List.length W.imports-y<List.length W.imports-x_2/\h+R=(↑y:Int)/\g else inR IntKind.i64 (U+R)/\∃(y:Nat×Int),(y.1<=List.length l/\A<=y.2/\y.2<=B/\lgM (List.drop y.1 l) y.2=lgM l A)/\List.length l-y.1<List.length l-x.1/\x_1.2=y.2/\U+R=(↑y.1:Int)/\C/\D else D/\true=lgM l A/\D:=by
 conv=>zeta
 have ln:=hl.len;refine⟨⟨(0,0),⟨Kg _,by omega,by omega,rfl⟩,(by repeat' (first|exact trivial|rfl|apply And.intro))⟩,?_⟩;rintro⟨i,n⟩ ⟨h1,h2,h3,h4⟩;dsimp only at h1 h2 h3 h4⊢;apply aa<;>intro hk
 ·have hk:=Xo hk;have hi:i<l.length:=by omega
  have hm:=aP l i (dfl (.st .modu)) hi;have wm:=hl.mem hm;have hNm:=hN _ hm;have li:=ho _ hm;rw[ai l i (dfl (.st .modu)) hi,lgM]at h4;have e0:l.getD (Int.toNat (i:Int)) (dfl (.st .modu))=l.getD i (dfl (.st .modu)):=rfl;rw[<-e0]at h4 hm wm hNm li;generalize l.getD (Int.toNat (i:Int)) (dfl (.st .modu))=m at h4 hm wm hNm li⊢;simp only[Kh,Lt,KV,KI];have ld:=wm.modu_decls.len;have bad:lgH m n=false->false=lgM l 0:=fun e=>by rw[e,Ki]at h4;exact h4
  refine⟨by omega,aO (by omega) (by omega),aO (by omega) (by omega),aa (fun c=>bad (Lb.2 fun e=>?_)) (fun c1=>⟨by omega,aa (fun c=>bad (Lb.2 fun e=>?_)) (fun c2=>⟨by omega,aa (fun c=>bad (Lb.2 fun e=>?_)) (fun c3=>⟨by omega,aa (fun c=>bad (Lb.2 fun e=>?_)) (fun c4=>?_)⟩)⟩)⟩)⟩
  ·have:=nA.1 e;have:=Xo c;omega
  ·have:=nA.1 e;have:=Xo c;omega
  ·have:=nA.1 e;have:=Xo c;omega
  ·have:=nA.1 e;have:=Xo c;omega
  have d1:¬(600:Int)<n+(20+(m.imports.length:Int)):=fun z=>c1 (Xd z);have d2:¬(20:Int)<(m.imports.length:Int):=fun z=>c2 (Xd z);have d3:¬(80:Int)<(m.exports.length:Int):=fun z=>c3 (Xd z);have d4:¬(60:Int)<(m.decls.length:Int):=fun z=>c4 (Xd z);have e1:lgH m n=true:=nA.2 ⟨by omega,by omega,by omega,by omega⟩;rw[e1,KC]at h4;clear bad e1 c1 c2 c3 c4;refine⟨⟨(0,n+(20+(m.imports.length:Int))),⟨Kg _,by simp only;omega,by simp only;omega,h4⟩,rfl,rfl⟩,?_⟩;rintro⟨k,n2⟩ ⟨k1,k2,k3,k4⟩;simp only at k1 k2 k3 k4⊢;refine⟨by omega,aa (fun c=>?_) (fun c=>?_)⟩
  ·have c:=Xo c;have ck:k<m.decls.length:=by omega
   rw[ai m.decls k (dfl (.st .decl)) ck,lgD]at k4;obtain⟨z1,z2⟩:=hNm _ (aP m.decls k (dfl (.st .decl)) ck);have a:=sizeT_bd (m.decls.getD k (dfl (.st .decl))).term 300 (by omega);have b:=sizeF_bd (m.decls.getD k (dfl (.st .decl))).shape 300 (by omega);refine⟨by omega,by omega,⟨z2,by omega,by omega⟩,by omega,by omega,⟨z1,by omega,by omega⟩,aO (by omega) (by omega),aO (by omega) (by omega),aa (fun d=>?_) (fun d=>?_)⟩
   ·rw[Kf (Xo d)]at k4;exact k4
   ·have d:¬(600:Int)<n2+(dr (m.decls.getD k (dfl (.st .decl))).term 300+sizeF (m.decls.getD k (dfl (.st .decl))).shape 300):=fun z=>d (Xd z);rw[Kb d]at k4;exact⟨aw ck ld,(k+1,_),⟨by simp only;omega,by simp only;omega,by simp only;omega,k4⟩,by simp only;omega,rfl,rfl⟩
  ·have e:k=m.decls.length:=by have:¬((k:Int)<(m.decls.length:Int)):=fun e=>c (Xd e);omega
   rw[e,Km,lgD]at k4;refine⟨⟨0,⟨Kg _,k4⟩,rfl⟩,?_⟩;rintro q ⟨q1,q2⟩;refine⟨by omega,aa (fun c=>?_) (fun c=>?_)⟩
   ·have c:=Xo c;have cq:q<m.imports.length:=by omega
    rw[ai m.imports q (dfl (.st .imp)) cq,KR]at q2;have bad:lgI (m.imports.getD q (dfl (.st .imp)))=false->false=lgM l 0:=fun e=>by rw[e,Ki,Ki]at q2;exact q2
    refine⟨by omega,by omega,aa (fun c=>bad (Lb.2 fun e=>?_)) (fun x1=>aa (fun c=>bad (Lb.2 fun e=>?_)) (fun x2=>?_))⟩
    ·have:=CS.1 e;have:=Xo c;omega
    ·have:=CS.1 e;have:=Xo c;omega
    have y1:¬(30:Int)<((m.imports.getD q (dfl (.st .imp))).range.length:Int):=fun z=>x1 (Xd z);have y2:¬(60:Int)<((m.imports.getD q (dfl (.st .imp))).pin.pre.length:Int):=fun z=>x2 (Xd z);have lx:lgI (m.imports.getD q (dfl (.st .imp)))=lgR (m.imports.getD q (dfl (.st .imp))).range:=by unfold lgI;rw[Xd (show(m.imports.getD q (dfl (.st .imp))).range.length<=30 by omega),Xd (show(m.imports.getD q (dfl (.st .imp))).pin.pre.length<=60 by omega)];rfl
    rw[lx,Bool.and_assoc]at q2;refine⟨⟨0,⟨Kg _,q2⟩,rfl⟩,?_⟩;rintro j ⟨j1,j2⟩;apply aa<;>intro c
    ·have c:=Xo c;have hj:j<(m.imports.getD q (dfl (.st .imp))).range.length:=by omega
     rw[ai (m.imports.getD q (dfl (.st .imp))).range j (dfl (.st .bound)) hj,GX]at j2;refine⟨by omega,aa (fun d=>?_) (fun d=>?_)⟩
     ·have d:=Xo d;rw[Xf (show ¬((m.imports.getD q (dfl (.st .imp))).range.getD j (dfl (.st .bound))).v.pre.length<=60 by omega),Ki,Ki]at j2;exact j2
     ·have d:¬(60:Int)<(((m.imports.getD q (dfl (.st .imp))).range.getD j (dfl (.st .bound))).v.pre.length:Int):=fun z=>d (Xd z);rw[Xd (show((m.imports.getD q (dfl (.st .imp))).range.getD j (dfl (.st .bound))).v.pre.length<=60 by omega),KC]at j2;exact⟨aO (by omega) (by omega),j+1,⟨by omega,j2⟩,by omega,by omega⟩
    ·have e:j=(m.imports.getD q (dfl (.st .imp))).range.length:=by have:¬((j:Int)<((m.imports.getD q (dfl (.st .imp))).range.length:Int)):=fun e=>c (Xd e);omega
     rw[e,Km]at j2;exact⟨aO (by omega) (by omega),q+1,⟨by omega,j2⟩,by omega,by omega⟩
   ·have e:q=m.imports.length:=by have:¬((q:Int)<(m.imports.length:Int)):=fun e=>c (Xd e);omega
    rw[e,Km]at q2;exact⟨aw hi ln,(i+1,n2),⟨by simp only;omega,k2,k3,q2⟩,by simp only;omega,rfl,rfl⟩
 ·have e:i=l.length:=by have:¬((i:Int)<(l.length:Int)):=fun e=>hk (Xd e);omega
  rw[e,Km]at h4;exact⟨trivial,h4,trivial⟩
theorem sF(m:Modu)(hm:Wf (.st .modu) m)(hs:m.decls.all bT=true)(hi:m.imports.length<=1048576) :
  let A:=True/\true=true/\True;let B:=List.all m.decls bT=true;let C:=List.length m.decls<=(60:Nat);let D:=(B/\C/\List.length m.imports<=(20:Nat));let E:=True/\false=true/\True;(∀(m_1:Modu),m_1∈[m]->List.length m_1.imports<=(1048576:Nat))/\if(!lgM [m] (0:Int))=true then A else(B/\C)/\(B/\C)/\if decide (bV m=bV m)=true then D/\D/\if decide (mf m=mf m)=true then A else E else E:=by
 conv=>zeta
 refine⟨fun x hx=>by rw[L2.1 hx];exact hi,aa (fun _=>Xr) (fun h=>?_)⟩;have h:lgM [m] 0=true:=by simpa using h
 obtain⟨h1,h2⟩:=JH h;exact⟨⟨hs,h1⟩,⟨hs,h1⟩,aa (fun _=>⟨⟨hs,h1,h2⟩,⟨hs,h1,h2⟩,aa (fun _=>Xr) (fun c=>absurd (Xd rfl) c)⟩) (fun c=>absurd (Xd rfl) c)⟩
end Go.AL.Seat
end
section
open Go Go.AL Go.Proofs Go.Shelf Go.Pd
namespace Go.AL.Seat
variable [Tabs]
def nn:Nat->Bool:=fun _=>false
def cf(k:Nat->Bool)(l:Nat->List (Option Nat))(p r m:Nat->Bool)(s:Nat->List AV->List (Nat×SObj)->Option Ans):Cfg:=⟨tbl,s,k,l,p,r,m⟩
def a0:An:=⟨[],[],[]⟩
theorem g1(k:Nat->Bool)(l:Nat->List (Option Nat))(p r m:Nat->Bool){s:Nat->List AV->List (Nat×SObj)->Option Ans}(hS:bM Tryz.prog s)(a:An){f:Nat}{fn:Func}(hf:Tryz.prog.funcs[f]?=some fn)
 {args:List AV}{S:List (Nat×SObj)}{A:Ans}{Q:Prop}(q:Q)(h:fwp (cf k l p r m s) a fn args S A=Q:=by kernel_rfl):aF Tryz.prog f args S A:=G0 (C:=cf k l p r m s) mixed GS hS hf q h
theorem g0{s:Nat->List AV->List (Nat×SObj)->Option Ans}(hS:bM Tryz.prog s)(a:An){f:Nat}{fn:Func}(hf:Tryz.prog.funcs[f]?=some fn)
 {args:List AV}{S:List (Nat×SObj)}{A:Ans}{Q:Prop}(q:Q)(h:fwp (cf nn (fun _=>[]) nn nn nn s) a fn args S A=Q:=by kernel_rfl):aF Tryz.prog f args S A:=G0 (C:=cf nn (fun _=>[]) nn nn nn s) mixed GS hS hf q h
theorem sc{f:Nat}{g:Pat}{l:List (Nat×Pat)}(h:ag Tryz.prog f g)(hl:bM Tryz.prog (gU l)):bM Tryz.prog (gU ((f,g)::l)):=rI h hl
theorem sn:bM Tryz.prog (gU []):=ud
theorem ee{f:Nat}{fn:Func}(h:Tryz.prog.funcs[f]?=some fn)(e:(fn.body.isNone || (fn.name == "runtime.NumGoroutine"))=false:=by kernel_rfl):aB Tryz.prog f:=aB.mk' h e
variable [SeatLaid]
theorem oN:ag Tryz.prog 85 (p1 (.int .u8) fun c=>.ret (.bool (bZ c))):=
 aL (ee Tryz.func85) fun c _ _=>g0 sn a0 Tryz.func85 (GZ c)
theorem oO:ag Tryz.prog 94 (p1 (.int .u8) fun c=>.ret (.bool (cm c))):=
 aL (ee Tryz.func94) fun c _ _=>g0 sn a0 Tryz.func94 (H0 c)
theorem ER:ag Tryz.prog 117 (p1 (.int .u8) fun c=>.ret (.bool (bS c))):=
 aL (ee Tryz.func117) fun c _ _=>g0 sn a0 Tryz.func117 (H2 c)
theorem yF:ag Tryz.prog 116 (p1 (.int .u8) fun c=>.ret (.bool (ep c))):=
 aL (ee Tryz.func116) fun c _ _=>g0 (sc oN (sc oO (sc ER sn))) a0 Tryz.func116 (IC c)
theorem BC:ag Tryz.prog 84 (pf .str 85 fun s=>.ret (.bool (cW bZ s))):=
 lP (ee Tryz.func84) fun s hs _=>g0 (sc oN (sc oO (sc yF sn))) ⟨[(4,fun S0=>⟨Nat,fun k=>k<=s.length/\cW bZ s=(s.drop k).all fun c=>ep (bI c),fun k=>[(22,.int .i64 k)],fun _=>[],fun k=>s.length-k⟩)],[],[]⟩ Tryz.func84 (Ec s hs)
theorem BD:ag Tryz.prog 84 (pf .str 94 fun s=>.ret (.bool (cW cm s))):=
 lP (ee Tryz.func84) fun s hs _=>g0 (sc oN (sc oO (sc yF sn))) ⟨[(4,fun S0=>⟨Nat,fun k=>k<=s.length/\cW cm s=(s.drop k).all fun c=>ep (bI c),fun k=>[(22,.int .i64 k)],fun _=>[],fun k=>s.length-k⟩)],[],[]⟩ Tryz.func84 (Ed s hs)
theorem HB:ag Tryz.prog 86 (p1 .str fun s=>.ret (.bool (nf s))):=
 aL (ee Tryz.func86) fun s _ _=>g0 sn a0 Tryz.func86 (ID s)
theorem iD:ag Tryz.prog 50 (p1 .str fun s=>.ret (.bool (au s))):=
 aL (ee Tryz.func50) fun s _ _=>g0 (sc BC (sc HB sn)) a0 Tryz.func50 (IE s)
theorem ju:ag Tryz.prog 55 (p1 .str fun s=>.ret (.bool (bO s))):=
 aL (ee Tryz.func55) fun s _ _=>g0 (sc BD sn) a0 Tryz.func55 (H3 s)
theorem ES:ag Tryz.prog 200 (p1 .str fun s=>.ret (.bool (kM s))):=
 aL (ee Tryz.func200) fun s _ _=>g0 sn a0 Tryz.func200 (H4 s)
theorem jV:ag Tryz.prog 96 (p1 (.lst .str) fun a=>⟨none,none,.fn 145 [.ptr 1 0],[(1,.box (.lst .str a none))]⟩):=
 aL (ee Tryz.func96) fun a _ _=>g0 sn a0 Tryz.func96 (Ee a)
theorem ET:ag Tryz.prog 199 (p1 (.st .shape) fun s=>⟨some (s.parts.length *16<=140737488355328),none,.bool (dC s),[]⟩):=
 aL (ee Tryz.func199) fun s hs ho=>g0 (sc iD (sc jV (sc (jP) (sc (iS) sn)))) ⟨[(4,fun S0=>⟨Nat,fun k=>k<=s.names.length/\s.names.length=s.parts.length/\dC s=(((s.names.drop k).all au)&&decide s.names.Nodup),fun k=>[(16,.int .i64 k)],fun _=>[],fun k=>s.names.length-k⟩)],[],[]⟩ Tryz.func199 (H5 s hs (ho _ rfl))
theorem HC:ag Tryz.prog 138 (p1 (.st .shape) fun s=>⟨some (s.parts.length *16<=140737488355328),none,.bool (bc s),[]⟩):=
 aL (ee Tryz.func138) fun s hs ho=>g0 (sc ET (sc ju (sc iD (sc ES sn)))) a0 Tryz.func138 (IF s hs (ho _ rfl))
theorem sG:aB Tryz.prog 137:=ee Tryz.func137
theorem tB(n:Nat)(s:AL.Shape)(hs:Wf (.st .shape) s)(hn:sz s<=n+1)(hb:n<=1000000)(hA:ag Tryz.prog 137 (pf (.st .shape) 138 fun s=>⟨some (sz s<=n),none,.bool (allS bc s),[]⟩)):aF Tryz.prog 137 [.st .shape s,.fn 138 []] [] (.ret (.bool (allS bc s))):=
 g0 (sc HC (sc (hA) sn)) ⟨[(4,fun S0=>⟨Nat,fun k=>k<=s.parts.length/\allS bc s=allL bc (s.parts.drop k),fun k=>[(14,.int .i64 k)],fun _=>[],fun k=>s.parts.length-k⟩)],[],[]⟩ Tryz.func137 (B7 n s hs hn hb)
theorem yG:∀n:Nat,n<=1000000->ag Tryz.prog 137 (pf (.st .shape) 138 fun s=>⟨some (sz s<=n),none,.bool (allS bc s),[]⟩):=by
 intro n
 induction n with
 |zero=>exact fun _=>lP sG fun a hs ho=>absurd (ho _ rfl) (by have:=fa a;omega)
 |succ n ih=>exact fun hb=>lP sG fun a hs ho=>tB n a hs (ho _ rfl) (by omega) (ih (by omega))
theorem HD:ag Tryz.prog 198 (vP 240):=
 Al (ee Tryz.func198) fun c hc=>g0 sn a0 Tryz.func198 (IG c hc)
theorem CU:aB Tryz.prog 197:=ee Tryz.func197
theorem BE(n:Nat)(s:AL.Shape)(l c:Int)(hs:Wf (.st .shape) s)(hn:sz s<=n+1)(hc:0<=c/\c<=400/\1<=l/\l<=c+1)(hA:ag Tryz.prog 197 (q8 240 198 n)):aF Tryz.prog 197 [.st .shape s,.int .i64 l,.fn 198 [.ptr 900 0]] [(900,.box (.int .i64 c))] (G4 240 s l c (sz s<=n+1)):=
 g0 (sc HD (sc (hA) sn)) ⟨[(4,fun S0=>⟨Nat×Int,fun x=>x.1<=s.parts.length/\c+1+(szL (s.parts.take x.1):Int)<=400/\deepL (s.parts.drop x.1) (l+1) x.2=deepS s l,fun x=>[(7,.int .i64 x.2),(16,.int .i64 x.1)],fun x=>[(900,.box (.int .i64 (c+1+(szL (s.parts.take x.1):Int))))],fun x=>s.parts.length-x.1⟩)],[],[]⟩ Tryz.func197 (IH n s l c hs hn hc)
theorem HE:∀n:Nat,ag Tryz.prog 197 (q8 240 198 n):=by
 intro n
 induction n with
 |zero=>exact rK CU fun s l c hs hn hc=>absurd hn (by have:=fa s;omega)
 |succ n ih=>exact rK CU fun s l c hs hn hc=>BE n s l c hs hn hc ih
theorem yH(s:AL.Shape)(hs:Wf (.st .shape) s) :aF Tryz.prog 136 [.st .shape s] [] (.ret (.tup [.int .i64 (if sz s<=400 then(sz s:Int)else 401),.int .i64 (if sz s<=400 then deepS s 1 else 0),.bool (decide (sz s<=400))])):=
 fwpR_sound (C:=⟨tbl,_,fun _=>false,fun _=>[],fun _=>false,fun _=>false,fun _=>false⟩) (ann:=⟨[],[],[]⟩) (annC:=⟨[],[],[]⟩) mixed GS (rI (HE (sz s)) (ud)) Tryz.func136 Tryz.func196 (enters_of Tryz.func196 (by kernel_rfl) rfl) (@Eq.mpr _ _ (by kernel_rfl) (H6 s hs))
theorem EU:ag Tryz.prog 136 (p1 (.st .shape) fun s=>.ret (.tup [.int .i64 (if sz s<=400 then(sz s:Int)else 401),.int .i64 (if sz s<=400 then deepS s 1 else 0),.bool (decide (sz s<=400))])):=
 aL (ee Tryz.func136) fun s hs _=>yH s hs
theorem uD:ag Tryz.prog 91 (p1 (.st .shape) fun s=>.ret (.int .i64 (bH s))):=
 aL (ee Tryz.func91) fun s _ _=>g0 (sc (EU) (sc (yG 400 (by decide)) sn)) a0 Tryz.func91 (H7 s)
theorem CV:aB Tryz.prog 22:=ee Tryz.func22
theorem BF(n:Nat)(s:AL.Shape)(m:Int)(hs:Wf (.st .shape) s)(ho:sz s<=n+1/\0<=m/\m<=1000000)(hA:ag Tryz.prog 22 (p2 (.st .shape) (.int .i64) fun s m=>⟨some (sz s<=n/\0<=m/\m<=1000000),none,.int .i64 (sizeF s m),[]⟩)):aF Tryz.prog 22 [.st .shape s,.int .i64 m] [] (.ret (.int .i64 (sizeF s m))):=
 g0 (sc (hA) sn) ⟨[(3,fun S0=>⟨Nat×Int,fun x=>x.1<=s.parts.length/\1<=x.2/\x.2<=m+1/\sizeL (s.parts.drop x.1) x.2 m=sizeF s m,fun x=>[(5,.int .i64 x.2),(6,.int .i64 x.1)],fun _=>[],fun x=>s.parts.length-x.1⟩)],[],[]⟩ Tryz.func22 (II n s m hs ho)
theorem yI:∀n:Nat,ag Tryz.prog 22 (p2 (.st .shape) (.int .i64) fun s m=>⟨some (sz s<=n/\0<=m/\m<=1000000),none,.int .i64 (sizeF s m),[]⟩):=by
 intro n
 induction n with
 |zero=>exact bY CV fun a m _ _ ho=>absurd (ho _ rfl).1 (by have:=fa a;omega)
 |succ n ih=>exact bY CV fun a m ha _ ho=>BF n a m ha (ho _ rfl) ih
theorem sH:ag Tryz.prog 101 (p1 (.int .u8) fun c=>.ret (.bool (bZ c))):=
 aL (ee Tryz.func101) fun c _ _=>g0 sn a0 Tryz.func101 (Ef c)
theorem sI:ag Tryz.prog 111 (p1 (.int .u8) fun c=>.ret (.bool (cm c))):=
 aL (ee Tryz.func111) fun c _ _=>g0 sn a0 Tryz.func111 (Eg c)
theorem BG:ag Tryz.prog 156 (p1 (.int .u8) fun c=>.ret (.bool (bS c))):=
 aL (ee Tryz.func156) fun c _ _=>g0 sn a0 Tryz.func156 (Eh c)
theorem uE:ag Tryz.prog 102 (p1 .str fun s=>.ret (.int .i64 (dI s:Int))):=
 aL (ee Tryz.func102) fun s hs _=>g0 (sc sH (sc sI (sc BG sn))) ⟨[(2,fun S0=>⟨Nat,fun k=>k<=s.length/\dI s=k+dI (s.drop k),fun k=>[(3,.int .i64 k)],fun _=>[],fun k=>s.length-k⟩)],[],[]⟩ Tryz.func102 (H8 s hs)
def K8:=p2 .str (.lst .str) fun s l=>.ret (.bool (decide (s∈l)))
theorem EV:ag Tryz.prog 157 K8:=
 bY (ee Tryz.func157) fun s l _ hl _=>g0 sn ⟨[(2,fun S0=>⟨Nat,fun k=>k<=l.length/\decide (s∈l)=decide (s∈l.drop k),fun k=>[(5,.int .i64 k)],fun _=>[],fun k=>l.length-k⟩)],[],[]⟩ Tryz.func157 (H9 s l hl)
theorem EW:ag Tryz.prog 103 (p1 .str fun s=>.ret (.bool (nf s))):=
 aL (ee Tryz.func103) fun s _ _=>g0 (sc EV sn) a0 Tryz.func103 (Ha s)
theorem ig:ag Tryz.prog 61 (p1 .str fun s=>.ret (.bool (au s))):=
 aL (ee Tryz.func61) fun s _ _=>g0 (sc sH (sc uE (sc EW sn))) a0 Tryz.func61 (Hb s)
theorem jW:ag Tryz.prog 66 (p1 .str fun s=>.ret (.bool (bO s))):=
 aL (ee Tryz.func66) fun s _ _=>g0 (sc sI (sc uE sn)) a0 Tryz.func66 (Ei s)
theorem BH:ag Tryz.prog 259 (p2 (.lst .str) (.int .i64) fun ns n=>.ret (.bool (gY ns n))):=
 bY (ee Tryz.func259) fun ns n hl _ _=>g0 (sc ig sn) ⟨[(2,fun S0=>⟨Nat,fun k=>k<=ns.length/\(ns.take k).all au=true/\(ns.take k).Nodup,fun k=>[(5,.int .i64 k)],fun _=>[],fun k=>ns.length-k⟩),(7,fun S0=>mR S0 5 fun k0=>⟨Nat,fun j=>(j:Int)<=k0/\(ns.getD k0.toNat (dfl .str))∉ns.take j,fun j=>[(6,.int .i64 j)],fun _=>[],fun j=>k0.toNat-j⟩)],[],[]⟩ Tryz.func259 (Ej ns n hl)
theorem EX:ag Tryz.prog 215 (p1 (.st .shape) fun s=>.ret (.bool (bc s))):=
 aL (ee Tryz.func215) fun s hs _=>g0 (sc BH (sc jW (sc ig sn))) a0 Tryz.func215 (Hc s hs)
theorem yJ:aB Tryz.prog 163:=ee Tryz.func163
theorem yK(n:Nat)(s:AL.Shape)(hs:Wf (.st .shape) s)(hn:sz s<=n+1)(hA:ag Tryz.prog 163 (p1 (.st .shape) fun s=>⟨some (sz s<=n),none,.bool (allS bc s),[]⟩)):aF Tryz.prog 163 [.st .shape s] [] (.ret (.bool (allS bc s))):=
 g0 (sc EX (sc (hA) sn)) ⟨[(4,fun S0=>⟨Nat,fun k=>k<=s.parts.length/\allS bc s=allL bc (s.parts.drop k),fun k=>[(3,.int .i64 k)],fun _=>[],fun k=>s.parts.length-k⟩)],[],[]⟩ Tryz.func163 (Hd n s hs hn)
theorem EY:∀n:Nat,ag Tryz.prog 163 (p1 (.st .shape) fun s=>⟨some (sz s<=n),none,.bool (allS bc s),[]⟩):=by
 intro n
 induction n with
 |zero=>exact aL yJ fun a _ ho=>absurd (ho _ rfl) (by have:=fa a;omega)
 |succ n ih=>exact aL yJ fun a hs ho=>yK n a hs (ho _ rfl) ih
theorem CW:aB Tryz.prog 162:=ee Tryz.func162
theorem BI(n:Nat)(s:AL.Shape)(hs:Wf (.st .shape) s)(hn:sz s<=n+1)(hb:n<=1000000)(hA:ag Tryz.prog 162 (p1 (.st .shape) fun s=>⟨some (sz s<=n),none,.int .i64 (deepF s:Int),[]⟩)):aF Tryz.prog 162 [.st .shape s] [] (.ret (.int .i64 (deepF s:Int))):=
 g0 (sc (hA) sn) ⟨[(3,fun S0=>⟨Nat×Int,fun x=>x.1<=s.parts.length/\0<=x.2/\max x.2 (maxDeep (s.parts.drop x.1):Int)=maxDeep s.parts,fun x=>[(3,.int .i64 x.2),(4,.int .i64 x.1)],fun _=>[],fun x=>s.parts.length-x.1⟩)],[],[]⟩ Tryz.func162 (IJ n s hs hn hb)
theorem HF:∀n:Nat,n<=1000000->ag Tryz.prog 162 (p1 (.st .shape) fun s=>⟨some (sz s<=n),none,.int .i64 (deepF s:Int),[]⟩):=by
 intro n
 induction n with
 |zero=>exact fun _=>aL CW fun a _ ho=>absurd (ho _ rfl) (by have:=fa a;omega)
 |succ n ih=>exact fun hb=>aL CW fun a hs ho=>BI n a hs (ho _ rfl) (by omega) (ih (by omega))
theorem sJ:ag Tryz.prog 108 (p1 (.st .shape) fun s=>.ret (.int .i64 (bH s))):=
 aL (ee Tryz.func108) fun s hs _=>g0 (sc (yI (sz s)) (sc (HF 400 (by decide)) (sc (EY 400) sn))) a0 Tryz.func108 (Ek s hs)
theorem uF:aB Tryz.prog 40:=ee Tryz.func40
theorem wb(n:Nat)(a b:Shape)(ha:Wf (.st .shape) a)(hb:Wf (.st .shape) b)(hn:sz a<=n+1)(hA:ag Tryz.prog 40 (p2 (.st .shape) (.st .shape) fun a b=>⟨some (sz a<=n),none,.bool (eqS a b),[]⟩)):aF Tryz.prog 40 [.st .shape a,.st .shape b] [] (.ret (.bool (eqS a b))):=
 g0 (sc (hA) sn) ⟨[(4,fun S0=>⟨Nat,fun k=>k<=a.names.length/\a.names.length=b.names.length/\a.parts.length=b.parts.length/\eqS a b=(decide (a.names.drop k=b.names.drop k)&&eqL a.parts b.parts),fun k=>[(5,.int .i64 k)],fun _=>[],fun k=>a.names.length-k⟩),(9,fun S0=>⟨Nat,fun k=>k<=a.parts.length/\a.parts.length=b.parts.length/\eqS a b=eqL (a.parts.drop k) (b.parts.drop k),fun k=>[(6,.int .i64 k)],fun _=>[],fun k=>a.parts.length-k⟩)],[],[]⟩ Tryz.func40 (El n a b ha hb hn)
theorem sK:∀n:Nat,ag Tryz.prog 40 (p2 (.st .shape) (.st .shape) fun a b=>⟨some (sz a<=n),none,.bool (eqS a b),[]⟩):=by
 intro n
 induction n with
 |zero=>exact bY uF fun a b _ _ ho=>absurd (ho _ rfl) (by have:=fa a;omega)
 |succ n ih=>exact bY uF fun a b ha hb ho=>wb n a b ha hb (ho _ rfl) ih
theorem nB:ag Tryz.prog 158 (p1 .str fun s=>.ret (.bool (aM s))):=
 aL (ee Tryz.func158) fun s hs _=>g0 sn ⟨[(2,fun S0=>⟨Nat,fun k=>k<=s.length/\(s.all fun c=>bS (bI c))=(s.drop k).all fun c=>bS (bI c),fun k=>[(3,.int .i64 k)],fun _=>[],fun k=>s.length-k⟩)],[],[]⟩ Tryz.func158 (yt s hs)
theorem BJ:ag Tryz.prog 105 (p1 .str fun s=>.ret (.bool (ca s))):=
 aL (ee Tryz.func105) fun s hs _=>g0 (sc nB sn) ⟨[(2,fun S0=>⟨Nat,fun k=>k<=s.length/\(s.all fun c=>eL (bI c))=(s.drop k).all fun c=>eL (bI c),fun k=>[(3,.int .i64 k)],fun _=>[],fun k=>s.length-k⟩)],[],[]⟩ Tryz.func105 (Em s hs)
theorem pz:ag Tryz.prog 62 (p1 (.st .version) fun v=>.ret (.int .i64 (bq v))):=
 aL (ee Tryz.func62) fun v hv _=>g0 (sc (so) (sc BJ sn)) ⟨[(7,fun S0=>⟨Nat,fun k=>k<=(splitB 46 v.pre).length/\(splitB 46 v.pre).all ca=((splitB 46 v.pre).drop k).all ca,fun k=>[(4,.int .i64 k)],fun _=>[],fun k=>(splitB 46 v.pre).length-k⟩)],[],[]⟩ Tryz.func62 (B8 v hv)
theorem EZ:ag Tryz.prog 298 (p1 (.int .i64) fun p=>.ret (.bool (eC p))):=
 aL (ee Tryz.func298) fun p _ _=>g0 sn a0 Tryz.func298 (He p)
theorem F0:ag Tryz.prog 299 (p1 (.int .i64) fun p=>⟨some (0<=p/\p<=1114111),none,.str (cX p),[]⟩):=
 aL (ee Tryz.func299) fun p _ ho=>g0 sn a0 Tryz.func299 (Hf p (ho _ rfl))
theorem F1:ag Tryz.prog 294 (p1 .str fun s=>.ret (.tup [.int .i64 (gO s).1,.int .i64 (gO s).2])):=
 aL (ee Tryz.func294) fun s hs _=>g0 (sc EZ (sc F0 sn)) ⟨[(16,fun S0=>⟨Nat,fun k=>1<=k/\k<=bU s/\(k=1->-300<=aT s k/\aT s k<=300)/\(k=2->-20000<=aT s k/\aT s k<=20000)/\(k=3->-1300000<=aT s k/\aT s k<=1300000)/\(k=4->-90000000<=aT s k/\aT s k<=90000000),fun k=>[(6,.int .i64 k),(5,.int .i64 (aT s k))],fun _=>[],fun k=>bU s-k⟩)],[],[(100013,fun S0=>⟨[(4,.int .i64 (bU s:Int)),(5,.int .i64 (fU s))],[]⟩)]⟩ Tryz.func294 (Hg s hs)
theorem uG:aB Tryz.prog 141:=ee Tryz.func141
theorem wc(n:Nat)(t:Trm)(m:Int)(hs:Wf (.st .term) t)(hz:szT t<=n+1)(h0:0<=m)(h1:m<=1000000)(hA:ag Tryz.prog 141 (p2 (.st .term) (.int .i64) fun t m=>⟨some (szT t<=n/\0<=m/\m<=1000000),none,.tup [.int .i64 (countT t m).1,.int .i64 (countT t m).2],[]⟩)):aF Tryz.prog 141 [.st .term t,.int .i64 m] [] (⟨some (szT t<=n+1/\0<=m/\m<=1000000),none,.tup [.int .i64 (countT t m).1,.int .i64 (countT t m).2],[]⟩):=
 g0 (sc (hA) sn) ⟨[(3,fun S0=>⟨Nat×Int×Int,fun y=>y.1<=t.parts.length/\1<=y.2.1/\y.2.1<=m+1/\0<=y.2.2/\y.2.2+1<=y.2.1/\countL (t.parts.drop y.1) m y.2.1 y.2.2=countL t.parts m 1 0,fun y=>[(6,.int .i64 y.2.1),(7,.int .i64 y.2.2),(15,.int .i64 y.1)],fun _=>[],fun y=>t.parts.length-y.1⟩)],[],[]⟩ Tryz.func141 (En n t m hs hz h0 h1)
theorem sL:∀n:Nat,ag Tryz.prog 141 (p2 (.st .term) (.int .i64) fun t m=>⟨some (szT t<=n/\0<=m/\m<=1000000),none,.tup [.int .i64 (countT t m).1,.int .i64 (countT t m).2],[]⟩)
 |0=>bY uG fun t m hs _ ho=>absurd (ho _ rfl).1 (by have:=eo t;omega)
 |n+1=>bY uG fun t m hs _ ho=>wc n t m hs (ho _ rfl).1 (ho _ rfl).2.1 (ho _ rfl).2.2 (sL n)
theorem yL:ag Tryz.prog 278 (pcl .str 50 fun x=>⟨none,none,.bool (!au x),[]⟩):=
 vQ (ee Tryz.func278) fun x _ ho=>g0 (sc iD sn) a0 Tryz.func278 (B9 x)
theorem yM:ag Tryz.prog 292 (pfc (.lst .str) 278 50 fun l=>⟨none,none,.int .i64 (b9 au l 0),[]⟩):=
 kN (ee Tryz.func292) fun l hl ho=>g0 (sc yL sn) ⟨[(2,fun S0=>⟨Nat,fun k=>k<=l.length/\b9 au (l.drop k) k=b9 au l 0,fun k=>[(8,.int .i64 k)],fun _=>[],fun k=>l.length-k⟩)],[],[]⟩ Tryz.func292 (Ba l hl)
theorem yN:ag Tryz.prog 277 (pfc (.lst .str) 278 50 fun l=>⟨none,none,.bool (!l.all au),[]⟩):=
 kN (ee Tryz.func277) fun l _ ho=>g0 (sc yM sn) a0 Tryz.func277 (Bb l)
theorem uH:ag Tryz.prog 241 (pf (.lst .str) 50 fun l=>⟨none,none,.bool (l.all au),[]⟩):=
 lP (ee Tryz.func241) fun l _ ho=>g0 (sc yN sn) a0 Tryz.func241 (Hh l)
theorem F2:ag Tryz.prog 240 (p1 (.lst .str) fun l=>⟨some (l.length *16<=140737488355328),none,.bool (l.all au&&decide l.Nodup),[]⟩):=
 aL (ee Tryz.func240) fun l _ ho=>g0 (sc jV (sc (jP) (sc uH (sc (iS) sn)))) a0 Tryz.func240 (Hi l (ho _ rfl))
theorem BK:aB Tryz.prog 274:=ee Tryz.func274
theorem tC(n:Nat)(x:Shape) (ho:sz x<=n)(hA:ag Tryz.prog 275 (p1 (.st .shape) fun s=>⟨some (sz s<=n),none,.bool (allS ao s),[]⟩)):aF Tryz.prog 274 [.st .shape x,.ptr 900 0] [(900,.box (.fn 275 []))] (⟨some (sz x<=n),none,.bool (!(allS ao) x),[]⟩):=
 g0 (sc (hA) sn) a0 Tryz.func274 (Bc n x ho)
theorem yO(n:Nat)(hA:ag Tryz.prog 275 (p1 (.st .shape) fun s=>⟨some (sz s<=n),none,.bool (allS ao s),[]⟩)):ag Tryz.prog 274 (pcl (.st .shape) 275 fun x=>⟨some (sz x<=n),none,.bool (!(allS ao) x),[]⟩):=
 vQ BK fun x _ ho=>tC n x (ho _ rfl) hA
theorem BL:aB Tryz.prog 201:=ee Tryz.func201
theorem tD(n:Nat)(l:List AL.Shape) (hl:Wf (.lst (.st .shape)) l)(ho:∀x∈l,sz x<=n)(hA:ag Tryz.prog 275 (p1 (.st .shape) fun s=>⟨some (sz s<=n),none,.bool (allS ao s),[]⟩)):aF Tryz.prog 201 [.lst (.st .shape) l none,.fn 274 [.ptr 900 0]] [(900,.box (.fn 275 []))] (⟨some (∀x∈l,sz x<=n),none,.int .i64 (b9 (allS ao) l 0),[]⟩):=
 g0 (sc ((yO n hA)) sn) ⟨[(2,fun S0=>⟨Nat,fun k=>k<=l.length/\b9 (allS ao) (l.drop k) k=b9 (allS ao) l 0,fun k=>[(8,.int .i64 k)],fun _=>[],fun k=>l.length-k⟩)],[],[]⟩ Tryz.func201 (Bd n l hl ho)
theorem yP(n:Nat)(hA:ag Tryz.prog 275 (p1 (.st .shape) fun s=>⟨some (sz s<=n),none,.bool (allS ao s),[]⟩)):ag Tryz.prog 201 (pfc (.lst (.st .shape)) 274 275 fun l=>⟨some (∀x∈l,sz x<=n),none,.int .i64 (b9 (allS ao) l 0),[]⟩):=
 kN BL fun l hl ho=>tD n l hl (ho _ rfl) hA
theorem BM:aB Tryz.prog 139:=ee Tryz.func139
theorem tE(n:Nat)(l:List AL.Shape) (ho:∀x∈l,sz x<=n)(hA:ag Tryz.prog 275 (p1 (.st .shape) fun s=>⟨some (sz s<=n),none,.bool (allS ao s),[]⟩)):aF Tryz.prog 139 [.lst (.st .shape) l none,.fn 274 [.ptr 900 0]] [(900,.box (.fn 275 []))] (⟨some (∀x∈l,sz x<=n),none,.bool (!l.all (allS ao)),[]⟩):=
 g0 (sc ((yP n hA)) sn) a0 Tryz.func139 (Be n l ho)
theorem yQ(n:Nat)(hA:ag Tryz.prog 275 (p1 (.st .shape) fun s=>⟨some (sz s<=n),none,.bool (allS ao s),[]⟩)):ag Tryz.prog 139 (pfc (.lst (.st .shape)) 274 275 fun l=>⟨some (∀x∈l,sz x<=n),none,.bool (!l.all (allS ao)),[]⟩):=
 kN BM fun l _ ho=>tE n l (ho _ rfl) hA
theorem HG:aB Tryz.prog 237:=ee Tryz.func237
theorem yR(n:Nat)(l:List AL.Shape) (ho:∀x∈l,sz x<=n)(hA:ag Tryz.prog 275 (p1 (.st .shape) fun s=>⟨some (sz s<=n),none,.bool (allS ao s),[]⟩)):aF Tryz.prog 237 [.lst (.st .shape) l none,.fn 275 []] [] (⟨some (∀x∈l,sz x<=n),none,.bool (l.all (allS ao)),[]⟩):=
 g0 (sc ((yQ n hA)) sn) a0 Tryz.func237 (Hj n l ho)
theorem F3(n:Nat)(hA:ag Tryz.prog 275 (p1 (.st .shape) fun s=>⟨some (sz s<=n),none,.bool (allS ao s),[]⟩)):ag Tryz.prog 237 (pf (.lst (.st .shape)) 275 fun l=>⟨some (∀x∈l,sz x<=n),none,.bool (l.all (allS ao)),[]⟩):=
 lP HG fun l _ ho=>yR n l (ho _ rfl) hA
theorem CX:aB Tryz.prog 275:=ee Tryz.func275
theorem BN(n:Nat)(s:AL.Shape)(ho:sz s<=n+1)(hE:ag Tryz.prog 237 (pf (.lst (.st .shape)) 275 fun l=>⟨some (∀x∈l,sz x<=n),none,.bool (l.all (allS ao)),[]⟩)):aF Tryz.prog 275 [.st .shape s] [] (⟨some (sz s<=n+1),none,.bool (allS ao s),[]⟩):=
 g0 (sc (hE) sn) a0 Tryz.func275 (IK n s ho)
theorem yS:∀n:Nat,ag Tryz.prog 275 (p1 (.st .shape) fun s=>⟨some (sz s<=n),none,.bool (allS ao s),[]⟩)
 |0=>aL CX fun s _ ho=>absurd (ho _ rfl) (by have:=fa s;omega)
 |n+1=>aL CX fun s _ ho=>BN n s (ho _ rfl) (F3 n (yS n))
theorem BO:ag Tryz.prog 238 (p1 (.st .shape) fun s=>.ret (.bool (decide (bH s=0)&&allS ao s))):=
 aL (ee Tryz.func238) fun s _ _=>g0 (sc uD (sc (yS 400) sn)) a0 Tryz.func238 (Eo s)
theorem IP:ag Tryz.prog 236 (p1 (.st .term) fun t=>.ret (.agg [.int .i64 (t.names.length:Int),.int .i64 (t.vars.length:Int),.int .i64 (t.shapes.length:Int),.int .i64 (t.parts.length:Int)])):=
 aL (ee Tryz.func236) fun t _ _=>g0 sn a0 Tryz.func236 (JI t)
theorem F4:ag Tryz.prog 239 (p1 .str fun s=>.ret (.bool (iT s))):=
 aL (ee Tryz.func239) fun s hs _=>g0 (sc (DJ) sn) ⟨[(2,fun S0=>⟨Nat,fun k=>k<=s.length/\(s.all df)=(s.drop k).all df,fun k=>[(8,.int .i64 k)],fun _=>[],fun k=>s.length-k⟩)],[],[]⟩ Tryz.func239 (Hk s hs)
theorem we:ag Tryz.prog 274 (pcl (.st .shape) 238 fun x=>⟨none,none,.bool (!bg x),[]⟩):=
 vQ (ee Tryz.func274) fun x _ ho=>g0 (sc BO sn) a0 Tryz.func274 (yu x)
theorem wg:ag Tryz.prog 201 (pfc (.lst (.st .shape)) 274 238 fun l=>⟨none,none,.int .i64 (b9 bg l 0),[]⟩):=
 kN (ee Tryz.func201) fun l hl ho=>g0 (sc we sn) ⟨[(2,fun S0=>⟨Nat,fun k=>k<=l.length/\b9 bg (l.drop k) k=b9 bg l 0,fun k=>[(8,.int .i64 k)],fun _=>[],fun k=>l.length-k⟩)],[],[]⟩ Tryz.func201 (yw l hl)
theorem wh:ag Tryz.prog 139 (pfc (.lst (.st .shape)) 274 238 fun l=>⟨none,none,.bool (!l.all bg),[]⟩):=
 kN (ee Tryz.func139) fun l _ ho=>g0 (sc wg sn) a0 Tryz.func139 (yy l)
theorem BP:ag Tryz.prog 237 (pf (.lst (.st .shape)) 238 fun l=>⟨none,none,.bool (l.all bg),[]⟩):=
 lP (ee Tryz.func237) fun l _ ho=>g0 (sc wh sn) a0 Tryz.func237 (Ep l)
theorem F5:ag Tryz.prog 202 (p1 (.st .term) fun t=>⟨some (t.names.length<=8796093022208),none,.bool (az t),[]⟩):=
 aL (ee Tryz.func202) fun t ht ho=>g0 (sc IP (sc BP (sc F4 (sc iD (sc F2 (sc uH (sc ju sn))))))) ⟨[],[],[(2,fun S0=>⟨[(34,.bool (!iC t))],[]⟩)]⟩ Tryz.func202 (Hl t ht (ho _ rfl))
theorem yT:aB Tryz.prog 243:=ee Tryz.func243
theorem sM(n:Nat)(x:Trm) (ho:szT x<=n/\cG x=true)(hA:ag Tryz.prog 142 (p1 (.st .term) fun t=>⟨some (szT t<=n/\cG t=true),none,.bool (allT az t),[]⟩)):aF Tryz.prog 243 [.st .term x,.ptr 900 0] [(900,.box (.fn 142 []))] (⟨some (szT x<=n/\cG x=true),none,.bool (!(allT az) x),[]⟩):=
 g0 (sc (hA) sn) a0 Tryz.func243 (yz n x ho)
theorem wi(n:Nat)(hA:ag Tryz.prog 142 (p1 (.st .term) fun t=>⟨some (szT t<=n/\cG t=true),none,.bool (allT az t),[]⟩)):ag Tryz.prog 243 (pcl (.st .term) 142 fun x=>⟨some (szT x<=n/\cG x=true),none,.bool (!(allT az) x),[]⟩):=
 vQ yT fun x _ ho=>sM n x (ho _ rfl) hA
theorem yU:aB Tryz.prog 279:=ee Tryz.func279
theorem sO(n:Nat)(l:List Trm) (hl:Wf (.lst (.st .term)) l)(ho:∀x∈l,szT x<=n/\cG x=true)(hA:ag Tryz.prog 142 (p1 (.st .term) fun t=>⟨some (szT t<=n/\cG t=true),none,.bool (allT az t),[]⟩)):aF Tryz.prog 279 [.lst (.st .term) l none,.fn 243 [.ptr 900 0]] [(900,.box (.fn 142 []))] (⟨some (∀x∈l,szT x<=n/\cG x=true),none,.int .i64 (b9 (allT az) l 0),[]⟩):=
 g0 (sc ((wi n hA)) sn) ⟨[(2,fun S0=>⟨Nat,fun k=>k<=l.length/\b9 (allT az) (l.drop k) k=b9 (allT az) l 0,fun k=>[(8,.int .i64 k)],fun _=>[],fun k=>l.length-k⟩)],[],[]⟩ Tryz.func279 (yA n l hl ho)
theorem wj(n:Nat)(hA:ag Tryz.prog 142 (p1 (.st .term) fun t=>⟨some (szT t<=n/\cG t=true),none,.bool (allT az t),[]⟩)):ag Tryz.prog 279 (pfc (.lst (.st .term)) 243 142 fun l=>⟨some (∀x∈l,szT x<=n/\cG x=true),none,.int .i64 (b9 (allT az) l 0),[]⟩):=
 kN yU fun l hl ho=>sO n l hl (ho _ rfl) hA
theorem yV:aB Tryz.prog 242:=ee Tryz.func242
theorem sP(n:Nat)(l:List Trm) (ho:∀x∈l,szT x<=n/\cG x=true)(hA:ag Tryz.prog 142 (p1 (.st .term) fun t=>⟨some (szT t<=n/\cG t=true),none,.bool (allT az t),[]⟩)):aF Tryz.prog 242 [.lst (.st .term) l none,.fn 243 [.ptr 900 0]] [(900,.box (.fn 142 []))] (⟨some (∀x∈l,szT x<=n/\cG x=true),none,.bool (!l.all (allT az)),[]⟩):=
 g0 (sc ((wj n hA)) sn) a0 Tryz.func242 (yB n l ho)
theorem wk(n:Nat)(hA:ag Tryz.prog 142 (p1 (.st .term) fun t=>⟨some (szT t<=n/\cG t=true),none,.bool (allT az t),[]⟩)):ag Tryz.prog 242 (pfc (.lst (.st .term)) 243 142 fun l=>⟨some (∀x∈l,szT x<=n/\cG x=true),none,.bool (!l.all (allT az)),[]⟩):=
 kN yV fun l _ ho=>sP n l (ho _ rfl) hA
theorem F6:aB Tryz.prog 203:=ee Tryz.func203
theorem wo(n:Nat)(l:List Trm) (ho:∀x∈l,szT x<=n/\cG x=true)(hA:ag Tryz.prog 142 (p1 (.st .term) fun t=>⟨some (szT t<=n/\cG t=true),none,.bool (allT az t),[]⟩)):aF Tryz.prog 203 [.lst (.st .term) l none,.fn 142 []] [] (⟨some (∀x∈l,szT x<=n/\cG x=true),none,.bool (l.all (allT az)),[]⟩):=
 g0 (sc ((wk n hA)) sn) a0 Tryz.func203 (Er n l ho)
theorem BQ(n:Nat)(hA:ag Tryz.prog 142 (p1 (.st .term) fun t=>⟨some (szT t<=n/\cG t=true),none,.bool (allT az t),[]⟩)):ag Tryz.prog 203 (pf (.lst (.st .term)) 142 fun l=>⟨some (∀x∈l,szT x<=n/\cG x=true),none,.bool (l.all (allT az)),[]⟩):=
 lP F6 fun l _ ho=>wo n l (ho _ rfl) hA
theorem uI:aB Tryz.prog 142:=ee Tryz.func142
theorem wq(n:Nat)(t:Trm)(ho:szT t<=n+1/\cG t=true)(hE:ag Tryz.prog 203 (pf (.lst (.st .term)) 142 fun l=>⟨some (∀x∈l,szT x<=n/\cG x=true),none,.bool (l.all (allT az)),[]⟩)):aF Tryz.prog 142 [.st .term t] [] (⟨some (szT t<=n+1/\cG t=true),none,.bool (allT az t),[]⟩):=
 g0 (sc F5 (sc (hE) sn)) a0 Tryz.func142 (Es n t ho)
theorem sQ:∀n:Nat,ag Tryz.prog 142 (p1 (.st .term) fun t=>⟨some (szT t<=n/\cG t=true),none,.bool (allT az t),[]⟩)
 |0=>aL uI fun t _ ho=>absurd (ho _ rfl).1 (by have:=eo t;omega)
 |n+1=>aL uI fun t _ ho=>wq n t (ho _ rfl) (BQ n (sQ n))
theorem wu(x:Trm)(ho:cG x=true) :aF Tryz.prog 93 [.st .term x] [] (⟨some (cG x=true),none,.int .i64 (db x),[]⟩):=
 g0 (sc (sL (szT x)) (sc (sQ (szT x)) sn)) a0 Tryz.func93 (Et x ho)
theorem BR:ag Tryz.prog 93 (p1 (.st .term) fun t=>⟨some (cG t=true),none,.int .i64 (db t),[]⟩):=
 aL (ee Tryz.func93) fun t _ ho=>wu t (ho _ rfl)
theorem BS:ag Tryz.prog 255 (p2 (.lst .str) .bool fun ns b=>.ret (.bool (eD ns b))):=
 bY (ee Tryz.func255) fun ns b hl _ _=>g0 (sc ig sn) ⟨[(2,fun S0=>⟨Nat,fun k=>k<=ns.length/\(ns.take k).all au=true/\(b=true->(ns.take k).Nodup),fun k=>[(5,.int .i64 k)],fun _=>[],fun k=>ns.length-k⟩),(7,fun S0=>mR S0 5 fun k0=>⟨Nat,fun j=>(j:Int)<=k0/\(b=true->(ns.getD k0.toNat (dfl .str))∉ns.take j)/\(b=false->j=0),fun j=>[(6,.int .i64 j)],fun _=>[],fun j=>k0.toNat-j⟩)],[],[]⟩ Tryz.func255 (Eu ns b hl)
theorem sR:aB Tryz.prog 283:=ee Tryz.func283
theorem tF(n:Nat)(s:AL.Shape)(hs:Wf (.st .shape) s)(hn:sz s<=n+1)(hA:ag Tryz.prog 283 (p1 (.st .shape) fun s=>⟨some (sz s<=n),none,.bool (!allS ao s),[]⟩)):aF Tryz.prog 283 [.st .shape s] [] (.ret (.bool (!allS ao s))):=
 g0 (sc (hA) sn) ⟨[(2,fun S0=>⟨Nat,fun k=>k<=s.parts.length/\allS ao s=(ao s&&allL ao (s.parts.drop k)),fun k=>[(3,.int .i64 k)],fun _=>[],fun k=>s.parts.length-k⟩)],[],[]⟩ Tryz.func283 (Bf n s hs hn)
theorem yW:∀n:Nat,ag Tryz.prog 283 (p1 (.st .shape) fun s=>⟨some (sz s<=n),none,.bool (!allS ao s),[]⟩):=by
 intro n
 induction n with
 |zero=>exact aL sR fun a _ ho=>absurd (ho _ rfl) (by have:=fa a;omega)
 |succ n ih=>exact aL sR fun a hs ho=>tF n a hs (ho _ rfl) ih
theorem yX:ag Tryz.prog 256 (p1 (.lst (.st .shape)) fun l=>.ret (.bool (l.all bg))):=
 aL (ee Tryz.func256) fun l hl _=>g0 (sc sJ (sc (yW 400) sn)) ⟨[(2,fun S0=>⟨Nat,fun k=>k<=l.length/\l.all bg=(l.drop k).all bg,fun k=>[(3,.int .i64 k)],fun _=>[],fun k=>l.length-k⟩)],[],[]⟩ Tryz.func256 (Bg l hl)
theorem BT:ag Tryz.prog 257 (p5 (.st .term) (.int .i64) (.int .i64) (.int .i64) (.int .i64) fun t n v s p=>.ret (.bool (gK t n v s p))):=
 K0 (ee Tryz.func257) fun t n v s p _ _ _ _=>g0 sn a0 Tryz.func257 (Ev t n v s p)
theorem yY:ag Tryz.prog 284 (p1 .str fun s=>⟨some (s.length<=2000000),none,.tup [.lst (.int .i64) (jb s).1 none,.st .fault (jb s).2],[]⟩):=
 aL (ee Tryz.func284) fun s hs ho=>g0 (sc F1 sn) ⟨[(3,fun S0=>⟨Nat×Nat×List Int,fun y=>y.2.1<=s.length/\s.length-y.2.1<y.1/\y.2.2.length<=y.2.1/\jR s y.1 y.2.1 y.2.2=jb s,fun y=>[(5,.int .i64 (y.2.1:Int)),(4,.lst (.int .i64) y.2.2 (some 701))],fun y=>[(701,.tail (.int .i64) y.2.2.length)],fun y=>s.length-y.2.1⟩)],[],[]⟩ Tryz.func284 (Bh s hs (ho _ rfl))
theorem F7:ag Tryz.prog 258 (p1 .str fun s=>⟨some (s.length<=2000000),none,.bool (iT s),[]⟩):=
 aL (ee Tryz.func258) fun s hs ho=>g0 (sc yY sn) ⟨[(2,fun S0=>⟨Nat,fun k=>k<=s.length/\s.all df=(s.drop k).all df,fun k=>[(3,.int .i64 k)],fun _=>[],fun k=>s.length-k⟩)],[],[]⟩ Tryz.func258 (Hm s hs (ho _ rfl))
theorem F8:ag Tryz.prog 214 (p1 (.st .term) fun t=>⟨some (t.name.length<=2000000/\t.names.length<=2000000),none,.bool (az t),[]⟩):=
 aL (ee Tryz.func214) fun t ht ho=>g0 (sc BS (sc yX (sc ig (sc jW (sc BT (sc F7 sn)))))) a0 Tryz.func214 (Hn t ht (ho _ rfl))
theorem uJ:aB Tryz.prog 161:=ee Tryz.func161
theorem wv(n:Nat)(t:Trm)(ht:Wf (.st .term) t)(hn:szT t<=n+1)(ho:dt t=true)(hA:ag Tryz.prog 161 (p1 (.st .term) fun t=>⟨some (szT t<=n/\dt t=true),none,.bool (allT az t),[]⟩)):aF Tryz.prog 161 [.st .term t] [] (.ret (.bool (allT az t))):=
 g0 (sc F8 (sc (hA) sn)) ⟨[(4,fun S0=>⟨Nat,fun k=>k<=t.parts.length/\allT az t=allTL az (t.parts.drop k),fun k=>[(3,.int .i64 k)],fun _=>[],fun k=>t.parts.length-k⟩)],[],[]⟩ Tryz.func161 (Ew n t ht hn ho)
theorem BU:∀n:Nat,ag Tryz.prog 161 (p1 (.st .term) fun t=>⟨some (szT t<=n/\dt t=true),none,.bool (allT az t),[]⟩):=by
 intro n
 induction n with
 |zero=>exact aL uJ fun a _ ho=>absurd (ho _ rfl).1 (by have:=eo a;omega)
 |succ n ih=>exact aL uJ fun a hs ho=>wv n a hs (ho _ rfl).1 (ho _ rfl).2 ih
theorem yZ:aB Tryz.prog 21:=ee Tryz.func21
theorem z6(n:Nat)(s:Trm)(m:Int)(hs:Wf (.st .term) s)(ho:szT s<=n+1/\0<=m/\m<=1000000)(hA:ag Tryz.prog 21 (p2 (.st .term) (.int .i64) fun s m=>⟨some (szT s<=n/\0<=m/\m<=1000000),none,.int .i64 (dr s m),[]⟩)):aF Tryz.prog 21 [.st .term s,.int .i64 m] [] (.ret (.int .i64 (dr s m))):=
 g0 (sc (hA) sn) ⟨[(3,fun S0=>⟨Nat×Int,fun x=>x.1<=s.parts.length/\1<=x.2/\x.2<=m+1/\sizeTL (s.parts.drop x.1) x.2 m=dr s m,fun x=>[(5,.int .i64 x.2),(6,.int .i64 x.1)],fun _=>[],fun x=>s.parts.length-x.1⟩)],[],[]⟩ Tryz.func21 (Ho n s m hs ho)
theorem uK:∀n:Nat,ag Tryz.prog 21 (p2 (.st .term) (.int .i64) fun s m=>⟨some (szT s<=n/\0<=m/\m<=1000000),none,.int .i64 (dr s m),[]⟩):=by
 intro n
 induction n with
 |zero=>exact bY yZ fun a m _ _ ho=>absurd (ho _ rfl).1 (by have:=eo a;omega)
 |succ n ih=>exact bY yZ fun a m ha _ ho=>z6 n a m ha (ho _ rfl) ih
theorem z7:aB Tryz.prog 160:=ee Tryz.func160
theorem z8(n:Nat)(s:Trm)(hs:Wf (.st .term) s)(hn:szT s<=n+1)(hb:n<=1000000)(hA:ag Tryz.prog 160 (p1 (.st .term) fun s=>⟨some (szT s<=n),none,.int .i64 (deepT s:Int),[]⟩)):aF Tryz.prog 160 [.st .term s] [] (.ret (.int .i64 (deepT s:Int))):=
 g0 (sc (hA) sn) ⟨[(3,fun S0=>⟨Nat×Int,fun x=>x.1<=s.parts.length/\0<=x.2/\max x.2 (maxDT (s.parts.drop x.1):Int)=maxDT s.parts,fun x=>[(3,.int .i64 x.2),(4,.int .i64 x.1)],fun _=>[],fun x=>s.parts.length-x.1⟩)],[],[]⟩ Tryz.func160 (Hp n s hs hn hb)
theorem F9:∀n:Nat,n<=1000000->ag Tryz.prog 160 (p1 (.st .term) fun s=>⟨some (szT s<=n),none,.int .i64 (deepT s:Int),[]⟩):=by
 intro n
 induction n with
 |zero=>exact fun _=>aL z7 fun a _ ho=>absurd (ho _ rfl) (by have:=eo a;omega)
 |succ n ih=>exact fun hb=>aL z7 fun a hs ho=>z8 n a hs (ho _ rfl) (by omega) (ih (by omega))
theorem BV:ag Tryz.prog 107 (p1 (.st .term) fun s=>⟨some (dt s=true),none,.int .i64 (db s),[]⟩):=
 aL (ee Tryz.func107) fun s hs ho=>g0 (sc (uK (szT s)) (sc (F9 4096 (by decide)) (sc (BU 4096) sn))) a0 Tryz.func107 (Ex s hs (ho _ rfl))
theorem wy:ag Tryz.prog 164 (p2 (.lst .str) (.lst .str) fun a b=>.ret (.bool (decide (a=b)))):=
 bY (ee Tryz.func164) fun a b ha hb _=>g0 sn ⟨[(4,fun S0=>⟨Nat,fun k=>k<=a.length/\a.length=b.length/\(a=b↔a.drop k=b.drop k),fun k=>[(5,.int .i64 k)],fun _=>[],fun k=>a.length-k⟩)],[],[]⟩ Tryz.func164 (yC a b ha hb)
theorem uL:aB Tryz.prog 110:=ee Tryz.func110
theorem wz(n:Nat)(a b:Trm)(p:Bool)(ha:Wf (.st .term) a)(hb:Wf (.st .term) b)(hn:szT a<=n+1)(hA:ag Tryz.prog 110 (p3 (.st .term) (.st .term) .bool fun a b p=>⟨some (szT a<=n),none,.bool (eqT a b p),[]⟩)):aF Tryz.prog 110 [.st .term a,.st .term b,.bool p] [] (.ret (.bool (eqT a b p))):=
 g0 (sc wy (sc (sK (szL a.shapes)) (sc (hA) sn))) ⟨[(6,fun S0=>⟨Nat,fun k=>k<=a.shapes.length/\a.shapes.length=b.shapes.length/\a.parts.length=b.parts.length/\eqT a b p=(eqL (a.shapes.drop k) (b.shapes.drop k)&&eqTL a.parts b.parts p),fun k=>[(7,.int .i64 k)],fun _=>[],fun k=>a.shapes.length-k⟩),(11,fun S0=>⟨Nat,fun k=>k<=a.parts.length/\a.parts.length=b.parts.length/\eqT a b p=eqTL (a.parts.drop k) (b.parts.drop k) p,fun k=>[(8,.int .i64 k)],fun _=>[],fun k=>a.parts.length-k⟩)],[],[]⟩ Tryz.func110 (Ey n a b p ha hb hn)
theorem BW:∀n:Nat,ag Tryz.prog 110 (p3 (.st .term) (.st .term) .bool fun a b p=>⟨some (szT a<=n),none,.bool (eqT a b p),[]⟩):=by
 intro n
 induction n with
 |zero=>exact FZ uL fun a b _ _ _ _ ho=>absurd (ho _ rfl) (by have:=eo a;omega)
 |succ n ih=>exact FZ uL fun a b p ha hb _ ho=>wz n a b p ha hb (ho _ rfl) ih
theorem pA:ag Tryz.prog 133 (p1 .str fun s=>.ret (.bool (aM s))):=
 aL (ee Tryz.func133) fun s _ _=>g0 (sc (xH) sn) a0 Tryz.func133 (Bi s)
theorem Fa:ag Tryz.prog 88 (p1 .str fun s=>.ret (.bool (ca s))):=
 aL (ee Tryz.func88) fun s hs _=>g0 (sc pA sn) ⟨[(4,fun S0=>⟨Nat,fun k=>k<=s.length/\(s.all fun c=>eL (bI c))=(s.drop k).all fun c=>eL (bI c),fun k=>[(22,.int .i64 k)],fun _=>[],fun k=>s.length-k⟩)],[],[]⟩ Tryz.func88 (Hq s hs)
theorem sS:ag Tryz.prog 51 (p1 (.st .version) fun v=>.ret (.int .i64 (bq v))):=
 aL (ee Tryz.func51) fun v hv _=>g0 (sc (ot) (sc Fa sn)) ⟨[(2,fun S0=>⟨Nat,fun k=>k<=3/\([v.major,v.minor,v.patch].take k).all pH=true,fun k=>[(15,.int .i64 k)],fun _=>[],fun k=>3-k⟩),(11,fun S0=>⟨Nat,fun k=>k<=(splitB 46 v.pre).length/\((splitB 46 v.pre).take k).all ca=true,fun k=>[(37,.int .i64 k)],fun _=>[],fun k=>(splitB 46 v.pre).length-k⟩)],[],[]⟩ Tryz.func51 (Ez v hv)
theorem BX:ag Tryz.prog 166 (p2 .str (.int .u8) fun s c=>⟨some (c=48),none,.str (cb s),[]⟩):=
 bY (ee Tryz.func166) fun s c hs _ ho=>g0 sn ⟨[(1,fun S0=>⟨Nat,fun k=>k<=s.length/\cb s=cb (s.drop k),fun k=>[(0,.str (s.drop k))],fun _=>[],fun k=>s.length-k⟩)],[],[]⟩ Tryz.func166 (EA s c hs (ho _ rfl))
theorem wA:ag Tryz.prog 234 (p2 .str .str fun s t=>⟨some (t=[48]),none,.str (cb s),[]⟩):=
 bY (ee Tryz.func234) fun s t _ _ ho=>g0 (sc BX sn) a0 Tryz.func234 (yD s t (ho _ rfl))
theorem HH:ag Tryz.prog 193 (p1 (.int .i64) fun a=>.ret (.bool false)):=
 aL (ee Tryz.func193) fun a _ _=>g0 sn a0 Tryz.func193 (IL a)
theorem sT:ag Tryz.prog 134 (p2 (.int .i64) (.int .i64) fun a b=>.ret (.int .i64 (bj a b))):=
 bY (ee Tryz.func134) fun a b _ _ _=>g0 (sc HH sn) a0 Tryz.func134 (EB a b)
theorem CY:ag Tryz.prog 30 (p1 (.lst (.int .i64)) fun l=>.ret (.int .i64 (orI l))):=
 aL (ee Tryz.func30) fun l hl _=>g0 sn ⟨[(3,fun S0=>⟨Nat,fun k=>k<=l.length/\orI l=orI (l.drop k),fun k=>[(8,.int .i64 k)],fun _=>[],fun k=>l.length-k⟩)],[],[]⟩ Tryz.func30 (JJ l hl)
theorem za:ag Tryz.prog 194 (p2 .str .str fun a b=>.ret (.int .i64 (xP a b))):=
 bY (ee Tryz.func194) fun a b _ _ _=>g0 (sc wA (sc sT (sc (pw) (sc CY sn)))) a0 Tryz.func194 (Bj a b)
theorem BY:ag Tryz.prog 135 (p2 .str .str fun a b=>.ret (.int .i64 (gJ a b))):=
 bY (ee Tryz.func135) fun a b _ _ _=>g0 (sc pA (sc za (sc (pw) sn))) a0 Tryz.func135 (EC a b)
theorem HI:ag Tryz.prog 90 (p2 (.st .version) (.st .version) fun a b=>⟨some (a.pre.length<=4096/\b.pre.length<=4096),none,.int .i64 (fP a b),[]⟩):=
 bY (ee Tryz.func90) fun a b _ _ ho=>g1 nn (fun _=>[]) nn nn (fun d=>Nat.beq d 17||Nat.beq d 22||Nat.beq d 27||Nat.beq d 29||Nat.beq d 43||Nat.beq d 46||Nat.beq d 63) (sc sT (sc CY (sc BY (sc (ot) sn)))) ⟨[(12,fun S0=>⟨Nat,fun k=>k<=(splitB 46 a.pre).length/\k<=(splitB 46 b.pre).length/\gj (splitB 46 a.pre) (splitB 46 b.pre)=gj ((splitB 46 a.pre).drop k) ((splitB 46 b.pre).drop k),fun k=>[(52,.int .i64 k)],fun _=>[],fun k=>(splitB 46 a.pre).length-k⟩)],[],[]⟩ Tryz.func90 (IM a b (ho _ rfl))
theorem Fb:ag Tryz.prog 89 (p1 (.int .i64) fun n=>.ret (.str (rY n))):=
 aL (ee Tryz.func89) fun n _ _=>g0 sn a0 Tryz.func89 (Hr n)
theorem BZ:ag Tryz.prog 52 (p1 (.lst (.st .bound)) fun l=>.ret (.int .i64 (gZ l))):=
 aL (ee Tryz.func52) fun l hl _=>g0 (sc Fb (sc sS sn)) ⟨[(4,fun S0=>⟨Nat,fun k=>k<=l.length/\l.all fx=(l.drop k).all fx,fun k=>[(10,.int .i64 k)],fun _=>[],fun k=>l.length-k⟩)],[],[]⟩ Tryz.func52 (ED l hl)
theorem C0:ag Tryz.prog 53 (p2 (.st .version) (.lst (.st .bound)) fun v l=>⟨some (v.pre.length<=4096/\∀b∈l,b.v.pre.length<=4096),none,.bool (bB v l),[]⟩):=
 bY (ee Tryz.func53) fun v l _ hl ho=>g0 (sc HI sn) ⟨[(2,fun S0=>⟨Nat,fun k=>k<=l.length/\bB v l=bB v (l.drop k),fun k=>[(10,.int .i64 k)],fun _=>[],fun k=>l.length-k⟩)],[],[]⟩ Tryz.func53 (EE v l hl (ho _ rfl))
theorem zb:ag Tryz.prog 211 (p2 (.int .i64) (.int .i64) fun a b=>.ret (.int .i64 (bj a b))):=
 bY (ee Tryz.func211) fun a b _ _ _=>g0 sn a0 Tryz.func211 (Bk a b)
theorem zc:ag Tryz.prog 254 (p2 .str .str fun a b=>.ret (.int .i64 (fw a b))):=
 bY (ee Tryz.func254) fun a b _ _ _=>g0 sn a0 Tryz.func254 (Bl a b)
theorem HJ:ag Tryz.prog 212 (p2 .str .str fun a b=>.ret (.int .i64 (nzT a b))):=
 bY (ee Tryz.func212) fun a b _ _ _=>g0 sn a0 Tryz.func212 (IN a b)
theorem zd:ag Tryz.prog 213 (p2 .str .str fun a b=>⟨some (a.length<=4096/\b.length<=4096),none,.int .i64 (gJ a b),[]⟩):=
 bY (ee Tryz.func213) fun a b _ _ ho=>g0 (sc nB (sc zc sn)) ⟨[(8,fun S0=>⟨Nat,fun k=>k<=b.length-a.length,fun k=>[(0,.str (List.replicate k 48++a))],fun _=>[],fun k=>b.length-a.length-k⟩),(10,fun S0=>⟨Nat,fun k=>k<=a.length-b.length,fun k=>[(1,.str (List.replicate k 48++b))],fun _=>[],fun k=>a.length-b.length-k⟩)],[],[]⟩ Tryz.func213 (Bn a b (ho _ rfl))
theorem Fc:ag Tryz.prog 159 (p2 (.st .version) (.st .version) fun a b=>⟨some (a.pre.length<=4096/\b.pre.length<=4096),none,.int .i64 (fP a b),[]⟩):=
 bY (ee Tryz.func159) fun a b _ _ ho=>g1 nn (fun _=>[]) nn nn (fun d=>Nat.beq d 50||Nat.beq d 53||Nat.beq d 54||Nat.beq d 59||Nat.beq d 63||Nat.beq d 66) (sc zb (sc HJ (sc zd (sc (so) sn)))) ⟨[(3,fun S0=>⟨Nat,fun k=>k<=3/\∀j<k,[bj a.major b.major,bj a.minor b.minor,bj a.patch b.patch].getD j 0=0,fun k=>[(6,.int .i64 k)],fun _=>[],fun k=>3-k⟩),(11,fun S0=>⟨Nat,fun k=>k<=(splitB 46 a.pre).length/\k<=(splitB 46 b.pre).length/\gj (splitB 46 a.pre) (splitB 46 b.pre)=gj ((splitB 46 a.pre).drop k) ((splitB 46 b.pre).drop k),fun k=>[(9,.int .i64 k)],fun _=>[],fun k=>(splitB 46 a.pre).length-k⟩)],[],[]⟩ Tryz.func159 (Hs a b (ho _ rfl))
theorem ze:ag Tryz.prog 63 (p1 (.lst (.st .bound)) fun l=>.ret (.int .i64 (gZ l))):=
 aL (ee Tryz.func63) fun l hl _=>g0 (sc pz sn) ⟨[(4,fun S0=>⟨Nat,fun k=>k<=l.length/\l.all fx=(l.drop k).all fx,fun k=>[(3,.int .i64 k)],fun _=>[],fun k=>l.length-k⟩)],[],[]⟩ Tryz.func63 (Bp l hl)
theorem Fe:ag Tryz.prog 106 (p2 (.st .version) (.st .bound) fun v b=>⟨some (v.pre.length<=4096/\b.v.pre.length<=4096),none,.bool (lI v b),[]⟩):=
 bY (ee Tryz.func106) fun v b _ _ ho=>g0 (sc Fc sn) a0 Tryz.func106 (Ht v b (ho _ rfl))
theorem zf:ag Tryz.prog 64 (p2 (.st .version) (.lst (.st .bound)) fun v l=>⟨some (v.pre.length<=4096/\∀b∈l,b.v.pre.length<=4096),none,.bool (bB v l),[]⟩):=
 bY (ee Tryz.func64) fun v l _ hl ho=>g0 (sc Fe sn) ⟨[(2,fun S0=>⟨Nat,fun k=>k<=l.length/\bB v l=bB v (l.drop k),fun k=>[(5,.int .i64 k)],fun _=>[],fun k=>l.length-k⟩)],[],[]⟩ Tryz.func64 (Bq v l hl (ho _ rfl))
theorem C1:aB Tryz.prog 140:=ee Tryz.func140
theorem tG(n:Nat)(x:Shape)(ho:sz x<=n)(hA:ag Tryz.prog 92 (p1 (.st .shape) fun s=>⟨some (sz s<=n),none,.bool (allS ao s),[]⟩)):aF Tryz.prog 140 [.st .shape x] [] (⟨some (sz x<=n),none,.bool (!allS ao x),[]⟩):=
 g0 (sc (hA) sn) a0 Tryz.func140 (Br n x ho)
theorem zg(n:Nat)(hA:ag Tryz.prog 92 (p1 (.st .shape) fun s=>⟨some (sz s<=n),none,.bool (allS ao s),[]⟩)):ag Tryz.prog 140 (p1 (.st .shape) fun x=>⟨some (sz x<=n),none,.bool (!allS ao x),[]⟩):=
 aL C1 fun x _ ho=>tG n x (ho _ rfl) hA
theorem C2:aB Tryz.prog 201:=ee Tryz.func201
theorem tH(n:Nat)(l:List AL.Shape)(hl:Wf (.lst (.st .shape)) l)(ho:∀x∈l,sz x<=n)(hA:ag Tryz.prog 92 (p1 (.st .shape) fun s=>⟨some (sz s<=n),none,.bool (allS ao s),[]⟩)):aF Tryz.prog 201 [.lst (.st .shape) l none,.fn 140 []] [] (⟨some (∀x∈l,sz x<=n),none,.int .i64 (b9 (allS ao) l 0),[]⟩):=
 g0 (sc (zg n hA) sn) ⟨[(2,fun S0=>⟨Nat,fun k=>k<=l.length/\b9 (allS ao) (l.drop k) k=b9 (allS ao) l 0,fun k=>[(8,.int .i64 k)],fun _=>[],fun k=>l.length-k⟩)],[],[]⟩ Tryz.func201 (Bt n l hl ho)
theorem zh(n:Nat)(hA:ag Tryz.prog 92 (p1 (.st .shape) fun s=>⟨some (sz s<=n),none,.bool (allS ao s),[]⟩)):ag Tryz.prog 201 (pf (.lst (.st .shape)) 140 fun l=>⟨some (∀x∈l,sz x<=n),none,.int .i64 (b9 (allS ao) l 0),[]⟩):=
 lP C2 fun l hl ho=>tH n l hl (ho _ rfl) hA
theorem C3:aB Tryz.prog 139:=ee Tryz.func139
theorem tI(n:Nat)(l:List AL.Shape)(hl:Wf (.lst (.st .shape)) l)(ho:∀x∈l,sz x<=n)(hA:ag Tryz.prog 92 (p1 (.st .shape) fun s=>⟨some (sz s<=n),none,.bool (allS ao s),[]⟩)):aF Tryz.prog 139 [.lst (.st .shape) l none,.fn 140 []] [] (⟨some (∀x∈l,sz x<=n),none,.bool (!l.all (allS ao)),[]⟩):=
 g0 (sc (zh n hA) sn) a0 Tryz.func139 (Bu n l hl ho)
theorem zi(n:Nat)(hA:ag Tryz.prog 92 (p1 (.st .shape) fun s=>⟨some (sz s<=n),none,.bool (allS ao s),[]⟩)):ag Tryz.prog 139 (pf (.lst (.st .shape)) 140 fun l=>⟨some (∀x∈l,sz x<=n),none,.bool (!l.all (allS ao)),[]⟩):=
 lP C3 fun l hl ho=>tI n l hl (ho _ rfl) hA
theorem zj:aB Tryz.prog 92:=ee Tryz.func92
theorem zk(n:Nat)(s:AL.Shape)(ho:sz s<=n+1)(hE:ag Tryz.prog 139 (pf (.lst (.st .shape)) 140 fun l=>⟨some (∀x∈l,sz x<=n),none,.bool (!l.all (allS ao)),[]⟩)):aF Tryz.prog 92 [.st .shape s] [] (⟨some (sz s<=n+1),none,.bool (allS ao s),[]⟩):=
 g0 (sc (hE) sn) a0 Tryz.func92 (Hu n s ho)
theorem uM:∀n:Nat,ag Tryz.prog 92 (p1 (.st .shape) fun s=>⟨some (sz s<=n),none,.bool (allS ao s),[]⟩)
 |0=>aL zj fun s _ ho=>absurd (fa s) (by have:=ho _ rfl;omega)
 |n+1=>aL zj fun s _ ho=>zk n s (ho _ rfl) (zi n (uM n))
theorem C4:ag Tryz.prog 56 (p1 (.lst .str) fun l=>⟨some (l.length *16<=140737488355328),none,.bool (decide l.Nodup),[]⟩):=
 aL (ee Tryz.func56) fun l _ ho=>g0 (sc jV (sc (jP) (sc (iS) sn))) a0 Tryz.func56 (EF l (ho _ rfl))
theorem Ff:ag Tryz.prog 54 (p1 (.st .decl) fun d=>⟨some (bT d=true),none,.bool (cY d),[]⟩):=
 aL (ee Tryz.func54) fun d _ ho=>g0 (sc ju (sc iD (sc uD (sc (uM 400) (sc BR sn))))) ⟨[],[],[(1,fun S0=>⟨[(3,.bool (noS d.shape))],[]⟩),(3,fun S0=>⟨[(5,.bool (noT d.term))],[]⟩)]⟩ Tryz.func54 (Hv d (ho _ rfl))
theorem sU:ag Tryz.prog 24 (p1 (.st .modu) fun m=>⟨some (m.decls.all bT=true/\m.decls.length<=1000000),none,.int .i64 (bu m),[]⟩):=
 aL (ee Tryz.func24) fun m hm ho=>g0 (sc iD (sc ju (sc sS (sc BZ (sc C0 (sc Ff (sc C4 sn))))))) ⟨[(5,fun S0=>⟨Nat,fun k=>k<=m.imports.length/\m.imports.all gP=(m.imports.drop k).all gP,fun k=>[(3,.lst .str (m.name::(m.imports.take k).map (·.name)) (some 34)),(38,.int .i64 k)],fun k=>[(34,.tail .str (m.name::(m.imports.take k).map (·.name)).length)],fun k=>m.imports.length-k⟩),(13,fun S0=>⟨Nat,fun k=>k<=m.decls.length/\m.decls.all gL=(m.decls.drop k).all gL,fun k=>[(6,.lst .str (dZ++(m.decls.take k).map (·.name)) (some 77)),(81,.int .i64 k)],fun k=>[(77,.tail .str (dZ++(m.decls.take k).map (·.name)).length)],fun k=>m.decls.length-k⟩),(20,fun S0=>⟨Nat,fun k=>k<=m.exports.length/\m.exports.all fQ=(m.exports.drop k).all fQ,fun k=>[(102,.int .i64 k)],fun _=>[],fun k=>m.exports.length-k⟩)],[],[]⟩ Tryz.func24 (EG m hm (ho _ rfl))
theorem zl:ag Tryz.prog 112 K8:=
 bY (ee Tryz.func112) fun s l _ hl _=>g0 sn ⟨[(2,fun S0=>⟨Nat,fun k=>k<=l.length/\decide (s∈l)=decide (s∈l.drop k),fun k=>[(5,.int .i64 k)],fun _=>[],fun k=>l.length-k⟩)],[],[]⟩ Tryz.func112 (Bv s l hl)
theorem pB:aB Tryz.prog 109:=ee Tryz.func109
theorem sV(n:Nat)(s:AL.Shape)(hs:Wf (.st .shape) s)(hn:sz s<=n+1)(hA:ag Tryz.prog 109 (p1 (.st .shape) fun s=>⟨some (sz s<=n),none,.bool (!allS ao s),[]⟩)):aF Tryz.prog 109 [.st .shape s] [] (.ret (.bool (!allS ao s))):=
 g0 (sc (hA) sn) ⟨[(2,fun S0=>⟨Nat,fun k=>k<=s.parts.length/\allS ao s=(ao s&&allL ao (s.parts.drop k)),fun k=>[(3,.int .i64 k)],fun _=>[],fun k=>s.parts.length-k⟩)],[],[]⟩ Tryz.func109 (yE n s hs hn)
theorem nC:∀n:Nat,ag Tryz.prog 109 (p1 (.st .shape) fun s=>⟨some (sz s<=n),none,.bool (!allS ao s),[]⟩)
 |0=>aL pB fun s _ ho=>absurd (fa s) (by have:=ho _ rfl;omega)
 |n+1=>aL pB fun s hs ho=>sV n s hs (ho _ rfl) (nC n)
theorem zm:ag Tryz.prog 67 (p1 (.lst .str) fun l=>.ret (.bool (decide l.Nodup))):=
 aL (ee Tryz.func67) fun l hl _=>g0 (sc zl sn) ⟨[(2,fun S0=>⟨Nat,fun k=>k<=l.length/\(l.take k).Nodup,fun k=>[(3,.int .i64 k)],fun _=>[],fun k=>l.length-k⟩)],[],[]⟩ Tryz.func67 (Bw l hl)
theorem C5:ag Tryz.prog 65 (p1 (.st .decl) fun d=>⟨some (bT d=true),none,.bool (cY d),[]⟩):=
 aL (ee Tryz.func65) fun d hd ho=>g0 (sc ig (sc jW (sc BV (sc sJ (sc (sK (sz d.shape)) (sc (BW (szT d.term)) (sc (nC 400) sn))))))) a0 Tryz.func65 (EH d hd (ho _ rfl))
theorem pC:ag Tryz.prog 32 (p1 (.st .modu) fun m=>⟨some (m.decls.all bT=true/\m.decls.length<=1000000),none,.int .i64 (bu m),[]⟩):=
 aL (ee Tryz.func32) fun m hm ho=>g0 (sc ig (sc jW (sc pz (sc ze (sc zf (sc C5 (sc zm sn))))))) ⟨[(5,fun S0=>⟨Nat,fun k=>k<=m.imports.length/\m.imports.all gP=(m.imports.drop k).all gP,fun k=>[(3,.lst .str (m.name::(m.imports.take k).map (·.name)) (some 32)),(4,.int .i64 k)],fun k=>[(32,.tail .str (m.name::(m.imports.take k).map (·.name)).length)],fun k=>m.imports.length-k⟩),(13,fun S0=>⟨Nat,fun k=>k<=m.decls.length/\m.decls.all gL=(m.decls.drop k).all gL,fun k=>[(6,.lst .str (dZ++(m.decls.take k).map (·.name)) (some 79)),(7,.int .i64 k)],fun k=>[(79,.tail .str (dZ++(m.decls.take k).map (·.name)).length)],fun k=>m.decls.length-k⟩),(19,fun S0=>⟨Nat,fun k=>k<=m.exports.length/\m.exports.all fQ=(m.exports.drop k).all fQ,fun k=>[(8,.int .i64 k)],fun _=>[],fun k=>m.exports.length-k⟩)],[],[]⟩ Tryz.func32 (Bx m hm (ho _ rfl))
theorem C6:ag Tryz.prog 56 (p1 (.lst .str) fun l=>⟨some (l.length *16<=140737488355328),none,.bool (decide l.Nodup),[]⟩):=
 aL (ee Tryz.func56) fun l _ ho=>g0 (sc jV (sc (jP) (sc (iS) sn))) a0 Tryz.func56 (EI l (ho _ rfl))
theorem uN:aB Tryz.prog 25:=ee Tryz.func25
theorem wB(n:Nat)(m:List (Nam×Int))(s:AL.Shape)(hs:Wf (.st .shape) s)(ho:sz s<=n+1/\m.length+(useS s).length<=9000000000000000000)(hA:ag Tryz.prog 25 (E5 (.st .shape) (fun m s=>sz s<=n/\m.length+(useS s).length<=9000000000000000000) fun m s=>aI m (useS s))):aF Tryz.prog 25 [.map 900,.st .shape s] [(900,.map (.st .nm) (.int .i64) m)] (⟨some (sz s<=n+1/\m.length+(useS s).length<=9000000000000000000),none,.tup [],[(900,.map (.st .nm) (.int .i64) (aI m (useS s)))]⟩):=
 g1 nn (fun _=>[]) nn (fun d=>Nat.beq d 21) nn (sc (hA) sn) ⟨[(4,fun S0=>⟨Nat,fun k=>k<=s.parts.length,fun k=>[(27,.int .i64 k)],fun k=>[(900,.map (.st .nm) (.int .i64) (aI (aI m (hU s)) (useSL (s.parts.take k))))],fun k=>s.parts.length-k⟩)],[],[]⟩ Tryz.func25 (EJ n m s hs ho)
theorem mK:∀n:Nat,ag Tryz.prog 25 (E5 (.st .shape) (fun m s=>sz s<=n/\m.length+(useS s).length<=9000000000000000000) fun m s=>aI m (useS s))
 |0=>qe uN fun m s _ ho=>absurd (fa s) (by have:=ho.1;omega)
 |n+1=>qe uN fun m s hs ho=>wB n m s hs ho (mK n)
theorem zn:aB Tryz.prog 26:=ee Tryz.func26
theorem zo(N n:Nat)(m:List (Nam×Int))(t:Trm)(ht:Wf (.st .term) t)(ho:szT t<=n+1/\allT (mxU N) t=true/\m.length+(useT t).length<=9000000000000000000)(hA:ag Tryz.prog 26 (E5 (.st .term) (fun m t=>szT t<=n/\allT (mxU N) t=true/\m.length+(useT t).length<=9000000000000000000) fun m t=>aI m (useT t))):aF Tryz.prog 26 [.map 900,.st .term t] [(900,.map (.st .nm) (.int .i64) m)] (⟨some (szT t<=n+1/\allT (mxU N) t=true/\m.length+(useT t).length<=9000000000000000000),none,.tup [],[(900,.map (.st .nm) (.int .i64) (aI m (useT t)))]⟩):=
 g1 nn (fun _=>[]) nn (fun d=>Nat.beq d 23) nn (sc (mK N) (sc (hA) sn)) ⟨[(4,fun S0=>⟨Nat,fun k=>k<=t.shapes.length,fun k=>[(29,.int .i64 k)],fun k=>[(900,.map (.st .nm) (.int .i64) (aI (aI m (cC t)) (useSL (t.shapes.take k))))],fun k=>t.shapes.length-k⟩),(9,fun S0=>⟨Nat,fun k=>k<=t.parts.length,fun k=>[(40,.int .i64 k)],fun k=>[(900,.map (.st .nm) (.int .i64) (aI (aI (aI m (cC t)) (useSL t.shapes)) (useTL (t.parts.take k))))],fun k=>t.parts.length-k⟩)],[],[]⟩ Tryz.func26 (Hw N n m t ht ho)
theorem uO(N:Nat):∀n:Nat,ag Tryz.prog 26 (E5 (.st .term) (fun m t=>szT t<=n/\allT (mxU N) t=true/\m.length+(useT t).length<=9000000000000000000) fun m t=>aI m (useT t))
 |0=>qe zn fun m t _ ho=>absurd (eo t) (by have:=ho.1;omega)
 |n+1=>qe zn fun m t hs ho=>zo N n m t hs ho (uO N n)
theorem HK:aB Tryz.prog 28:=ee Tryz.func28
theorem zp(m:List (Nam×Int))  :aF Tryz.prog 28 [.map 900] [(900,(.map (.st .nm) (.int .i64) m))] (⟨none,none,.fn 59 [.ptr 1 0],[(1,.box (.map 900)),(900,(.map (.st .nm) (.int .i64) m))]⟩):=
 g0 sn a0 Tryz.func28 (Hx m)
theorem Fg:ag Tryz.prog 28 (sB 59):=
 yr HK fun m=>zp m
theorem uP:ag Tryz.prog 9 (p1 (.st .modu) fun m=>⟨some (m.decls.all bT=true/\m.decls.length<=60),none,.lst (.st .nm) (bV m) none,[]⟩):=
 aL (ee Tryz.func9) fun m hm ho=>g0 (sc sU (sc (mK 400) (sc (uO 400 4096) (sc Fg (sc ((tA (ee Tryz.func27))) sn))))) ⟨[(5,fun S0=>⟨Nat,fun k=>bu m=0/\k<=m.decls.length,fun k=>[(13,.int .i64 k)],fun k=>[(9,.map (.st .nm) (.int .i64) (aI [] (cz (m.decls.take k))))],fun k=>m.decls.length-k⟩)],[],[]⟩ Tryz.func9 (Hy m hm (ho _ rfl))
theorem C7:ag Tryz.prog 36 (B6 fun u x=>⟨none,none,.bool (!pL x u),[]⟩):=
 Ea (ee Tryz.func36) fun u x _=>g0 sn a0 Tryz.func36 (EK u x)
theorem C8:ag Tryz.prog 69 (nz 36 fun l x=>⟨none,none,.int .i64 (b9 (pL x) l 0),[]⟩):=
 py (ee Tryz.func69) fun l x hl _=>g0 (sc C7 sn) ⟨[(2,fun S0=>⟨Nat,fun k=>k<=l.length/\b9 (pL x) (l.drop k) k=b9 (pL x) l 0,fun k=>[(8,.int .i64 k)],fun _=>[],fun k=>l.length-k⟩)],[],[]⟩ Tryz.func69 (EL l x hl)
theorem C9:ag Tryz.prog 35 (nz 36 fun l x=>⟨none,none,.bool (eQ l x),[]⟩):=
 py (ee Tryz.func35) fun l x _ _=>g0 (sc C8 sn) a0 Tryz.func35 (EM l x)
theorem Fh:ag Tryz.prog 12 (p1 (.st .modu) fun m=>⟨some (m.decls.all bT=true/\m.decls.length<=60/\m.imports.length<=20),none,.lst .str (mf m) none,[]⟩):=
 aL (ee Tryz.func12) fun m hm ho=>g0 (sc sU (sc uP (sc C9 sn))) ⟨[(6,fun S0=>⟨Nat,fun k=>bu m=0/\k<=m.imports.length,fun k=>[(4,.lst .str (bC (bV m) (m.imports.take k)) (some 701)),(15,.int .i64 k)],fun k=>[(701,.tail .str (bC (bV m) (m.imports.take k)).length)],fun k=>m.imports.length-k⟩)],[],[]⟩ Tryz.func12 (Hz m hm (ho _ rfl))
theorem uQ:ag Tryz.prog 68 (p3 (.lst (.st .nm)) .str .str fun l g q=>⟨some (l.length<=1000000000000),none,.lst (.st .nm) (cA l (Nam.mk g q)) none,[]⟩):=
 FZ (ee Tryz.func68) fun l g q hl _ _ ho=>g0 sn ⟨[(2,fun S0=>⟨Nat,fun k=>k<=l.length/\cA l (Nam.mk g q)=l.take k++cA (l.drop k) (Nam.mk g q),fun k=>[(7,.int .i64 k)],fun _=>[],fun k=>l.length-k⟩)],[],[]⟩ Tryz.func68 (HA l g q hl (ho _ rfl))
theorem sW:aB Tryz.prog 33:=ee Tryz.func33
theorem tJ(n:Nat)(l:List Nam)(s:AL.Shape)(hl:Wf (.lst (.st .nm)) l)(hs:Wf (.st .shape) s)(ho:sz s<=n+1/\l.length+(useS s).length<=1000000000000)(hA:ag Tryz.prog 33 (p2 (.lst (.st .nm)) (.st .shape) fun l s=>⟨some (sz s<=n/\l.length+(useS s).length<=1000000000000),none,.lst (.st .nm) (an l (useS s)) none,[]⟩)):aF Tryz.prog 33 [.lst (.st .nm) l none,.st .shape s] [] (⟨some (sz s<=n+1/\l.length+(useS s).length<=1000000000000),none,.lst (.st .nm) (an l (useS s)) none,[]⟩):=
 g0 (sc uQ (sc (hA) sn)) ⟨[(4,fun S0=>⟨Nat,fun k=>k<=s.parts.length,fun k=>[(0,.lst (.st .nm) (an (an l (hU s)) (useSL (s.parts.take k))) none),(5,.int .i64 k)],fun _=>[],fun k=>s.parts.length-k⟩)],[],[]⟩ Tryz.func33 (By n l s hl hs ho)
theorem kY:∀n:Nat,ag Tryz.prog 33 (p2 (.lst (.st .nm)) (.st .shape) fun l s=>⟨some (sz s<=n/\l.length+(useS s).length<=1000000000000),none,.lst (.st .nm) (an l (useS s)) none,[]⟩)
 |0=>bY sW fun l s _ _ ho=>absurd (fa s) (by have:=(ho _ rfl).1;omega)
 |n+1=>bY sW fun l s hl hs ho=>tJ n l s hl hs (ho _ rfl) (kY n)
theorem uR:aB Tryz.prog 34:=ee Tryz.func34
theorem wC(N n:Nat)(l:List Nam)(t:Trm)(hl:Wf (.lst (.st .nm)) l)(ht:Wf (.st .term) t)(ho:szT t<=n+1/\allT (mxU N) t=true/\l.length+(useT t).length<=1000000000000)(hA:ag Tryz.prog 34 (p2 (.lst (.st .nm)) (.st .term) fun l t=>⟨some (szT t<=n/\allT (mxU N) t=true/\l.length+(useT t).length<=1000000000000),none,.lst (.st .nm) (an l (useT t)) none,[]⟩)):aF Tryz.prog 34 [.lst (.st .nm) l none,.st .term t] [] (⟨some (szT t<=n+1/\allT (mxU N) t=true/\l.length+(useT t).length<=1000000000000),none,.lst (.st .nm) (an l (useT t)) none,[]⟩):=
 g0 (sc uQ (sc (kY N) (sc (hA) sn))) ⟨[(4,fun S0=>⟨Nat,fun k=>k<=t.shapes.length,fun k=>[(0,.lst (.st .nm) (an (an l (cC t)) (useSL (t.shapes.take k))) none),(5,.int .i64 k)],fun _=>[],fun k=>t.shapes.length-k⟩),(8,fun S0=>⟨Nat,fun k=>k<=t.parts.length,fun k=>[(0,.lst (.st .nm) (an (an (an l (cC t)) (useSL t.shapes)) (useTL (t.parts.take k))) none),(6,.int .i64 k)],fun _=>[],fun k=>t.parts.length-k⟩)],[],[]⟩ Tryz.func34 (EN N n l t hl ht ho)
theorem sX(N:Nat):∀n:Nat,ag Tryz.prog 34 (p2 (.lst (.st .nm)) (.st .term) fun l t=>⟨some (szT t<=n/\allT (mxU N) t=true/\l.length+(useT t).length<=1000000000000),none,.lst (.st .nm) (an l (useT t)) none,[]⟩)
 |0=>bY uR fun l t _ _ ho=>absurd (eo t) (by have:=(ho _ rfl).1;omega)
 |n+1=>bY uR fun l t hl ht ho=>wC N n l t hl ht (ho _ rfl) (sX N n)
theorem sY:ag Tryz.prog 10 (p1 (.st .modu) fun m=>⟨some (m.decls.all bT=true/\m.decls.length<=60),none,.lst (.st .nm) (bV m) none,[]⟩):=
 aL (ee Tryz.func10) fun m hm ho=>g0 (sc pC (sc (kY 400) (sc (sX 400 4096) sn))) ⟨[(5,fun S0=>⟨Nat,fun k=>bu m=0/\k<=m.decls.length,fun k=>[(3,.lst (.st .nm) (an [] (cz (m.decls.take k))) none),(4,.int .i64 k)],fun _=>[],fun k=>m.decls.length-k⟩)],[],[]⟩ Tryz.func10 (EO m hm (ho _ rfl))
theorem Ca:ag Tryz.prog 13 (p1 (.st .modu) fun m=>⟨some (m.decls.all bT=true/\m.decls.length<=60/\m.imports.length<=20),none,.lst .str (mf m) none,[]⟩):=
 aL (ee Tryz.func13) fun m hm ho=>g0 (sc pC (sc sY sn)) ⟨[(6,fun S0=>⟨Nat,fun k=>bu m=0/\k<=m.imports.length,fun k=>[(4,.lst .str (bC (bV m) (m.imports.take k)) (some 701)),(5,.int .i64 k)],fun k=>[(701,.tail .str (bC (bV m) (m.imports.take k)).length)],fun k=>m.imports.length-k⟩),(10,fun S0=>mR S0 5 fun i=>⟨Nat,fun j=>j<=(bV m).length,fun j=>[(6,.bool (eQ ((bV m).take j) (m.imports.getD i.toNat (dfl (.st .imp))))),(7,.int .i64 j)],fun _=>[],fun j=>(bV m).length-j⟩)],[],[]⟩ Tryz.func13 (EP m hm (ho _ rfl))
theorem zq:ag Tryz.prog 8 (p2 (.lst (.st .nm)) (.lst (.st .nm)) fun a b=>.ret (.bool (decide (a=b)))):=
 bY (ee Tryz.func8) fun a b ha _ _=>g0 sn ⟨[(4,fun S0=>⟨Nat,fun k=>k<=a.length/\a.length=b.length/\decide (a=b)=decide (a.drop k=b.drop k),fun k=>[(5,.int .i64 k)],fun _=>[],fun k=>a.length-k⟩)],[],[]⟩ Tryz.func8 (Bz a b ha)
theorem zr:ag Tryz.prog 11 (p2 (.lst .str) (.lst .str) fun a b=>.ret (.bool (decide (a=b)))):=
 bY (ee Tryz.func11) fun a b ha _ _=>g0 sn ⟨[(4,fun S0=>⟨Nat,fun k=>k<=a.length/\a.length=b.length/\decide (a=b)=decide (a.drop k=b.drop k),fun k=>[(5,.int .i64 k)],fun _=>[],fun k=>a.length-k⟩)],[],[]⟩ Tryz.func11 (BA a b ha)
theorem tK(l:List Modu)(N:Nat)(hl:Wf (.lst (.st .modu)) l)(ho:∀m∈l,m.imports.length<=1048576)(hN:∀m∈l,∀d∈m.decls,sz d.shape<=N/\szT d.term<=N) :aF Tryz.prog 6 [.lst (.st .modu) l none] [] (⟨some (∀m∈l,m.imports.length<=1048576),none,.bool (lgM l 0),[]⟩):=
 g0 (sc (yI N) (sc (uK N) sn)) ⟨[(3,fun S0=>⟨Nat×Int,fun x=>x.1<=l.length/\0<=x.2/\x.2<=600/\lgM (l.drop x.1) x.2=lgM l 0,fun x=>[(3,.int .i64 x.2),(4,.int .i64 x.1)],fun _=>[],fun x=>l.length-x.1⟩),(9,fun S0=>mR S0 4 fun i=>⟨Nat×Int,fun x=>x.1<=(l.getD i.toNat (dfl (.st .modu))).decls.length/\0<=x.2/\x.2<=600/\lgA (lgD ((l.getD i.toNat (dfl (.st .modu))).decls.drop x.1) x.2) (l.getD i.toNat (dfl (.st .modu))) (lgM (l.drop (i.toNat+1)))=lgM l 0,fun x=>[(3,.int .i64 x.2),(5,.int .i64 x.1)],fun _=>[],fun x=>(l.getD i.toNat (dfl (.st .modu))).decls.length-x.1⟩),(15,fun S0=>mR S0 4 fun i=>mR S0 3 fun n=>⟨Nat,fun k=>k<=(l.getD i.toNat (dfl (.st .modu))).imports.length/\(((l.getD i.toNat (dfl (.st .modu))).imports.drop k).all lgI&&lgM (l.drop (i.toNat+1)) n)=lgM l 0,fun k=>[(6,.int .i64 k)],fun _=>[],fun k=>(l.getD i.toNat (dfl (.st .modu))).imports.length-k⟩),(21,fun S0=>mR S0 4 fun i=>mR S0 3 fun n=>mR S0 6 fun k=>⟨Nat,fun j=>j<=((l.getD i.toNat (dfl (.st .modu))).imports.getD k.toNat (dfl (.st .imp))).range.length/\(lgR (((l.getD i.toNat (dfl (.st .modu))).imports.getD k.toNat (dfl (.st .imp))).range.drop j)&&(((l.getD i.toNat (dfl (.st .modu))).imports.drop (k.toNat+1)).all lgI&&lgM (l.drop (i.toNat+1)) n))=lgM l 0,fun j=>[(8,.int .i64 j)],fun _=>[],fun j=>((l.getD i.toNat (dfl (.st .modu))).imports.getD k.toNat (dfl (.st .imp))).range.length-j⟩)],[],[]⟩ Tryz.func6 (BB l N hl ho hN)
theorem zu:ag Tryz.prog 6 (p1 (.lst (.st .modu)) fun l=>⟨some (∀m∈l,m.imports.length<=1048576),none,.bool (lgM l 0),[]⟩):=
 aL (ee Tryz.func6) fun l hl ho=>tK l (szM l) hl (ho _ rfl) (GY l)
theorem nD(m:Modu)(hm:Wf (.st .modu) m)(hs:m.decls.all bT=true)(hi:m.imports.length<=1048576)(hW:ag Tryz.prog 7 (p0 (.ret (.bool true)))):aF Tryz.prog 3 [.st .modu m] [] (.ret (.bool true)):=
 g0 (sc zu (sc (hW) (sc uP (sc sY (sc zq (sc Fh (sc Ca (sc zr sn)))))))) a0 Tryz.func3 (sF m hm hs hi)
end Go.AL.Seat
end
noncomputable section
namespace Go.AL.Seat
open Go Go.AL Go.Proofs Go.Shelf Go.Pd
variable [Tabs]
def JK(t:Str):Bool:=!t.isEmpty&&decide (t.length<=15)&&t.all fun c=>decide (48<=c.toNat)&&decide (c.toNat<=57)
theorem IQ{t:Str}(h:JK t=true):rL t:=by unfold JK at h;simp only[Ka,Ko,Kc,Kp]at h;exact⟨fun e=>(by rw[e]at h;exact absurd h.1.1 (by decide)),h.1.2,h.2⟩
def sZ:List (Nat×Pat):=
 [(165,p1 .str fun s=>.ret (.tup [.int .i32 ((jO s).1:Int),.int .i64 ((jO s).2:Int)])),
  (175,p2 .str (.int .u8) fun a c=>.ret (.int .i64 (G6 a c))),
  (119,q2 .str .str (fun _ b=>decide (b=pG)) fun a _=>.str (lV a)),
  (173,q2 .str .str (fun a b=>decide (b=[45])&&decide (a.length<4294967281)) fun a _=>.tup [.str (j9 a),.str (mD a),.bool (om a)]),
  (87,q2 .str .str (fun a b=>decide (b=[46])&&decide (a.length<4294967281)) fun a _=>.lst .str (splitB 46 a) none),
  (177,q2 .str .str (fun _ b=>decide (b.length=1)) fun a b=>.bool (decide (b.getD 0 0∈a))),
  (174,q1 .str JK fun t=>.tup [.int .i64 (lT t),.nilif]),
  (50,p1 .str fun s=>.ret (.bool (au s))),(55,p1 .str fun s=>.ret (.bool (bO s)))]
theorem ta[SeatLaid]:bM Tryz.prog (gU sZ):=
 sc rU (sc tw (sc (CO xH fun _ _ h=>Xo h)
  (sc (CO Ih fun _ _ h=>by rw[Ka]at h;exact⟨Xo h.1,Xo h.2⟩)
  (sc (CO ot fun _ _ h=>by rw[Ka]at h;exact⟨Xo h.1,Xo h.2⟩)
  (sc (CO vT fun _ _ h=>Xo h) (sc (GR Ge fun _ h=>IQ h)
  (sc iD (sc ju sn))))))))
end Go.AL.Seat
end
noncomputable section
namespace Go.AL.Seat
open Go Go.AL Go.Proofs
variable [Tabs]
def ay:List (Nat×TR):=[(3,r2),(9,r9),(56,⟨.strct false [(0,3),(1,9),(2,9),(3,3),(4,24),(5,24),(6,51),(7,54),(8,3)],9,152,[.int .i64 0,.str [],.str [],.int .i64 0,.nils,.nils,.nils,.nils,.int .i64 0],some (.st .term)⟩),(53,⟨.strct false [(0,3),(1,9),(2,9),(3,24),(4,51)],5,88,[.int .i64 0,.str [],.str [],.nils,.nils],some (.st .shape)⟩),(109,⟨.strct true [(0,3),(1,9),(2,3)],3,32,[.int .i64 0,.str [],.int .i64 0],some (.st .token)⟩),(24,⟨.slice 9,1,24,[.nils],some (.lst .str)⟩),(188,⟨.strct false [(0,186)],4,48,[.nils,.int .i64 0,.int .i64 0,.int .i64 0],some (.st .par)⟩),(183,⟨.ptr 188,1,8,[.nilp],none⟩),(5,r5),(257,E0),(61,⟨.strct true [(0,3),(1,3),(2,3),(3,9)],4,40,[.int .i64 0,.int .i64 0,.int .i64 0,.str []],some (.st .version)⟩),(69,⟨.strct true [(0,67),(1,3)],2,16,[.int .i64 0,.int .i64 0],some (.st .fault)⟩),(106,Iv),(51,⟨.slice 53,1,24,[.nils],some (.lst (.st .shape))⟩),(4,⟨.bool,1,1,[.bool false],some .bool⟩),(132,Ix),(54,⟨.slice 56,1,24,[.nils],some (.lst (.st .term))⟩),(130,Iw),(67,r2),(186,⟨.strct false [(0,99),(1,3),(2,69)],4,48,[.nils,.int .i64 0,.int .i64 0,.int .i64 0],some (.st .par)⟩),(99,⟨.slice 109,1,24,[.nils],some (.lst (.st .token))⟩),(26,⟨.strct false [(0,9),(1,22),(2,23),(3,24),(4,3)],5,96,[.str [],.nils,.nils,.nils,.int .i64 0],some (.st .modu)⟩),(121,⟨.slice 3,1,24,[.nils],some (.lst (.int .i64))⟩),(128,⟨.ptr 132,1,8,[.nilp],none⟩),(104,DY),(58,⟨.strct false [(0,3),(1,9),(2,53),(7,56),(16,3)],17,272,[.int .i64 0,.str [],.int .i64 0,.str [],.str [],.nils,.nils,.int .i64 0,.str [],.str [],.int .i64 0,.nils,.nils,.nils,.nils,.int .i64 0,.int .i64 0],some (.st .decl)⟩),(62,⟨.slice 66,1,24,[.nils],some (.lst (.st .bound))⟩),(64,⟨.strct false [(0,9),(1,61),(5,62),(6,3)],7,88,[.str [],.int .i64 0,.int .i64 0,.int .i64 0,.str [],.nils,.int .i64 0],some (.st .imp)⟩),(1,r1),(66,⟨.strct true [(0,3),(1,61)],5,48,[.int .i64 0,.int .i64 0,.int .i64 0,.int .i64 0,.str []],some (.st .bound)⟩),(22,⟨.slice 64,1,24,[.nils],some (.lst (.st .imp))⟩),(229,⟨.slice 5,1,24,[.nils],some (.lst (.int .u8))⟩),(182,⟨.map 9 3,1,8,[.nilm],none⟩),(107,r1),(23,⟨.slice 58,1,24,[.nils],some (.lst (.st .decl))⟩),(224,⟨.arr 3 3,3,24,[.int .i64 0,.int .i64 0,.int .i64 0],none⟩),(21,r21),(240,DZ),(199,r1),(152,r1),(113,r1),(20,r20),(239,DZ),(256,E0),(185,DY),(187,⟨.strct false [(0,186)],4,48,[.nils,.int .i64 0,.int .i64 0,.int .i64 0],none⟩),(65,⟨.strct true [(0,3),(1,61)],5,48,[.int .i64 0,.int .i64 0,.int .i64 0,.int .i64 0,.str []],none⟩),(52,⟨.strct false [(0,3),(1,9),(2,9),(3,24),(4,51)],5,88,[.int .i64 0,.str [],.str [],.nils,.nils],none⟩),(55,⟨.strct false [(0,3),(1,9),(2,9),(3,3),(4,24),(5,24),(6,51),(7,54),(8,3)],9,152,[.int .i64 0,.str [],.str [],.int .i64 0,.nils,.nils,.nils,.nils,.int .i64 0],none⟩),(57,⟨.strct false [(0,3),(1,9),(2,53),(7,56),(16,3)],17,272,[.int .i64 0,.str [],.int .i64 0,.str [],.str [],.nils,.nils,.int .i64 0,.str [],.str [],.int .i64 0,.nils,.nils,.nils,.nils,.int .i64 0,.int .i64 0],none⟩),(60,⟨.strct true [(0,3),(1,3),(2,3),(3,9)],4,40,[.int .i64 0,.int .i64 0,.int .i64 0,.str []],none⟩),(63,⟨.strct false [(0,9),(1,61),(5,62),(6,3)],7,88,[.str [],.int .i64 0,.int .i64 0,.int .i64 0,.str [],.nils,.int .i64 0],none⟩),(131,Ix),(129,Iw),(108,⟨.strct true [(0,3),(1,9),(2,3)],3,32,[.int .i64 0,.str [],.int .i64 0],none⟩),(105,Iv),(103,DY),(68,⟨.strct true [(0,67),(1,3)],2,16,[.int .i64 0,.int .i64 0],none⟩),(25,⟨.strct false [(0,9),(1,22),(2,23),(3,24),(4,3)],5,96,[.str [],.nils,.nils,.nils,.int .i64 0],none⟩)]
theorem zw:aX Tryz.prog ay:=.cons tk (.cons tk (.cons tk (.cons tk (.cons tk (.cons tk (.cons tk (.cons tk (.cons tk (.cons tk (.cons tk (.cons tk (.cons tk (.cons tk (.cons tk (.cons tk (.cons tk (.cons tk (.cons tk (.cons tk (.cons tk (.cons tk (.cons tk (.cons tk (.cons tk (.cons tk (.cons tk (.cons tk (.cons tk (.cons tk (.cons tk (.cons tk (.cons tk (.cons tk (.cons tk (.cons tk (.cons tk (.cons tk (.cons tk (.cons tk (.cons tk (.cons tk (.cons tk (.cons tk (.cons tk (.cons tk (.cons tk (.cons tk (.cons tk (.cons tk (.cons tk (.cons tk (.cons tk (.cons tk (.cons tk (.cons tk (.cons tk (.cons tk (.cons tk (.nil)))))))))))))))))))))))))))))))))))))))))))))))))))))))))))
end Go.AL.Seat
end
noncomputable section
namespace Go.AL.Seat
open Go Go.AL Go.Proofs
set_option maxRecDepth 1000000
variable [Tabs]
def HL(f:Nat):List (Option Nat):=if Nat.beq f 72||Nat.beq f 73 then[some 2]else if Nat.beq f 42||(Nat.beq f 43||(Nat.beq f 47||(Nat.beq f 48||(Nat.beq f 49||Nat.beq f 77))))then[some 4]else[]
def HM(f:Nat):Bool:=false
def tc:List (Nat×FB):=(23,ar ay Tryz.f23 288511851128455421 [] (fun _=>false) (fun _=>false) (fun _=>false) false)::(41,ar ay Tryz.f41 77975715369647181664879229 [] (fun _=>false) (fun _=>false) (fun _=>false) false)::(42,ar ay Tryz.f42 259 [] (fun _=>false) (fun _=>false) (fun _=>false) false)::(43,ar ay Tryz.f43 65587 [] (fun _=>false) (fun _=>false) (fun _=>false) false)::(44,ar ay Tryz.f44 19380592045697041145266237 [] (fun _=>false) (fun _=>false) (fun _=>false) false)::(45,ar ay Tryz.f45 38685626517024445242019965 [] (fun _=>false) (fun _=>false) (fun _=>false) false)::(46,ar ay Tryz.f46 1180591655902890688517 [] (fun _=>false) (fun _=>false) (fun _=>false) false)::(47,ar ay Tryz.f47 5 [] (fun _=>false) (fun _=>false) (fun _=>false) false)::(48,ar ay Tryz.f48 263 [] (fun _=>false) (fun _=>false) (fun _=>false) false)::(49,ar ay Tryz.f49 5 [] (fun _=>false) (fun _=>false) (fun _=>false) false)::(72,ar ay Tryz.f72 65555 [] (fun _=>false) (fun _=>false) (fun _=>false) false)::(73,ar ay Tryz.f73 4294967347 [] (fun _=>false) (fun _=>false) (fun _=>false) false)::(74,ar ay Tryz.f74 5 [] (fun _=>false) (fun _=>false) (fun _=>false) false)::(75,ar ay Tryz.f75 8388935 [] (fun _=>false) (fun _=>false) (fun _=>false) false)::(76,ar ay Tryz.f76 87112288527988523651034566703108870643455 [] (fun _=>false) (fun _=>false) (fun d=>Nat.beq d 21) false)::(77,ar ay Tryz.f77 67108915 [] (fun _=>false) (fun _=>false) (fun _=>false) false)::(78,ar ay Tryz.f78 19 [] (fun _=>false) (fun _=>false) (fun _=>false) false)::(79,ar ay Tryz.f79 8388807 [] (fun _=>false) (fun _=>false) (fun _=>false) false)::(80,ar ay Tryz.f80 13 [] (fun _=>false) (fun _=>false) (fun _=>false) false)::(81,ar ay Tryz.f81 2361185498182472704253 [] (fun _=>false) (fun _=>false) (fun _=>false) false)::(53,ar ay Tryz.f53 659706875863 [] (fun _=>false) (fun _=>false) (fun _=>false) false)::(82,ar ay Tryz.f82 9016029707634675 [] (fun _=>false) (fun _=>false) (fun _=>false) false)::(83,ar ay Tryz.f83 134250995 [] (fun _=>false) (fun _=>false) (fun _=>false) false)::(113,ar ay Tryz.f113 549890048253 [] (fun _=>false) (fun _=>false) (fun _=>false) false)::(114,ar ay Tryz.f114 71 [] (fun _=>false) (fun _=>false) (fun _=>false) false)::(115,ar ay Tryz.f115 79 [] (fun _=>false) (fun _=>false) (fun _=>false) false)::(85,ar ay Tryz.f85 5 [] (fun _=>false) (fun _=>false) (fun _=>false) false)::(94,ar ay Tryz.f94 5 [] (fun _=>false) (fun _=>false) (fun _=>false) false)::(116,ar ay Tryz.f116 5 [] (fun _=>false) (fun _=>false) (fun _=>false) false)::(86,ar ay Tryz.f86 29 [] (fun _=>false) (fun _=>false) (fun _=>false) false)::(117,ar ay Tryz.f117 5 [] (fun _=>false) (fun _=>false) (fun _=>false) false)::(118,ar ay Tryz.f118 5 [] (fun _=>false) (fun _=>false) (fun _=>false) false)::(120,ar ay Tryz.f120 151115799509488183025661 [] (fun _=>false) (fun _=>false) (fun _=>false) false)::(121,ar ay Tryz.f121 618970019647202533975261693 [] (fun _=>false) (fun _=>false) (fun _=>false) false)::(122,ar ay Tryz.f122 29 [] (fun _=>false) (fun _=>false) (fun _=>false) false)::(123,ar ay Tryz.f123 19 [] (fun _=>false) (fun _=>false) (fun _=>false) false)::(124,ar ay Tryz.f124 66483 [] (fun _=>false) (fun _=>false) (fun _=>false) false)::(125,ar ay Tryz.f125 4195343 [] (fun _=>false) (fun _=>false) (fun _=>false) false)::(90,ar ay Tryz.f90 36909250894291276799 [] (fun _=>false) (fun _=>false) (fun d=>Nat.beq d 17||Nat.beq d 22||Nat.beq d 27||Nat.beq d 29||Nat.beq d 43||Nat.beq d 46||Nat.beq d 63) false)::(126,ar ay Tryz.f126 33816627 [] (fun _=>false) (fun _=>false) (fun _=>false) false)::(127,ar ay Tryz.f127 5 [] (fun _=>false) (fun _=>false) (fun _=>false) false)::(128,ar ay Tryz.f128 268439557 [] (fun _=>false) (fun _=>false) (fun _=>false) false)::(129,ar ay Tryz.f129 81129648086015544455969055506495 [] (fun _=>false) (fun _=>false) (fun _=>false) false)::(93,ar ay Tryz.f93 74783 [] (fun _=>false) (fun _=>false) (fun _=>false) false)::(130,ar ay Tryz.f130 263 [] (fun _=>false) (fun _=>false) (fun _=>false) false)::(131,ar ay Tryz.f131 2228285 [] (fun _=>false) (fun _=>false) (fun _=>false) false)::(133,ar ay Tryz.f133 5 [] (fun _=>false) (fun _=>false) (fun _=>false) false)::(51,ar ay Tryz.f51 9316337836119 [] (fun _=>false) (fun _=>false) (fun _=>false) false)::(176,ar ay Tryz.f176 5 [] (fun _=>false) (fun _=>false) (fun _=>false) false)::(178,ar ay Tryz.f178 66483 [] (fun _=>false) (fun _=>false) (fun _=>false) false)::(134,ar ay Tryz.f134 604275 [] (fun _=>false) (fun _=>false) (fun _=>false) false)::(30,ar ay Tryz.f30 17389 [] (fun _=>false) (fun _=>false) (fun _=>false) false)::(135,ar ay Tryz.f135 2623603 [] (fun _=>false) (fun _=>false) (fun _=>false) false)::(179,ar ay Tryz.f179 3 [] (fun d=>Nat.beq d 8) (fun _=>false) (fun _=>false) false)::(180,ar ay Tryz.f180 7 [] (fun d=>Nat.beq d 15) (fun _=>false) (fun _=>false) false)::(182,ar ay Tryz.f182 275 [] (fun _=>false) (fun _=>false) (fun _=>false) false)::(181,ar ay Tryz.f181 131 [] (fun _=>false) (fun _=>false) (fun _=>false) false)::(184,ar ay Tryz.f184 7 [] (fun _=>false) (fun _=>false) (fun _=>false) false)::(183,ar ay Tryz.f183 271375 [] (fun _=>false) (fun _=>false) (fun _=>false) false)::(186,ar ay Tryz.f186 32819 [] (fun _=>false) (fun _=>false) (fun _=>false) false)::(187,ar ay Tryz.f187 15 [] (fun _=>false) (fun _=>false) (fun _=>false) false)::(188,ar ay Tryz.f188 17180524607 [] (fun _=>false) (fun _=>false) (fun _=>false) false)::(141,ar ay Tryz.f141 2223863 [] (fun _=>false) (fun _=>false) (fun _=>false) false)::(142,ar ay Tryz.f142 7 [] (fun _=>false) (fun _=>false) (fun _=>false) false)::(189,ar ay Tryz.f189 324677087359430077278579446644799 [] (fun d=>Nat.beq d 129) (fun _=>false) (fun _=>false) false)::(91,ar ay Tryz.f91 299063 [] (fun _=>false) (fun _=>false) (fun _=>false) false)::(88,ar ay Tryz.f88 18014398524686365 [] (fun _=>false) (fun _=>false) (fun _=>false) false)::(193,ar ay Tryz.f193 5 [] (fun _=>false) (fun _=>false) (fun _=>false) false)::(194,ar ay Tryz.f194 19 [] (fun _=>false) (fun _=>false) (fun _=>false) false)::(224,ar ay Tryz.f224 51 [] (fun _=>false) (fun _=>false) (fun _=>false) false)::(185,ar ay Tryz.f185 65587 [] (fun _=>false) (fun _=>false) (fun _=>false) false)::(225,ar ay Tryz.f225 23945973599159813139139346461134680183357916012085311 [] (fun _=>false) (fun _=>false) (fun _=>false) false)::(226,ar ay Tryz.f226 3 [] (fun d=>Nat.beq d 8) (fun _=>false) (fun _=>false) false)::(202,ar ay Tryz.f202 3537148372723500476506894142080440715070649430595550180525943565456506895 [] (fun _=>false) (fun _=>false) (fun _=>false) false)::(203,ar ay Tryz.f203 27 [] (fun _=>false) (fun _=>false) (fun _=>false) false)::(227,ar ay Tryz.f227 7 [] (fun d=>Nat.beq d 21) (fun _=>false) (fun _=>false) false)::(229,ar ay Tryz.f229 149971 [] (fun _=>false) (fun _=>false) (fun _=>false) false)::(230,ar ay Tryz.f230 3 [] (fun d=>Nat.beq d 8) (fun _=>false) (fun _=>false) false)::(136,ar ay Tryz.f136 31 [] (fun _=>false) (fun _=>false) (fun _=>false) false)::(137,ar ay Tryz.f137 2159703 [] (fun _=>false) (fun _=>false) (fun _=>false) false)::(138,ar ay Tryz.f138 10141204803006463002229839257615 [] (fun _=>false) (fun _=>false) (fun _=>false) false)::(268,ar ay Tryz.f268 3 [] (fun d=>Nat.beq d 23) (fun _=>false) (fun _=>false) false)::(269,ar ay Tryz.f269 13 [] (fun _=>false) (fun _=>false) (fun _=>false) false)::(236,ar ay Tryz.f236 7 [] (fun _=>false) (fun _=>false) (fun _=>false) false)::(237,ar ay Tryz.f237 27 [] (fun _=>false) (fun _=>false) (fun _=>false) false)::(238,ar ay Tryz.f238 7 [] (fun _=>false) (fun _=>false) (fun _=>false) false)::(239,ar ay Tryz.f239 2098133 [] (fun _=>false) (fun _=>false) (fun _=>false) false)::(240,ar ay Tryz.f240 13 [] (fun _=>false) (fun _=>false) (fun _=>false) false)::(241,ar ay Tryz.f241 27 [] (fun _=>false) (fun _=>false) (fun _=>false) false)::(243,ar ay Tryz.f243 15 [] (fun _=>false) (fun _=>false) (fun _=>false) false)::(242,ar ay Tryz.f242 19 [] (fun _=>false) (fun _=>false) (fun _=>false) false)::(228,ar ay Tryz.f228 5 [] (fun _=>false) (fun _=>false) (fun _=>false) false)::(196,ar ay Tryz.f196 33071 [] (fun _=>false) (fun _=>false) (fun _=>false) false)::(198,ar ay Tryz.f198 17 [] (fun _=>false) (fun _=>false) (fun _=>false) false)::(197,ar ay Tryz.f197 246479 [] (fun _=>false) (fun _=>false) (fun _=>false) false)::(199,ar ay Tryz.f199 4444215 [] (fun _=>false) (fun _=>false) (fun _=>false) false)::(200,ar ay Tryz.f200 5 [] (fun _=>false) (fun _=>false) (fun _=>false) false)::(274,ar ay Tryz.f274 15 [] (fun _=>false) (fun _=>false) (fun _=>false) false)::(139,ar ay Tryz.f139 19 [] (fun _=>false) (fun _=>false) (fun _=>false) false)::(275,ar ay Tryz.f275 7 [] (fun _=>false) (fun _=>false) (fun _=>false) false)::(96,ar ay Tryz.f96 7 [] (fun _=>false) (fun _=>false) (fun _=>false) false)::(278,ar ay Tryz.f278 11 [] (fun _=>false) (fun _=>false) (fun _=>false) false)::(277,ar ay Tryz.f277 19 [] (fun _=>false) (fun _=>false) (fun _=>false) false)::(279,ar ay Tryz.f279 66483 [] (fun _=>false) (fun _=>false) (fun _=>false) false)::(201,ar ay Tryz.f201 66483 [] (fun _=>false) (fun _=>false) (fun _=>false) false)::(145,ar ay Tryz.f145 16883 [] (fun _=>false) (fun _=>false) (fun _=>false) false)::(292,ar ay Tryz.f292 66483 [] (fun _=>false) (fun _=>false) (fun _=>false) false)::[]
theorem pD:ah Tryz.prog tc:=ah.cons Tryz.func23 (by kernel_rfl) (ah.cons Tryz.func41 (by kernel_rfl) (ah.cons Tryz.func42 (by kernel_rfl) (ah.cons Tryz.func43 (by kernel_rfl) (ah.cons Tryz.func44 (by kernel_rfl) (ah.cons Tryz.func45 (by kernel_rfl) (ah.cons Tryz.func46 (by kernel_rfl) (ah.cons Tryz.func47 (by kernel_rfl) (ah.cons Tryz.func48 (by kernel_rfl) (ah.cons Tryz.func49 (by kernel_rfl) (ah.cons Tryz.func72 (by kernel_rfl) (ah.cons Tryz.func73 (by kernel_rfl) (ah.cons Tryz.func74 (by kernel_rfl) (ah.cons Tryz.func75 (by kernel_rfl) (ah.cons Tryz.func76 (by kernel_rfl) (ah.cons Tryz.func77 (by kernel_rfl) (ah.cons Tryz.func78 (by kernel_rfl) (ah.cons Tryz.func79 (by kernel_rfl) (ah.cons Tryz.func80 (by kernel_rfl) (ah.cons Tryz.func81 (by kernel_rfl) (ah.cons Tryz.func53 (by kernel_rfl) (ah.cons Tryz.func82 (by kernel_rfl) (ah.cons Tryz.func83 (by kernel_rfl) (ah.cons Tryz.func113 (by kernel_rfl) (ah.cons Tryz.func114 (by kernel_rfl) (ah.cons Tryz.func115 (by kernel_rfl) (ah.cons Tryz.func85 (by kernel_rfl) (ah.cons Tryz.func94 (by kernel_rfl) (ah.cons Tryz.func116 (by kernel_rfl) (ah.cons Tryz.func86 (by kernel_rfl) (ah.cons Tryz.func117 (by kernel_rfl) (ah.cons Tryz.func118 (by kernel_rfl) (ah.cons Tryz.func120 (by kernel_rfl) (ah.cons Tryz.func121 (by kernel_rfl) (ah.cons Tryz.func122 (by kernel_rfl) (ah.cons Tryz.func123 (by kernel_rfl) (ah.cons Tryz.func124 (by kernel_rfl) (ah.cons Tryz.func125 (by kernel_rfl) (ah.cons Tryz.func90 (by kernel_rfl) (ah.cons Tryz.func126 (by kernel_rfl) (ah.cons Tryz.func127 (by kernel_rfl) (ah.cons Tryz.func128 (by kernel_rfl) (ah.cons Tryz.func129 (by kernel_rfl) (ah.cons Tryz.func93 (by kernel_rfl) (ah.cons Tryz.func130 (by kernel_rfl) (ah.cons Tryz.func131 (by kernel_rfl) (ah.cons Tryz.func133 (by kernel_rfl) (ah.cons Tryz.func51 (by kernel_rfl) (ah.cons Tryz.func176 (by kernel_rfl) (ah.cons Tryz.func178 (by kernel_rfl) (ah.cons Tryz.func134 (by kernel_rfl) (ah.cons Tryz.func30 (by kernel_rfl) (ah.cons Tryz.func135 (by kernel_rfl) (ah.cons Tryz.func179 (by kernel_rfl) (ah.cons Tryz.func180 (by kernel_rfl) (ah.cons Tryz.func182 (by kernel_rfl) (ah.cons Tryz.func181 (by kernel_rfl) (ah.cons Tryz.func184 (by kernel_rfl) (ah.cons Tryz.func183 (by kernel_rfl) (ah.cons Tryz.func186 (by kernel_rfl) (ah.cons Tryz.func187 (by kernel_rfl) (ah.cons Tryz.func188 (by kernel_rfl) (ah.cons Tryz.func141 (by kernel_rfl) (ah.cons Tryz.func142 (by kernel_rfl) (ah.cons Tryz.func189 (by kernel_rfl) (ah.cons Tryz.func91 (by kernel_rfl) (ah.cons Tryz.func88 (by kernel_rfl) (ah.cons Tryz.func193 (by kernel_rfl) (ah.cons Tryz.func194 (by kernel_rfl) (ah.cons Tryz.func224 (by kernel_rfl) (ah.cons Tryz.func185 (by kernel_rfl) (ah.cons Tryz.func225 (by kernel_rfl) (ah.cons Tryz.func226 (by kernel_rfl) (ah.cons Tryz.func202 (by kernel_rfl) (ah.cons Tryz.func203 (by kernel_rfl) (ah.cons Tryz.func227 (by kernel_rfl) (ah.cons Tryz.func229 (by kernel_rfl) (ah.cons Tryz.func230 (by kernel_rfl) (ah.cons Tryz.func136 (by kernel_rfl) (ah.cons Tryz.func137 (by kernel_rfl) (ah.cons Tryz.func138 (by kernel_rfl) (ah.cons Tryz.func268 (by kernel_rfl) (ah.cons Tryz.func269 (by kernel_rfl) (ah.cons Tryz.func236 (by kernel_rfl) (ah.cons Tryz.func237 (by kernel_rfl) (ah.cons Tryz.func238 (by kernel_rfl) (ah.cons Tryz.func239 (by kernel_rfl) (ah.cons Tryz.func240 (by kernel_rfl) (ah.cons Tryz.func241 (by kernel_rfl) (ah.cons Tryz.func243 (by kernel_rfl) (ah.cons Tryz.func242 (by kernel_rfl) (ah.cons Tryz.func228 (by kernel_rfl) (ah.cons Tryz.func196 (by kernel_rfl) (ah.cons Tryz.func198 (by kernel_rfl) (ah.cons Tryz.func197 (by kernel_rfl) (ah.cons Tryz.func199 (by kernel_rfl) (ah.cons Tryz.func200 (by kernel_rfl) (ah.cons Tryz.func274 (by kernel_rfl) (ah.cons Tryz.func139 (by kernel_rfl) (ah.cons Tryz.func275 (by kernel_rfl) (ah.cons Tryz.func96 (by kernel_rfl) (ah.cons Tryz.func278 (by kernel_rfl) (ah.cons Tryz.func277 (by kernel_rfl) (ah.cons Tryz.func279 (by kernel_rfl) (ah.cons Tryz.func201 (by kernel_rfl) (ah.cons Tryz.func145 (by kernel_rfl) (ah.cons Tryz.func292 (by kernel_rfl) (ah.nil)))))))))))))))))))))))))))))))))))))))))))))))))))))))))))))))))))))))))))))))))))))))))))))))))))))))))))
end Go.AL.Seat
end
noncomputable section
namespace Go.AL.Seat
open Go Go.AL Go.Proofs Go.Pd
set_option maxRecDepth 1000000
def awS:Str:=[109,111,100,117,108,101,32,112,32,105,109,112,111,114,116,32,113,32,112,105,110,32,49,46,48,46,48,32,114,97,110,103,101,32,42,32,105,109,112,111,114,116,32,122,32,112,105,110,32,49,46,48,46,48,32,114,97,110,103,101,32,42,32,108,101,116,32,102,32,61,32,113,47,103,40,49,41,32,101,120,112,111,114,116,32,40,102,41]
def awL:AV:=(.tup [(.lst (.st .token) [⟨5,[109,111,100,117,108,101],0⟩,⟨1,[112],7⟩,⟨5,[105,109,112,111,114,116],9⟩,⟨1,[113],16⟩,⟨5,[112,105,110],18⟩,⟨7,[49,46,48,46,48],22⟩,⟨5,[114,97,110,103,101],28⟩,⟨6,[42],34⟩,⟨5,[105,109,112,111,114,116],36⟩,⟨1,[122],43⟩,⟨5,[112,105,110],45⟩,⟨7,[49,46,48,46,48],49⟩,⟨5,[114,97,110,103,101],55⟩,⟨6,[42],61⟩,⟨5,[108,101,116],63⟩,⟨1,[102],67⟩,⟨6,[61],69⟩,⟨1,[113],71⟩,⟨6,[47],72⟩,⟨1,[103],73⟩,⟨6,[40],74⟩,⟨3,[49],75⟩,⟨6,[41],76⟩,⟨5,[101,120,112,111,114,116],78⟩,⟨6,[40],85⟩,⟨1,[102],86⟩,⟨6,[41],87⟩,⟨0,[],88⟩] none),(.agg [(.int .i64 0),(.int .i64 0)])])
variable [Tabs] [SeatLaid]
theorem K6:aF Tryz.prog 41 [.str awS] [] (.ret awL):=oF (n:=100) mixed zw ta pD (by kernel_rfl:B0 ay tc HM HL 5000 (gU sZ) 100 41 [.str awS] []=some ⟨none,none,awL,[]⟩)
def HN:List (Nat×Pat):=(41,CP [.str awS] awL)::sZ
theorem Fi:bM Tryz.prog (gU HN):=sc (CQ (ee Tryz.func41) K6) ta
end Go.AL.Seat
end
noncomputable section
namespace Go.AL.Seat
open Go Go.AL Go.Proofs Go.Pd
set_option maxRecDepth 1000000
def awV:AV:=(.tup [(.agg [(.str [112]),(.lst (.st .imp) [⟨[113],⟨1,0,0,[]⟩,[],9⟩,⟨[122],⟨1,0,0,[]⟩,[],36⟩] none),(.lst (.st .decl) [⟨3,[102],⟨0,[],[],[],[]⟩,⟨7,[],[],0,[],[],[],[⟨5,[113],[103],0,[],[],[],[],71⟩,⟨1,[],[],1,[],[],[],[],75⟩],71⟩,63⟩] none),(.lst .str [[102]] none),(.int .i64 78)]),(.agg [(.int .i64 0),(.int .i64 0)])])
variable [Tabs] [SeatLaid]
theorem K7:aF Tryz.prog 23 [.str awS] [] (.ret awV):=oF (n:=100) mixed zw Fi pD (by kernel_rfl:B0 ay tc HM HL 5000 (gU HN) 100 23 [.str awS] []=some ⟨none,none,awV,[]⟩)
end Go.AL.Seat
end
noncomputable section
namespace Go.AL.Seat
open Go Go.AL Go.Proofs
variable [Tabs]
def aZ:List (Nat×TR):=[(3,r2),(9,r9),(53,⟨.strct false [(0,3),(1,9),(2,9),(3,24),(4,51)],5,88,[.int .i64 0,.str [],.str [],.nils,.nils],some (.st .shape)⟩),(24,⟨.slice 9,1,24,[.nils],some (.lst .str)⟩),(56,⟨.strct false [(0,3),(1,9),(2,9),(3,3),(4,24),(5,24),(6,51),(7,54),(8,3)],9,152,[.int .i64 0,.str [],.str [],.int .i64 0,.nils,.nils,.nils,.nils,.int .i64 0],some (.st .term)⟩),(257,E0),(51,⟨.slice 53,1,24,[.nils],some (.lst (.st .shape))⟩),(4,⟨.bool,1,1,[.bool false],some .bool⟩),(61,⟨.strct true [(0,3),(1,3),(2,3),(3,9)],4,40,[.int .i64 0,.int .i64 0,.int .i64 0,.str []],some (.st .version)⟩),(77,⟨.strct true [(0,9),(1,9)],2,32,[.str [],.str []],some (.st .nm)⟩),(58,⟨.strct false [(0,3),(1,9),(2,53),(7,56),(16,3)],17,272,[.int .i64 0,.str [],.int .i64 0,.str [],.str [],.nils,.nils,.int .i64 0,.str [],.str [],.int .i64 0,.nils,.nils,.nils,.nils,.int .i64 0,.int .i64 0],some (.st .decl)⟩),(5,r5),(26,⟨.strct false [(0,9),(1,22),(2,23),(3,24),(4,3)],5,96,[.str [],.nils,.nils,.nils,.int .i64 0],some (.st .modu)⟩),(67,r2),(38,⟨.strct false [(0,9),(1,36)],2,40,[.str [],.nils],some (.st .dep)⟩),(64,⟨.strct false [(0,9),(1,61),(5,62),(6,3)],7,88,[.str [],.int .i64 0,.int .i64 0,.int .i64 0,.str [],.nils,.int .i64 0],some (.st .imp)⟩),(36,⟨.slice 73,1,24,[.nils],some (.lst (.st .item))⟩),(54,⟨.slice 56,1,24,[.nils],some (.lst (.st .term))⟩),(75,⟨.strct true [(0,3),(1,9)],2,24,[.int .i64 0,.str []],some (.st .change)⟩),(73,⟨.strct false [(0,3),(1,9),(2,53)],7,112,[.int .i64 0,.str [],.int .i64 0,.str [],.str [],.nils,.nils],some (.st .item)⟩),(66,⟨.strct true [(0,3),(1,61)],5,48,[.int .i64 0,.int .i64 0,.int .i64 0,.int .i64 0,.str []],some (.st .bound)⟩),(31,⟨.slice 77,1,24,[.nils],some (.lst (.st .nm))⟩),(80,r79),(22,⟨.slice 64,1,24,[.nils],some (.lst (.st .imp))⟩),(62,⟨.slice 66,1,24,[.nils],some (.lst (.st .bound))⟩),(121,⟨.slice 3,1,24,[.nils],some (.lst (.int .i64))⟩),(45,⟨.slice 75,1,24,[.nils],some (.lst (.st .change))⟩),(23,⟨.slice 58,1,24,[.nils],some (.lst (.st .decl))⟩),(69,⟨.strct true [(0,67),(1,3)],2,16,[.int .i64 0,.int .i64 0],some (.st .fault)⟩),(240,DZ),(229,⟨.slice 5,1,24,[.nils],some (.lst (.int .u8))⟩),(20,r20),(199,r1),(152,r1),(113,r1),(256,E0),(239,DZ),(65,⟨.strct true [(0,3),(1,61)],5,48,[.int .i64 0,.int .i64 0,.int .i64 0,.int .i64 0,.str []],none⟩),(60,⟨.strct true [(0,3),(1,3),(2,3),(3,9)],4,40,[.int .i64 0,.int .i64 0,.int .i64 0,.str []],none⟩),(63,⟨.strct false [(0,9),(1,61),(5,62),(6,3)],7,88,[.str [],.int .i64 0,.int .i64 0,.int .i64 0,.str [],.nils,.int .i64 0],none⟩),(55,⟨.strct false [(0,3),(1,9),(2,9),(3,3),(4,24),(5,24),(6,51),(7,54),(8,3)],9,152,[.int .i64 0,.str [],.str [],.int .i64 0,.nils,.nils,.nils,.nils,.int .i64 0],none⟩),(57,⟨.strct false [(0,3),(1,9),(2,53),(7,56),(16,3)],17,272,[.int .i64 0,.str [],.int .i64 0,.str [],.str [],.nils,.nils,.int .i64 0,.str [],.str [],.int .i64 0,.nils,.nils,.nils,.nils,.int .i64 0,.int .i64 0],none⟩),(79,r79),(76,⟨.strct true [(0,9),(1,9)],2,32,[.str [],.str []],none⟩),(74,⟨.strct true [(0,3),(1,9)],2,24,[.int .i64 0,.str []],none⟩),(37,⟨.strct false [(0,9),(1,36)],2,40,[.str [],.nils],none⟩),(52,⟨.strct false [(0,3),(1,9),(2,9),(3,24),(4,51)],5,88,[.int .i64 0,.str [],.str [],.nils,.nils],none⟩),(72,⟨.strct false [(0,3),(1,9),(2,53)],7,112,[.int .i64 0,.str [],.int .i64 0,.str [],.str [],.nils,.nils],none⟩),(68,⟨.strct true [(0,67),(1,3)],2,16,[.int .i64 0,.int .i64 0],none⟩),(25,⟨.strct false [(0,9),(1,22),(2,23),(3,24),(4,3)],5,96,[.str [],.nils,.nils,.nils,.int .i64 0],none⟩)]
theorem HO:aX Tryz.prog aZ:=.cons tk (.cons tk (.cons tk (.cons tk (.cons tk (.cons tk (.cons tk (.cons tk (.cons tk (.cons tk (.cons tk (.cons tk (.cons tk (.cons tk (.cons tk (.cons tk (.cons tk (.cons tk (.cons tk (.cons tk (.cons tk (.cons tk (.cons tk (.cons tk (.cons tk (.cons tk (.cons tk (.cons tk (.cons tk (.cons tk (.cons tk (.cons tk (.cons tk (.cons tk (.cons tk (.cons tk (.cons tk (.cons tk (.cons tk (.cons tk (.cons tk (.cons tk (.cons tk (.cons tk (.cons tk (.cons tk (.cons tk (.cons tk (.cons tk (.cons tk (.nil))))))))))))))))))))))))))))))))))))))))))))))))))
end Go.AL.Seat
end
noncomputable section
namespace Go.AL.Seat
open Go Go.AL Go.Proofs
set_option maxRecDepth 1000000
variable [Tabs]
def JL(f:Nat):List (Option Nat):=if Nat.beq f 72||Nat.beq f 73 then[some 2]else if Nat.beq f 42||(Nat.beq f 43||(Nat.beq f 47||(Nat.beq f 48||(Nat.beq f 49||Nat.beq f 77))))then[some 4]else[]
def JM(f:Nat):Bool:=false
def zx:List (Nat×FB):=(7,ar aZ Tryz.f7 63 [] (fun _=>false) (fun _=>false) (fun _=>false) false)::(9,ar aZ Tryz.f9 31023 [] (fun _=>false) (fun _=>false) (fun _=>false) false)::(15,ar aZ Tryz.f15 16838839 [] (fun _=>false) (fun _=>false) (fun _=>false) false)::(19,ar aZ Tryz.f19 274877939399 [] (fun _=>false) (fun _=>false) (fun _=>false) false)::(8,ar aZ Tryz.f8 33571891 [] (fun _=>false) (fun _=>false) (fun _=>false) false)::(12,ar aZ Tryz.f12 4319327 [] (fun _=>false) (fun _=>false) (fun _=>false) false)::(11,ar aZ Tryz.f11 33571891 [] (fun _=>false) (fun _=>false) (fun _=>false) false)::(24,ar aZ Tryz.f24 340292770534375364823452943443732465007 [] (fun _=>false) (fun _=>false) (fun _=>false) false)::(25,ar aZ Tryz.f25 503324715 [] (fun _=>false) (fun _=>false) (fun _=>false) false)::(26,ar aZ Tryz.f26 4125181903019 [] (fun _=>false) (fun _=>false) (fun _=>false) false)::(28,ar aZ Tryz.f28 7 [] (fun _=>false) (fun _=>false) (fun _=>false) false)::(29,ar aZ Tryz.f29 31 [] (fun _=>false) (fun _=>false) (fun d=>Nat.beq d 9||Nat.beq d 14||Nat.beq d 16) false)::(37,ar aZ Tryz.f37 27 [] (fun _=>false) (fun _=>false) (fun _=>false) false)::(38,ar aZ Tryz.f38 30767 [] (fun _=>false) (fun _=>false) (fun _=>false) false)::(36,ar aZ Tryz.f36 15 [] (fun _=>false) (fun _=>false) (fun _=>false) false)::(35,ar aZ Tryz.f35 19 [] (fun _=>false) (fun _=>false) (fun _=>false) false)::(51,ar aZ Tryz.f51 9316337836119 [] (fun _=>false) (fun _=>false) (fun _=>false) false)::(52,ar aZ Tryz.f52 8392597 [] (fun _=>false) (fun _=>false) (fun _=>false) false)::(53,ar aZ Tryz.f53 659706875863 [] (fun _=>false) (fun _=>false) (fun _=>false) false)::(54,ar aZ Tryz.f54 633826206808479411720232632383 [] (fun _=>false) (fun _=>false) (fun _=>false) false)::(56,ar aZ Tryz.f56 13 [] (fun _=>false) (fun _=>false) (fun _=>false) false)::(59,ar aZ Tryz.f59 8363 [] (fun _=>false) (fun _=>false) (fun _=>false) false)::(31,ar aZ Tryz.f31 604275 [] (fun _=>false) (fun _=>false) (fun _=>false) false)::(30,ar aZ Tryz.f30 17389 [] (fun _=>false) (fun _=>false) (fun _=>false) false)::(70,ar aZ Tryz.f70 66491 [] (fun _=>false) (fun _=>false) (fun _=>false) false)::(69,ar aZ Tryz.f69 66483 [] (fun _=>false) (fun _=>false) (fun _=>false) false)::(88,ar aZ Tryz.f88 18014398524686365 [] (fun _=>false) (fun _=>false) (fun _=>false) false)::(89,ar aZ Tryz.f89 5469 [] (fun _=>false) (fun _=>false) (fun _=>false) false)::(90,ar aZ Tryz.f90 36909250894291276799 [] (fun _=>false) (fun _=>false) (fun d=>Nat.beq d 17||Nat.beq d 22||Nat.beq d 27||Nat.beq d 29||Nat.beq d 43||Nat.beq d 46||Nat.beq d 63) false)::(91,ar aZ Tryz.f91 299063 [] (fun _=>false) (fun _=>false) (fun _=>false) false)::(92,ar aZ Tryz.f92 7 [] (fun _=>false) (fun _=>false) (fun _=>false) false)::(93,ar aZ Tryz.f93 74783 [] (fun _=>false) (fun _=>false) (fun _=>false) false)::(96,ar aZ Tryz.f96 7 [] (fun _=>false) (fun _=>false) (fun _=>false) false)::(60,ar aZ Tryz.f60 5 [] (fun _=>false) (fun _=>false) (fun _=>false) false)::(133,ar aZ Tryz.f133 5 [] (fun _=>false) (fun _=>false) (fun _=>false) false)::(134,ar aZ Tryz.f134 604275 [] (fun _=>false) (fun _=>false) (fun _=>false) false)::(135,ar aZ Tryz.f135 2623603 [] (fun _=>false) (fun _=>false) (fun _=>false) false)::(136,ar aZ Tryz.f136 31 [] (fun _=>false) (fun _=>false) (fun _=>false) false)::(137,ar aZ Tryz.f137 2159703 [] (fun _=>false) (fun _=>false) (fun _=>false) false)::(138,ar aZ Tryz.f138 10141204803006463002229839257615 [] (fun _=>false) (fun _=>false) (fun _=>false) false)::(139,ar aZ Tryz.f139 19 [] (fun _=>false) (fun _=>false) (fun _=>false) false)::(140,ar aZ Tryz.f140 7 [] (fun _=>false) (fun _=>false) (fun _=>false) false)::(141,ar aZ Tryz.f141 2223863 [] (fun _=>false) (fun _=>false) (fun _=>false) false)::(142,ar aZ Tryz.f142 7 [] (fun _=>false) (fun _=>false) (fun _=>false) false)::(145,ar aZ Tryz.f145 16883 [] (fun _=>false) (fun _=>false) (fun _=>false) false)::(193,ar aZ Tryz.f193 5 [] (fun _=>false) (fun _=>false) (fun _=>false) false)::(194,ar aZ Tryz.f194 19 [] (fun _=>false) (fun _=>false) (fun _=>false) false)::(196,ar aZ Tryz.f196 33071 [] (fun _=>false) (fun _=>false) (fun _=>false) false)::(198,ar aZ Tryz.f198 17 [] (fun _=>false) (fun _=>false) (fun _=>false) false)::(197,ar aZ Tryz.f197 246479 [] (fun _=>false) (fun _=>false) (fun _=>false) false)::(199,ar aZ Tryz.f199 4444215 [] (fun _=>false) (fun _=>false) (fun _=>false) false)::(200,ar aZ Tryz.f200 5 [] (fun _=>false) (fun _=>false) (fun _=>false) false)::(201,ar aZ Tryz.f201 66483 [] (fun _=>false) (fun _=>false) (fun _=>false) false)::(202,ar aZ Tryz.f202 3537148372723500476506894142080440715070649430595550180525943565456506895 [] (fun _=>false) (fun _=>false) (fun _=>false) false)::(203,ar aZ Tryz.f203 27 [] (fun _=>false) (fun _=>false) (fun _=>false) false)::(236,ar aZ Tryz.f236 7 [] (fun _=>false) (fun _=>false) (fun _=>false) false)::(237,ar aZ Tryz.f237 27 [] (fun _=>false) (fun _=>false) (fun _=>false) false)::(238,ar aZ Tryz.f238 7 [] (fun _=>false) (fun _=>false) (fun _=>false) false)::(239,ar aZ Tryz.f239 2098133 [] (fun _=>false) (fun _=>false) (fun _=>false) false)::(240,ar aZ Tryz.f240 13 [] (fun _=>false) (fun _=>false) (fun _=>false) false)::(241,ar aZ Tryz.f241 27 [] (fun _=>false) (fun _=>false) (fun _=>false) false)::(243,ar aZ Tryz.f243 15 [] (fun _=>false) (fun _=>false) (fun _=>false) false)::(242,ar aZ Tryz.f242 19 [] (fun _=>false) (fun _=>false) (fun _=>false) false)::(274,ar aZ Tryz.f274 15 [] (fun _=>false) (fun _=>false) (fun _=>false) false)::(275,ar aZ Tryz.f275 7 [] (fun _=>false) (fun _=>false) (fun _=>false) false)::(278,ar aZ Tryz.f278 11 [] (fun _=>false) (fun _=>false) (fun _=>false) false)::(277,ar aZ Tryz.f277 19 [] (fun _=>false) (fun _=>false) (fun _=>false) false)::(279,ar aZ Tryz.f279 66483 [] (fun _=>false) (fun _=>false) (fun _=>false) false)::(292,ar aZ Tryz.f292 66483 [] (fun _=>false) (fun _=>false) (fun _=>false) false)::[]
theorem zy:ah Tryz.prog zx:=ah.cons Tryz.func7 (by kernel_rfl) (ah.cons Tryz.func9 (by kernel_rfl) (ah.cons Tryz.func15 (by kernel_rfl) (ah.cons Tryz.func19 (by kernel_rfl) (ah.cons Tryz.func8 (by kernel_rfl) (ah.cons Tryz.func12 (by kernel_rfl) (ah.cons Tryz.func11 (by kernel_rfl) (ah.cons Tryz.func24 (by kernel_rfl) (ah.cons Tryz.func25 (by kernel_rfl) (ah.cons Tryz.func26 (by kernel_rfl) (ah.cons Tryz.func28 (by kernel_rfl) (ah.cons Tryz.func29 (by kernel_rfl) (ah.cons Tryz.func37 (by kernel_rfl) (ah.cons Tryz.func38 (by kernel_rfl) (ah.cons Tryz.func36 (by kernel_rfl) (ah.cons Tryz.func35 (by kernel_rfl) (ah.cons Tryz.func51 (by kernel_rfl) (ah.cons Tryz.func52 (by kernel_rfl) (ah.cons Tryz.func53 (by kernel_rfl) (ah.cons Tryz.func54 (by kernel_rfl) (ah.cons Tryz.func56 (by kernel_rfl) (ah.cons Tryz.func59 (by kernel_rfl) (ah.cons Tryz.func31 (by kernel_rfl) (ah.cons Tryz.func30 (by kernel_rfl) (ah.cons Tryz.func70 (by kernel_rfl) (ah.cons Tryz.func69 (by kernel_rfl) (ah.cons Tryz.func88 (by kernel_rfl) (ah.cons Tryz.func89 (by kernel_rfl) (ah.cons Tryz.func90 (by kernel_rfl) (ah.cons Tryz.func91 (by kernel_rfl) (ah.cons Tryz.func92 (by kernel_rfl) (ah.cons Tryz.func93 (by kernel_rfl) (ah.cons Tryz.func96 (by kernel_rfl) (ah.cons Tryz.func60 (by kernel_rfl) (ah.cons Tryz.func133 (by kernel_rfl) (ah.cons Tryz.func134 (by kernel_rfl) (ah.cons Tryz.func135 (by kernel_rfl) (ah.cons Tryz.func136 (by kernel_rfl) (ah.cons Tryz.func137 (by kernel_rfl) (ah.cons Tryz.func138 (by kernel_rfl) (ah.cons Tryz.func139 (by kernel_rfl) (ah.cons Tryz.func140 (by kernel_rfl) (ah.cons Tryz.func141 (by kernel_rfl) (ah.cons Tryz.func142 (by kernel_rfl) (ah.cons Tryz.func145 (by kernel_rfl) (ah.cons Tryz.func193 (by kernel_rfl) (ah.cons Tryz.func194 (by kernel_rfl) (ah.cons Tryz.func196 (by kernel_rfl) (ah.cons Tryz.func198 (by kernel_rfl) (ah.cons Tryz.func197 (by kernel_rfl) (ah.cons Tryz.func199 (by kernel_rfl) (ah.cons Tryz.func200 (by kernel_rfl) (ah.cons Tryz.func201 (by kernel_rfl) (ah.cons Tryz.func202 (by kernel_rfl) (ah.cons Tryz.func203 (by kernel_rfl) (ah.cons Tryz.func236 (by kernel_rfl) (ah.cons Tryz.func237 (by kernel_rfl) (ah.cons Tryz.func238 (by kernel_rfl) (ah.cons Tryz.func239 (by kernel_rfl) (ah.cons Tryz.func240 (by kernel_rfl) (ah.cons Tryz.func241 (by kernel_rfl) (ah.cons Tryz.func243 (by kernel_rfl) (ah.cons Tryz.func242 (by kernel_rfl) (ah.cons Tryz.func274 (by kernel_rfl) (ah.cons Tryz.func275 (by kernel_rfl) (ah.cons Tryz.func278 (by kernel_rfl) (ah.cons Tryz.func277 (by kernel_rfl) (ah.cons Tryz.func279 (by kernel_rfl) (ah.cons Tryz.func292 (by kernel_rfl) (ah.nil)))))))))))))))))))))))))))))))))))))))))))))))))))))))))))))))))))))
end Go.AL.Seat
end
noncomputable section
namespace Go.AL.Seat
open Go Go.AL Go.Proofs Go.Pd
set_option maxRecDepth 1000000
variable [Tabs] [SeatLaid]
def J4:List (Nat×Pat):=(27,kX)::(23,CP [.str awS] awV)::(56,q1 (.lst .str) (fun l=>decide (l.length *16<=140737488355328)) fun l=>.bool (decide l.Nodup))::(71,q1 (.lst .str) (fun l=>decide (l.length *16<=140737488355328)) fun l=>.lst .str l none)::sZ
theorem HP:bM Tryz.prog (gU J4):=sc (su (ee Tryz.func27)) (sc (CQ (ee Tryz.func23) K7) (sc (GR C6 fun _ h=>Xo h) (sc (GR E1 fun _ h=>Xo h) ta)))
theorem zA:ag Tryz.prog 7 (p0 (.ret (.bool true))):=
 JW (ee Tryz.func7) (oF (n:=100) mixed HO HP zy (by kernel_rfl:B0 aZ zx JM JL 50 (gU J4) 100 7 [] []=some ⟨none,none,.bool true,[]⟩))
end Go.AL.Seat
end
section
namespace Go.Proofs.YtbhedkjcdhgkhaaGreatDoor.JUsageUses
open Go.AL Go.AL.Seat Go.Pd Go.ChangeShapes Go.WideShapes Go.RowKit Go.Proofs.YtbhedkjcdhgkhaaGreatDoor.Join
set_option maxRecDepth 1000000
theorem par:Tryz.f3.params=#[26]:=by kernel_rfl
theorem res:Tryz.f3.resultTypes=#[4]:=by kernel_rfl
theorem spec{H:Type}(ds:List (DataW H))(hd:ds.length=1):Rows.usageUsesSpec.fn H ds={results:=[.lit (.bool true)],args:=ds}:=by
 match ds,hd with
 |[d0],_=>rfl
theorem HQ(H:Type)(enc:TypeId×Value->H)(W:World)(base:Nat)(args:Array Value)(ds gs:List (DataW H))(before:List MemPlace)
 (hval:∀(j:Nat) t v,Tryz.f3.params[j]?=some t->args[j]?=some v->Value.okWide Tryz.prog W .any base t v)
 (hW:DataW.Whole enc Tryz.prog Tryz.f3.params.toList Rows.usageUsesSpec.vars false W args.toList ds gs before)(hku:Rows.uptoSmall H (ds++gs)=true)(hL:laidMet Tryz.prog laid W)(hsh:W.ShapedOpen Tryz.prog) :
  Calls Tryz.prog 3 args W fun e W'=>∃v,e=.returned v/\Rows.usageUsesSpec.post enc Tryz.prog Tryz.f3 false true false false W args v W':=by
 letI:Tabs:=rJ W
 haveI:SeatLaid:=Gf hL hsh
 have hW':=hW;obtain⟨p,q,hA,hV,_,_,_⟩:=hW;rw[par]at hA hval;obtain⟨v0,vs0,d0,ds0,p0,q0,hargs0,rfl,rfl,h0,r0⟩:=trodAll_cons hA;obtain⟨rfl,rfl,rfl⟩:=trodAll_nil r0;obtain rfl:args=#[v0]:=by have:=Lu List.toArray hargs0;simpa using this
 obtain⟨x0,hx0,hq0⟩:=Az (DL Tryz.prog) Jw GC (hval 0 26 v0 rfl rfl) h0 (Gj hku (by simp));refine(Dy (nD x0 ⟨_,_,hx0⟩ (Kp.2 fun d hd=>xX (hq0.1 d hd)) hq0.2 zA) (fun b o v h=>h.2) (fun b x h=>h.2) (VL.cons hx0 .nil)).mono fun e W' ⟨he,hb⟩=>?_;subst he;refine⟨_,rfl,G1 (tb:=4) Ii (fun t ht=>?_) rfl (fun ds hd=>spec ds ?_) res undB hW' hb⟩
 ·rw[par]at ht;have ht:t∈[26]:=ht;simp only[Ks,Mf,or_false]at ht;rcases ht with rfl
  ·exact⟨K1,Nz (by decide) dr⟩
 ·rw[par]at hd;exact hd
theorem reads(os:Os){H:Type}(enc:TypeId×Value->H):(DataW.whole enc Tryz.prog ((lE os).forCall (fun _ _=>0) ⟨#[],#[.agg #[.string ⟨#[]⟩,.slice none 0 0,.slice none 0 0,.slice none 0 0,.int .i64 0]],[]⟩).memory Tryz.f3.params.toList Rows.usageUsesSpec.vars false [Value.agg #[.string ⟨#[]⟩,.slice none 0 0,.slice none 0 0,.slice none 0 0,.int .i64 0]] 8).map (fun x=>(x.1,x.2.1))=some ([.agg [.lit (.string []),.nil,.nil,.nil,.lit (.int .i64 0)]],[]):=by kernel_rfl
theorem JN(os:Os)(started:os.Started)(H:Type)(enc:TypeId×Value->H)(F:Stop.Interp) :
  ReturnsInHanded {} Tryz.checked os 3 .any ((Rows.OpenSpec.upto Rows.usageUsesSpec).preRow enc Tryz.prog Tryz.f3 Rows.usageUsesUptoRow.domain false Rows.usageUsesUptoRow.laid) (((Rows.OpenSpec.upto Rows.usageUsesSpec).at F).post enc Tryz.prog Tryz.f3 false true false false):=by
 obtain⟨⟨y1,y2,y3⟩,hx,hy⟩:=KB.1 (reads os enc);simp only[ME]at hy;obtain⟨rfl,rfl⟩:=hy
 refine returnsInHanded_of_row (C:=Tryz.checked) (s:=Rows.OpenSpec.upto Rows.usageUsesSpec) own started (by kernel_rfl) Tryz.func3
  (witness_row_atRef (enc:=enc) (C:=Tryz.checked) false (lE os) #[.agg #[.string ⟨#[]⟩,.slice none 0 0,.slice none 0 0,.slice none 0 0,.int .i64 0]] rfl (by kernel_rfl) (by kernel_rfl) (by kernel_rfl)
   (OpenSpec.preRow_of_cond 8 hx (by kernel_rfl) (fun k hk=>by cases hk;kernel_rfl) (by kernel_rfl) (Gg os _))) ?_
 intro W base args ds gs before hval hW _ hku _ hL hsh _;exact HQ H enc W base args ds gs before hval hW (hku _ rfl) hL hsh
theorem c1:(Rows.usageUsesUptoRow.inPlace ==Tryz.prog.inPlace 3)=true:=by kernel_rfl
theorem c2:(Rows.usageUsesUptoRow.unfollowed ==Tryz.prog.unfollowed 3)=true:=by kernel_rfl
theorem c3:(Rows.usageUsesUptoRow.recurses ==Tryz.prog.recurses 3)=true:=by kernel_rfl
theorem c4:(Rows.usageUsesUptoRow.named ==Tryz.prog.varsNamed 3)=true:=by kernel_rfl
theorem JO:joinedFacts Tryz.prog 3 Tryz.f3 (Rows.OpenSpec.upto Rows.usageUsesSpec).bare Rows.usageUsesUptoRow=true:=by unfold joinedFacts;rw[c1,c2,c3,c4];kernel_rfl
theorem said:Rows.UsageUsesUptoSaid:=
 OpenClaim.holds_of_cond 3 Tryz.f3 rfl rfl rfl rfl rfl rfl rfl ⟨rfl,rfl,rfl,rfl,rfl⟩ rfl rfl rfl rfl rfl (by kernel_rfl) Tryz.func3 JO
  (Xo (by kernel_rfl)) (by unfold Func.isWrapper;first|(rw[Kf (by decide+kernel)];kernel_rfl)|(rw[Kb (by decide+kernel)];exact⟨rfl,rfl⟩))
  (fun os started H enc _ F=>by rw[OpenClaim.pre_eq_preRow];exact JN os started H enc F)
theorem ev(f:FuncId)(fn:Func)(hf:Tryz.pinned.checked.prog.funcNamed "pandect/pandectlaw34.UsageUses"=some f)(hfn:Tryz.pinned.checked.prog.funcs[f]?=some fn) :
  true=Tryz.pinned.checked.prog.looks []/\∀(j:Nat) t,fn.params[j]?=some t->Tryz.pinned.checked.prog.wantsStandIn t=false:=by
 obtain rfl:f=3:=KY ((show Tryz.prog.funcNamed "pandect/pandectlaw34.UsageUses"=some 3 by kernel_rfl).symm.trans hf) |>.symm;obtain rfl:fn=Tryz.f3:=(KY (Tryz.func3.symm.trans hfn)).symm;refine ⟨by kernel_rfl,fun j t ht=>?_⟩;rw [par] at ht;have ht:=Array.mem_of_getElem? ht;simp only [List.mem_toArray,Ks,Mf,or_false] at ht;rcases ht with rfl
 ·exact(show Tryz.prog.wantsStandIn 26=false by kernel_rfl)
theorem card:Rows.UsageUsesUptoCardSaid:=
 Claim7.holds_tied_plain_at .later [] _ _ _ _ said (fun _ h=>by cases h) (by kernel_rfl) (fun _ h=>by cases h) usageUsesUpto_row_tie rfl ⟨rfl,rfl⟩ (by kernel_rfl) rfl ev (by kernel_rfl)
end Go.Proofs.YtbhedkjcdhgkhaaGreatDoor.JUsageUses
end
