/- What the functions' conditions say, proved. The contracts of the functions. Plain facts. No condition. -/
import Derived.Test.YtpiedfeneggkmaaGreatDoorT06
set_option linter.all false
set_option maxRecDepth 100000
section
open Go Go.AL Go.Pd
namespace Go.AL.Seat
theorem Gn(n:Nat)(t:Trm)(e:Envt)(ht:Wf (.st .term) t)(he:Wf (.st .env) e)(hp:0<t.parts.length)(hz:szT t<=n+1)(hf:allT ag t=true)(hv:e.values.length+4096 *szT t<=100000000) :
  inR IntKind.i64 ((↑(List.length e.own):Int)-(1:Int))/\(∃(x:Nat×Option Shape),(x.1<=List.length e.own/\(x.2=none->ck e.own t.name=ck (List.take x.1 e.own) t.name)/\∀(s:Shape),x.2=some s->ck e.own t.name=some s)/\(↑(List.length e.own):Int)-(1:Int)=(↑x.1:Int)-(1:Int)/\false=Option.isSome x.2/\t=t/\e=e/\(0:Int)=(Option.elim x.2 al aM).kind/\[]=(Option.elim x.2 al aM).pkg/\[]=(Option.elim x.2 al aM).name/\(Option.elim x.2 al aM).names=[]/\(Option.elim x.2 al aM).parts=[]/\t=t/\e=e/\(0:Int)=(0:Int)/\an UInt8=an UInt8/\an UInt8=an UInt8/\(0:Int)=(0:Int)/\(0:Int)=(0:Int)/\True)/\∀(x:Nat×Option Shape),(x.1<=List.length e.own/\(x.2=none->ck e.own t.name=ck (List.take x.1 e.own) t.name)/\∀(s:Shape),x.2=some s->ck e.own t.name=some s)->if decide ((0:Int)<=(↑x.1:Int)-(1:Int))=true then if(!Option.isSome x.2)=true then((0:Int)<=(↑x.1:Int)-(1:Int)/\(↑x.1:Int)-(1:Int)<(↑(List.length e.own):Int))/\if decide ((List.getD e.own (Int.toNat ((↑x.1:Int)-(1:Int))) (dfl (Ty.st SN.bind))).name=t.name)=true then((0:Int)<=(↑x.1:Int)-(1:Int)/\(↑x.1:Int)-(1:Int)<(↑(List.length e.own):Int))/\inR IntKind.i64 ((↑x.1:Int)-(1:Int)-(1:Int))/\∃(y:Nat×Option Shape),(y.1<=List.length e.own/\(y.2=none->ck e.own t.name=ck (List.take y.1 e.own) t.name)/\∀(s:Shape),y.2=some s->ck e.own t.name=some s)/\y.1<x.1/\(↑x.1:Int)-(1:Int)-(1:Int)=(↑y.1:Int)-(1:Int)/\true=Option.isSome y.2/\t=t/\e=e/\aM (List.getD e.own (Int.toNat ((↑x.1:Int)-(1:Int))) (dfl (Ty.st SN.bind))).shape=Option.elim y.2 al aM/\t=t/\e=e/\(0:Int)=(0:Int)/\an UInt8=an UInt8/\an UInt8=an UInt8/\(0:Int)=(0:Int)/\(0:Int)=(0:Int)/\True else inR IntKind.i64 ((↑x.1:Int)-(1:Int)-(1:Int))/\∃(y:Nat×Option Shape),(y.1<=List.length e.own/\(y.2=none->ck e.own t.name=ck (List.take y.1 e.own) t.name)/\∀(s:Shape),y.2=some s->ck e.own t.name=some s)/\y.1<x.1/\(↑x.1:Int)-(1:Int)-(1:Int)=(↑y.1:Int)-(1:Int)/\Option.isSome x.2=Option.isSome y.2/\t=t/\e=e/\Option.elim x.2 al aM=Option.elim y.2 al aM/\t=t/\e=e/\(0:Int)=(0:Int)/\an UInt8=an UInt8/\an UInt8=an UInt8/\(0:Int)=(0:Int)/\(0:Int)=(0:Int)/\True else if(!Option.isSome x.2)=true then True/\Option.elim x.2 al aM=(dq (aa n) t e).1/\(110:Int)=(dq (aa n) t e).2.err/\t.pos=(dq (aa n) t e).2.pos/\True else if decide (t.kind=(17:Int))=true then((0:Int)<=(0:Int)/\(0:Int)<(↑(List.length t.parts):Int))/\(szT (List.getD t.parts (Int.toNat (0:Int)) (dfl (Ty.st SN.term)))<=n/\allT ag (List.getD t.parts (Int.toNat (0:Int)) (dfl (Ty.st SN.term)))=true/\List.length e.values+(4096:Nat) *szT (List.getD t.parts (Int.toNat (0:Int)) (dfl (Ty.st SN.term)))<=(100000000:Nat))/\True/\Option.elim x.2 al aM=(dq (aa n) t e).1/\(au (aa n) (List.getD t.parts (Int.toNat (0:Int)) (dfl (Ty.st SN.term))) {kind:=(10:Int),pkg:=e.self,name:=t.name,names:=[],parts:=[]:Shape} e).err=(dq (aa n) t e).2.err/\(au (aa n) (List.getD t.parts (Int.toNat (0:Int)) (dfl (Ty.st SN.term))) {kind:=(10:Int),pkg:=e.self,name:=t.name,names:=[],parts:=[]:Shape} e).pos=(dq (aa n) t e).2.pos/\True else((0:Int)<=(0:Int)/\(0:Int)<(↑(List.length t.parts):Int))/\(szT (List.getD t.parts (Int.toNat (0:Int)) (dfl (Ty.st SN.term)))<=n/\allT ag (List.getD t.parts (Int.toNat (0:Int)) (dfl (Ty.st SN.term)))=true
  /\List.length e.values+(4096:Nat) *szT (List.getD t.parts (Int.toNat (0:Int)) (dfl (Ty.st SN.term)))<=(100000000:Nat))/\True/\(10:Int)=(dq (aa n) t e).1.kind/\e.self=(dq (aa n) t e).1.pkg/\t.name=(dq (aa n) t e).1.name/\(dq (aa n) t e).1.names=[]/\(dq (aa n) t e).1.parts=[]/\(au (aa n) (List.getD t.parts (Int.toNat (0:Int)) (dfl (Ty.st SN.term))) (Option.elim x.2 al aM) e).err=(dq (aa n) t e).2.err/\(au (aa n) (List.getD t.parts (Int.toNat (0:Int)) (dfl (Ty.st SN.term))) (Option.elim x.2 al aM) e).pos=(dq (aa n) t e).2.pos/\True else if(!Option.isSome x.2)=true then True/\Option.elim x.2 al aM=(dq (aa n) t e).1/\(110:Int)=(dq (aa n) t e).2.err/\t.pos=(dq (aa n) t e).2.pos/\True else if decide (t.kind=(17:Int))=true then((0:Int)<=(0:Int)/\(0:Int)<(↑(List.length t.parts):Int))/\(szT (List.getD t.parts (Int.toNat (0:Int)) (dfl (Ty.st SN.term)))<=n/\allT ag (List.getD t.parts (Int.toNat (0:Int)) (dfl (Ty.st SN.term)))=true/\List.length e.values+(4096:Nat) *szT (List.getD t.parts (Int.toNat (0:Int)) (dfl (Ty.st SN.term)))<=(100000000:Nat))/\True/\Option.elim x.2 al aM=(dq (aa n) t e).1/\(au (aa n) (List.getD t.parts (Int.toNat (0:Int)) (dfl (Ty.st SN.term))) {kind:=(10:Int),pkg:=e.self,name:=t.name,names:=[],parts:=[]:Shape} e).err=(dq (aa n) t e).2.err/\(au (aa n) (List.getD t.parts (Int.toNat (0:Int)) (dfl (Ty.st SN.term))) {kind:=(10:Int),pkg:=e.self,name:=t.name,names:=[],parts:=[]:Shape} e).pos=(dq (aa n) t e).2.pos/\True else((0:Int)<=(0:Int)/\(0:Int)<(↑(List.length t.parts):Int))/\(szT (List.getD t.parts (Int.toNat (0:Int)) (dfl (Ty.st SN.term)))<=n/\allT ag (List.getD t.parts (Int.toNat (0:Int)) (dfl (Ty.st SN.term)))=true/\List.length e.values+(4096:Nat) *szT (List.getD t.parts (Int.toNat (0:Int)) (dfl (Ty.st SN.term)))<=(100000000:Nat))/\True/\(10:Int)=(dq (aa n) t e).1.kind/\e.self=(dq (aa n) t e).1.pkg/\t.name=(dq (aa n) t e).1.name/\(dq (aa n) t e).1.names=[]/\(dq (aa n) t e).1.parts=[]/\(au (aa n) (List.getD t.parts (Int.toNat (0:Int)) (dfl (Ty.st SN.term))) (Option.elim x.2 al aM) e).err=(dq (aa n) t e).2.err/\(au (aa n) (List.getD t.parts (Int.toNat (0:Int)) (dfl (Ty.st SN.term))) (Option.elim x.2 al aM) e).pos=(dq (aa n) t e).2.pos/\True:=by
 have ln:e.own.length<=9223372036854775807:=he.env_own.len;have p0:=qy (dfl (.st .term)) hz hf hp;have q0:e.values.length+4096 *szT (t.parts.getD (Int.toNat 0) (dfl (.st .term)))<=100000000:=by rw[show Int.toNat 0=0 from rfl];have:=p0.2.2;omega
 simp only[eq_self,true_and,and_true];refine⟨b8 (by omega) (by omega),⟨(e.own.length,none),⟨Nat.le_refl _,fun _=>by rw[List.take_length],fun s h=>nomatch h⟩,rfl,rfl,rfl,rfl,rfl,rfl,rfl⟩,?_⟩;rintro⟨x,o⟩ ⟨h1,h2,h3⟩;dsimp only at h1 h2 h3⊢;refine ab (fun h=>ab (fun ho=>?_) (fun ho=>?_)) (fun h=>?_)
 ·have h:=Xo h;obtain rfl:o=none:=by cases o with|none=>rfl|some s=>exact absurd ho Bool.false_ne_true
  obtain⟨k,rfl⟩:∃k,x=k+1:=⟨x-1,by omega⟩;have e1:(((k+1:Nat):Int)-1)=(k:Int):=by omega
  have h2:=h2 rfl;rw[qB e.own t.name (dfl (.st .bind)) (by omega)]at h2;simp only[e1,Int.toNat_natCast];refine⟨by omega,ab (fun c=>?_) (fun c=>?_)⟩
  ·rw[if_pos (Xo c)]at h2;exact⟨by omega,b8 (by omega) (by omega),(k,some (e.own.getD k (dfl (.st .bind))).shape),⟨by dsimp only;omega,fun g=>(by cases g),fun s g=>(by cases g;exact h2)⟩,by dsimp only;omega,rfl,rfl,rfl⟩
  ·rw[if_neg (fun g=>c (Xd g))]at h2;exact⟨b8 (by omega) (by omega),(k,none),⟨by dsimp only;omega,fun _=>h2,fun s g=>(by cases g)⟩,by dsimp only;omega,rfl,rfl,rfl⟩
 ·have ho:o=ck e.own t.name:=by
   cases o with
   |none=>exact absurd rfl ho
   |some s=>exact(h3 s rfl).symm
  cases o with
  |none=>rw[nc ho.symm];exact ab (fun _=>⟨rfl,rfl,rfl⟩) (fun c=>absurd rfl c)
  |some s=>
   rw[nd ho.symm];refine ab (fun c=>absurd c Bool.false_ne_true) (fun _=>ab (fun c=>?_) (fun c=>?_))
   ·rw[if_pos (Xo c)];exact⟨by omega,⟨p0.1,p0.2.1,q0⟩,rfl,rfl,rfl⟩
   ·rw[if_neg (fun g=>c (Xd g))];exact⟨by omega,⟨p0.1,p0.2.1,q0⟩,rfl,rfl,rfl,rfl,rfl,rfl,rfl⟩
 ·have h:¬(0:Int)<=(x:Int)-1:=fun g=>h (Xd g);obtain rfl:x=0:=by omega
  have ho:o=ck e.own t.name:=by
   cases o with
   |none=>exact(h2 rfl).symm
   |some s=>exact(h3 s rfl).symm
  cases o with
  |none=>rw[nc ho.symm];exact ab (fun _=>⟨rfl,rfl,rfl⟩) (fun c=>absurd rfl c)
  |some s=>
   rw[nd ho.symm];refine ab (fun c=>absurd c Bool.false_ne_true) (fun _=>ab (fun c=>?_) (fun c=>?_))
   ·rw[if_pos (Xo c)];exact⟨by omega,⟨p0.1,p0.2.1,q0⟩,rfl,rfl,rfl⟩
   ·rw[if_neg (fun g=>c (Xd g))];exact⟨by omega,⟨p0.1,p0.2.1,q0⟩,rfl,rfl,rfl,rfl,rfl,rfl,rfl⟩
theorem Cq(n:Nat)(t:Trm)(e:Envt)(ht:Wf (.st .term) t)(he:Wf (.st .env) e)(hk:t.kind=6∨t.kind=11∨t.kind=12∨t.kind=13∨t.kind=15)(hz:szT t<=n+1)(hf:allT ag t=true)(hv:e.values.length+4096 *szT t<=100000000) :
  List.length t.shapes<=(1000000:Nat)/\if(!decide ((ae e.types t.pos t.shapes).2.err=(0:Int)))=true then True/\(0:Int)=(ar (aa n) t e).1.kind/\[]=(ar (aa n) t e).1.pkg/\[]=(ar (aa n) t e).1.name/\(ar (aa n) t e).1.names=[]/\(ar (aa n) t e).1.parts=[]/\(ae e.types t.pos t.shapes).2.err=(ar (aa n) t e).2.err/\(ae e.types t.pos t.shapes).2.pos=(ar (aa n) t e).2.pos/\True else inR IntKind.i64 ((↑(List.length (ae e.types t.pos t.shapes).1):Int)-(1:Int))/\if decide (t.kind=(6:Int))=true then(∃(x:Nat×Envt),(x.1<=List.length t.names/\List.length x.2.values=List.length e.values+x.1/\bk x.2 (cD (List.drop x.1 t.names) (List.drop x.1 (ae e.types t.pos t.shapes).1))=bk e (cD t.names (ae e.types t.pos t.shapes).1))/\(0:Int)=(↑x.1:Int)/\t=t/\e=e/\(ae e.types t.pos t.shapes).1=(ae e.types t.pos t.shapes).1/\false=false/\(↑(List.length (ae e.types t.pos t.shapes).1):Int)-(1:Int)=(↑(List.length (ae e.types t.pos t.shapes).1):Int)-(1:Int)/\t.kind=t.kind/\true=true/\t.names=t.names/\(↑(List.length t.names):Int)=(↑(List.length t.names):Int)/\e=x.2/\t=t/\(0:Int)=(0:Int)/\an UInt8=an UInt8/\an UInt8=an UInt8/\(0:Int)=(0:Int)/\(0:Int)=(0:Int)/\List.length (ae e.types t.pos t.shapes).1=List.length (ae e.types t.pos t.shapes).1/\(ae e.types t.pos t.shapes).2.err=(ae e.types t.pos t.shapes).2.err/\(ae e.types t.pos t.shapes).2.pos=(ae e.types t.pos t.shapes).2.pos/\True)/\∀(x:Nat×Envt),x.1<=List.length t.names/\List.length x.2.values=List.length e.values+x.1/\bk x.2 (cD (List.drop x.1 t.names) (List.drop x.1 (ae e.types t.pos t.shapes).1))=bk e (cD t.names (ae e.types t.pos t.shapes).1)->if decide ((↑x.1:Int)<(↑(List.length t.names):Int))=true then((0:Int)<=(↑x.1:Int)/\(↑x.1:Int)<(↑(List.length t.names):Int))/\((0:Int)<=(↑x.1:Int)/\(↑x.1:Int)<(↑(List.length (ae e.types t.pos t.shapes).1):Int))/\(List.length x.2.values<=(1000000000:Nat)/\List.length [{pkg:=[],name:=List.getD t.names (Int.toNat (↑x.1:Int)) (dfl Ty.str),shape:=AL.Shape.mk ((List.getD (ae e.types t.pos t.shapes).1 (Int.toNat (↑x.1:Int)) (dfl (Ty.st SN.shape))).kind) ((List.getD (ae e.types t.pos t.shapes).1 (Int.toNat (↑x.1:Int)) (dfl (Ty.st SN.shape))).pkg) ((List.getD (ae e.types t.pos t.shapes).1 (Int.toNat (↑x.1:Int)) (dfl (Ty.st SN.shape))).name) ((List.getD (ae e.types t.pos t.shapes).1 (Int.toNat (↑x.1:Int)) (dfl (Ty.st SN.shape))).names) ((List.getD (ae e.types t.pos t.shapes).1 (Int.toNat (↑x.1:Int)) (dfl (Ty.st SN.shape))).parts):Bndg}]<=(1000:Nat))/\inR IntKind.i64 ((↑x.1:Int)+(1:Int))/\∃(y:Nat×Envt),(y.1<=List.length t.names/\List.length y.2.values=List.length e.values+y.1/\bk y.2 (cD (List.drop y.1 t.names) (List.drop y.1 (ae e.types t.pos t.shapes).1))=bk e (cD t.names (ae e.types t.pos t.shapes).1))/\List.length t.names-y.1<List.length t.names-x.1/\(↑x.1:Int)+(1:Int)=(↑y.1:Int)/\t=t/\e=e/\(ae e.types t.pos t.shapes).1=(ae e.types t.pos t.shapes).1/\false=false/\(↑(List.length (ae e.types t.pos t.shapes).1):Int)-(1:Int)=(↑(List.length (ae e.types t.pos t.shapes).1):Int)-(1:Int)/\t.kind=t.kind/\true=true/\t.names=t.names/\(↑(List.length t.names):Int)=(↑(List.length t.names):Int)
  /\bk x.2 [{pkg:=[],name:=List.getD t.names (Int.toNat (↑x.1:Int)) (dfl Ty.str),shape:=AL.Shape.mk ((List.getD (ae e.types t.pos t.shapes).1 (Int.toNat (↑x.1:Int)) (dfl (Ty.st SN.shape))).kind) ((List.getD (ae e.types t.pos t.shapes).1 (Int.toNat (↑x.1:Int)) (dfl (Ty.st SN.shape))).pkg) ((List.getD (ae e.types t.pos t.shapes).1 (Int.toNat (↑x.1:Int)) (dfl (Ty.st SN.shape))).name) ((List.getD (ae e.types t.pos t.shapes).1 (Int.toNat (↑x.1:Int)) (dfl (Ty.st SN.shape))).names) ((List.getD (ae e.types t.pos t.shapes).1 (Int.toNat (↑x.1:Int)) (dfl (Ty.st SN.shape))).parts):Bndg}]=y.2/\t=t/\(0:Int)=(0:Int)/\an UInt8=an UInt8/\an UInt8=an UInt8/\(0:Int)=(0:Int)/\(0:Int)=(0:Int)/\List.length (ae e.types t.pos t.shapes).1=List.length (ae e.types t.pos t.shapes).1/\(ae e.types t.pos t.shapes).2.err=(ae e.types t.pos t.shapes).2.err/\(ae e.types t.pos t.shapes).2.pos=(ae e.types t.pos t.shapes).2.pos/\True else((0:Int)<=(0:Int)/\(0:Int)<(↑(List.length t.parts):Int))/\(szT (List.getD t.parts (Int.toNat (0:Int)) (dfl (Ty.st SN.term)))<=n/\allT ag (List.getD t.parts (Int.toNat (0:Int)) (dfl (Ty.st SN.term)))=true/\List.length x.2.values+(4096:Nat) *szT (List.getD t.parts (Int.toNat (0:Int)) (dfl (Ty.st SN.term)))<=(100000000:Nat))/\(List.length (ae e.types t.pos t.shapes).1=List.length (ae e.types t.pos t.shapes).1/\(List.length (ae e.types t.pos t.shapes).1+List.length [(aa n (List.getD t.parts (Int.toNat (0:Int)) (dfl (Ty.st SN.term))) x.2).1]) *(88:Nat)<=(140737488355328:Nat))/\True/\(8:Int)=(ar (aa n) t e).1.kind/\[]=(ar (aa n) t e).1.pkg/\[]=(ar (aa n) t e).1.name/\(ar (aa n) t e).1.names=[]/\(ae e.types t.pos t.shapes).1++[(aa n (List.getD t.parts (Int.toNat (0:Int)) (dfl (Ty.st SN.term))) x.2).1]=(ar (aa n) t e).1.parts/\(aa n (List.getD t.parts (Int.toNat (0:Int)) (dfl (Ty.st SN.term))) x.2).2.err=(ar (aa n) t e).2.err/\(aa n (List.getD t.parts (Int.toNat (0:Int)) (dfl (Ty.st SN.term))) x.2).2.pos=(ar (aa n) t e).2.pos/\True else if decide (t.kind=(11:Int))=true then(∃(x:Nat),(x<=List.length t.parts/\b6 (aa n) e (List.getD (ae e.types t.pos t.shapes).1 (0:Nat) al) (List.drop x t.parts)=b6 (aa n) e (List.getD (ae e.types t.pos t.shapes).1 (0:Nat) al) t.parts)/\(0:Int)=(↑x:Int)/\t=t/\e=e/\(ae e.types t.pos t.shapes).1=(ae e.types t.pos t.shapes).1/\false=false/\(↑(List.length (ae e.types t.pos t.shapes).1):Int)-(1:Int)=(↑(List.length (ae e.types t.pos t.shapes).1):Int)-(1:Int)/\t.kind=t.kind/\false=false/\true=true/\t.parts=t.parts/\(↑(List.length t.parts):Int)=(↑(List.length t.parts):Int)/\t=t/\e=e/\(0:Int)=(0:Int)/\an UInt8=an UInt8/\an UInt8=an UInt8/\(0:Int)=(0:Int)/\(0:Int)=(0:Int)/\List.length (ae e.types t.pos t.shapes).1=List.length (ae e.types t.pos t.shapes).1/\(ae e.types t.pos t.shapes).2.err=(ae e.types t.pos t.shapes).2.err/\(ae e.types t.pos t.shapes).2.pos=(ae e.types t.pos t.shapes).2.pos/\True)/\∀(x:Nat),x<=List.length t.parts/\b6 (aa n) e (List.getD (ae e.types t.pos t.shapes).1 (0:Nat) al) (List.drop x t.parts)=b6 (aa n) e (List.getD (ae e.types t.pos t.shapes).1 (0:Nat) al) t.parts->if decide ((↑x:Int)<(↑(List.length t.parts):Int))=true then((0:Int)<=(↑x:Int)/\(↑x:Int)<(↑(List.length t.parts):Int))/\((0:Int)<=(0:Int)/\(0:Int)<(↑(List.length (ae e.types t.pos t.shapes).1):Int))/\(szT (List.getD t.parts (Int.toNat (↑x:Int)) (dfl (Ty.st SN.term)))<=n
  /\allT ag (List.getD t.parts (Int.toNat (↑x:Int)) (dfl (Ty.st SN.term)))=true/\List.length e.values+(4096:Nat) *szT (List.getD t.parts (Int.toNat (↑x:Int)) (dfl (Ty.st SN.term)))<=(100000000:Nat))/\if(!decide ((au (aa n) (List.getD t.parts (Int.toNat (↑x:Int)) (dfl (Ty.st SN.term))) (List.getD (ae e.types t.pos t.shapes).1 (Int.toNat (0:Int)) (dfl (Ty.st SN.shape))) e).err=(0:Int)))=true then((0:Int)<=(0:Int)/\(0:Int)<(↑(List.length (ae e.types t.pos t.shapes).1):Int))/\True/\List.getD (ae e.types t.pos t.shapes).1 (Int.toNat (0:Int)) (dfl (Ty.st SN.shape))=(ar (aa n) t e).1/\(au (aa n) (List.getD t.parts (Int.toNat (↑x:Int)) (dfl (Ty.st SN.term))) (List.getD (ae e.types t.pos t.shapes).1 (Int.toNat (0:Int)) (dfl (Ty.st SN.shape))) e).err=(ar (aa n) t e).2.err/\(au (aa n) (List.getD t.parts (Int.toNat (↑x:Int)) (dfl (Ty.st SN.term))) (List.getD (ae e.types t.pos t.shapes).1 (Int.toNat (0:Int)) (dfl (Ty.st SN.shape))) e).pos=(ar (aa n) t e).2.pos/\True else inR IntKind.i64 ((↑x:Int)+(1:Int))/\∃(y:Nat),(y<=List.length t.parts/\b6 (aa n) e (List.getD (ae e.types t.pos t.shapes).1 (0:Nat) al) (List.drop y t.parts)=b6 (aa n) e (List.getD (ae e.types t.pos t.shapes).1 (0:Nat) al) t.parts)/\List.length t.parts-y<List.length t.parts-x/\(↑x:Int)+(1:Int)=(↑y:Int)/\t=t/\e=e/\(ae e.types t.pos t.shapes).1=(ae e.types t.pos t.shapes).1/\false=false/\(↑(List.length (ae e.types t.pos t.shapes).1):Int)-(1:Int)=(↑(List.length (ae e.types t.pos t.shapes).1):Int)-(1:Int)/\t.kind=t.kind/\false=false/\true=true/\t.parts=t.parts/\(↑(List.length t.parts):Int)=(↑(List.length t.parts):Int)/\t=t/\e=e/\(0:Int)=(0:Int)/\an UInt8=an UInt8/\an UInt8=an UInt8/\(0:Int)=(0:Int)/\(0:Int)=(0:Int)/\List.length (ae e.types t.pos t.shapes).1=List.length (ae e.types t.pos t.shapes).1/\(ae e.types t.pos t.shapes).2.err=(ae e.types t.pos t.shapes).2.err/\(ae e.types t.pos t.shapes).2.pos=(ae e.types t.pos t.shapes).2.pos/\True else True/\(5:Int)=(ar (aa n) t e).1.kind/\[]=(ar (aa n) t e).1.pkg/\[]=(ar (aa n) t e).1.name/\(ar (aa n) t e).1.names=[]/\(ae e.types t.pos t.shapes).1=(ar (aa n) t e).1.parts/\(0:Int)=(ar (aa n) t e).2.err/\(0:Int)=(ar (aa n) t e).2.pos/\True else if decide (t.kind=(15:Int))=true then((0:Int)<=(0:Int)/\(0:Int)<(↑(List.length (ae e.types t.pos t.shapes).1):Int))/\((0:Int)<=(0:Int)/\(0:Int)<(↑(List.length t.parts):Int))/\((0:Int)<=(0:Int)/\(0:Int)<(↑(List.length (ae e.types t.pos t.shapes).1):Int))/\(szT (List.getD t.parts (Int.toNat (0:Int)) (dfl (Ty.st SN.term)))<=n/\allT ag (List.getD t.parts (Int.toNat (0:Int)) (dfl (Ty.st SN.term)))=true/\List.length e.values+(4096:Nat) *szT (List.getD t.parts (Int.toNat (0:Int)) (dfl (Ty.st SN.term)))<=(100000000:Nat))/\True/\List.getD (ae e.types t.pos t.shapes).1 (Int.toNat (0:Int)) (dfl (Ty.st SN.shape))=(ar (aa n) t e).1/\(au (aa n) (List.getD t.parts (Int.toNat (0:Int)) (dfl (Ty.st SN.term))) (List.getD (ae e.types t.pos t.shapes).1 (Int.toNat (0:Int)) (dfl (Ty.st SN.shape))) e).err=(ar (aa n) t e).2.err/\(au (aa n) (List.getD t.parts (Int.toNat (0:Int)) (dfl (Ty.st SN.term))) (List.getD (ae e.types t.pos t.shapes).1 (Int.toNat (0:Int)) (dfl (Ty.st SN.shape))) e).pos=(ar (aa n) t e).2.pos/\True else if decide (t.kind=(12:Int))=true then((0:Int)<=(0:Int)/\(0:Int)<(↑(List.length t.parts):Int))
  /\(szT (List.getD t.parts (Int.toNat (0:Int)) (dfl (Ty.st SN.term)))<=n/\allT ag (List.getD t.parts (Int.toNat (0:Int)) (dfl (Ty.st SN.term)))=true/\List.length e.values+(4096:Nat) *szT (List.getD t.parts (Int.toNat (0:Int)) (dfl (Ty.st SN.term)))<=(100000000:Nat))/\if(!decide ((au (aa n) (List.getD t.parts (Int.toNat (0:Int)) (dfl (Ty.st SN.term))) (ofK (2:Int)) e).err=(0:Int)))=true then((0:Int)<=(0:Int)/\(0:Int)<(↑(List.length (ae e.types t.pos t.shapes).1):Int))/\True/\List.getD (ae e.types t.pos t.shapes).1 (Int.toNat (0:Int)) (dfl (Ty.st SN.shape))=(ar (aa n) t e).1/\(au (aa n) (List.getD t.parts (Int.toNat (0:Int)) (dfl (Ty.st SN.term))) (ofK (2:Int)) e).err=(ar (aa n) t e).2.err/\(au (aa n) (List.getD t.parts (Int.toNat (0:Int)) (dfl (Ty.st SN.term))) (ofK (2:Int)) e).pos=(ar (aa n) t e).2.pos/\True else((0:Int)<=(1:Int)/\(1:Int)<(↑(List.length t.parts):Int))/\((0:Int)<=(0:Int)/\(0:Int)<(↑(List.length (ae e.types t.pos t.shapes).1):Int))/\(szT (List.getD t.parts (Int.toNat (1:Int)) (dfl (Ty.st SN.term)))<=n/\allT ag (List.getD t.parts (Int.toNat (1:Int)) (dfl (Ty.st SN.term)))=true/\List.length e.values+(4096:Nat) *szT (List.getD t.parts (Int.toNat (1:Int)) (dfl (Ty.st SN.term)))<=(100000000:Nat))/\if(!decide ((au (aa n) (List.getD t.parts (Int.toNat (1:Int)) (dfl (Ty.st SN.term))) (List.getD (ae e.types t.pos t.shapes).1 (Int.toNat (0:Int)) (dfl (Ty.st SN.shape))) e).err=(0:Int)))=true then((0:Int)<=(0:Int)/\(0:Int)<(↑(List.length (ae e.types t.pos t.shapes).1):Int))/\True/\List.getD (ae e.types t.pos t.shapes).1 (Int.toNat (0:Int)) (dfl (Ty.st SN.shape))=(ar (aa n) t e).1/\(au (aa n) (List.getD t.parts (Int.toNat (1:Int)) (dfl (Ty.st SN.term))) (List.getD (ae e.types t.pos t.shapes).1 (Int.toNat (0:Int)) (dfl (Ty.st SN.shape))) e).err=(ar (aa n) t e).2.err/\(au (aa n) (List.getD t.parts (Int.toNat (1:Int)) (dfl (Ty.st SN.term))) (List.getD (ae e.types t.pos t.shapes).1 (Int.toNat (0:Int)) (dfl (Ty.st SN.shape))) e).pos=(ar (aa n) t e).2.pos/\True else((0:Int)<=(0:Int)/\(0:Int)<(↑(List.length (ae e.types t.pos t.shapes).1):Int))/\((0:Int)<=(2:Int)/\(2:Int)<(↑(List.length t.parts):Int))/\((0:Int)<=(0:Int)/\(0:Int)<(↑(List.length (ae e.types t.pos t.shapes).1):Int))/\(szT (List.getD t.parts (Int.toNat (2:Int)) (dfl (Ty.st SN.term)))<=n/\allT ag (List.getD t.parts (Int.toNat (2:Int)) (dfl (Ty.st SN.term)))=true/\List.length e.values+(4096:Nat) *szT (List.getD t.parts (Int.toNat (2:Int)) (dfl (Ty.st SN.term)))<=(100000000:Nat))/\True/\List.getD (ae e.types t.pos t.shapes).1 (Int.toNat (0:Int)) (dfl (Ty.st SN.shape))=(ar (aa n) t e).1/\(au (aa n) (List.getD t.parts (Int.toNat (2:Int)) (dfl (Ty.st SN.term))) (List.getD (ae e.types t.pos t.shapes).1 (Int.toNat (0:Int)) (dfl (Ty.st SN.shape))) e).err=(ar (aa n) t e).2.err/\(au (aa n) (List.getD t.parts (Int.toNat (2:Int)) (dfl (Ty.st SN.term))) (List.getD (ae e.types t.pos t.shapes).1 (Int.toNat (0:Int)) (dfl (Ty.st SN.shape))) e).pos=(ar (aa n) t e).2.pos/\True else((0:Int)<=(0:Int)/\(0:Int)<(↑(List.length t.parts):Int))/\((0:Int)<=(0:Int)/\(0:Int)<=(↑(List.length (ae e.types t.pos t.shapes).1):Int)-(1:Int)/\(↑(List.length (ae e.types t.pos t.shapes).1):Int)-(1:Int)<=(↑(List.length (ae e.types t.pos t.shapes).1):Int))/\(szT (List.getD t.parts (Int.toNat (0:Int)) (dfl (Ty.st SN.term)))<=n/\allT ag (List.getD t.parts (Int.toNat (0:Int)) (dfl (Ty.st SN.term)))=true
  /\List.length e.values+(4096:Nat) *szT (List.getD t.parts (Int.toNat (0:Int)) (dfl (Ty.st SN.term)))<=(100000000:Nat))/\if(!decide ((au (aa n) (List.getD t.parts (Int.toNat (0:Int)) (dfl (Ty.st SN.term))) {kind:=(7:Int),pkg:=[],name:=[],names:=t.names,parts:=List.drop (Int.toNat (0:Int)) (List.take (Int.toNat ((↑(List.length (ae e.types t.pos t.shapes).1):Int)-(1:Int))) (ae e.types t.pos t.shapes).1):Shape} e).err=(0:Int)))=true then((0:Int)<=(↑(List.length (ae e.types t.pos t.shapes).1):Int)-(1:Int)/\(↑(List.length (ae e.types t.pos t.shapes).1):Int)-(1:Int)<(↑(List.length (ae e.types t.pos t.shapes).1):Int))/\True/\List.getD (ae e.types t.pos t.shapes).1 (Int.toNat ((↑(List.length (ae e.types t.pos t.shapes).1):Int)-(1:Int))) (dfl (Ty.st SN.shape))=(ar (aa n) t e).1/\(au (aa n) (List.getD t.parts (Int.toNat (0:Int)) (dfl (Ty.st SN.term))) {kind:=(7:Int),pkg:=[],name:=[],names:=t.names,parts:=List.drop (Int.toNat (0:Int)) (List.take (Int.toNat ((↑(List.length (ae e.types t.pos t.shapes).1):Int)-(1:Int))) (ae e.types t.pos t.shapes).1):Shape} e).err=(ar (aa n) t e).2.err/\(au (aa n) (List.getD t.parts (Int.toNat (0:Int)) (dfl (Ty.st SN.term))) {kind:=(7:Int),pkg:=[],name:=[],names:=t.names,parts:=List.drop (Int.toNat (0:Int)) (List.take (Int.toNat ((↑(List.length (ae e.types t.pos t.shapes).1):Int)-(1:Int))) (ae e.types t.pos t.shapes).1):Shape} e).pos=(ar (aa n) t e).2.pos/\True else((0:Int)<=(1:Int)/\(1:Int)<=(↑(List.length t.parts):Int)/\(↑(List.length t.parts):Int)<=(↑(List.length t.parts):Int))/\(∃(x:Nat×Flt),(x.1+(1:Nat)<=List.length t.parts/\x.2.err=(0:Int)/\x.2.pos=(0:Int)/\fe (aa n) e (List.getD (ae e.types t.pos t.shapes).1 (List.length (ae e.types t.pos t.shapes).1-(1:Nat)) al) (List.drop (x.1+(1:Nat)) t.parts) (List.drop x.1 t.vars) (List.drop x.1 (ae e.types t.pos t.shapes).1)=fe (aa n) e (List.getD (ae e.types t.pos t.shapes).1 (List.length (ae e.types t.pos t.shapes).1-(1:Nat)) al) (List.drop (1:Nat) t.parts) t.vars (ae e.types t.pos t.shapes).1)/\(0:Int)=(↑x.1:Int)/\t=t/\e=e/\(ae e.types t.pos t.shapes).1=(ae e.types t.pos t.shapes).1/\false=false/\(↑(List.length (ae e.types t.pos t.shapes).1):Int)-(1:Int)=(↑(List.length (ae e.types t.pos t.shapes).1):Int)-(1:Int)/\t.kind=t.kind/\false=false/\false=false/\false=false/\false=false/\false=false/\List.drop (Int.toNat (1:Int)) (List.take (Int.toNat (↑(List.length t.parts):Int)) t.parts)=List.drop (Int.toNat (1:Int)) (List.take (Int.toNat (↑(List.length t.parts):Int)) t.parts)/\(↑(List.length (List.drop (Int.toNat (1:Int)) (List.take (Int.toNat (↑(List.length t.parts):Int)) t.parts))):Int)=(↑(List.length (List.drop (Int.toNat (1:Int)) (List.take (Int.toNat (↑(List.length t.parts):Int)) t.parts))):Int)/\(ae e.types t.pos t.shapes).2.err=x.2.err/\(ae e.types t.pos t.shapes).2.pos=x.2.pos/\t=t/\e=e/\(0:Int)=(0:Int)/\an UInt8=an UInt8/\an UInt8=an UInt8/\(0:Int)=(0:Int)/\(0:Int)=(0:Int)/\List.length (ae e.types t.pos t.shapes).1=List.length (ae e.types t.pos t.shapes).1
  /\(au (aa n) (List.getD t.parts (Int.toNat (0:Int)) (dfl (Ty.st SN.term))) {kind:=(7:Int),pkg:=[],name:=[],names:=t.names,parts:=List.drop (Int.toNat (0:Int)) (List.take (Int.toNat ((↑(List.length (ae e.types t.pos t.shapes).1):Int)-(1:Int))) (ae e.types t.pos t.shapes).1):Shape} e).err=(au (aa n) (List.getD t.parts (Int.toNat (0:Int)) (dfl (Ty.st SN.term))) {kind:=(7:Int),pkg:=[],name:=[],names:=t.names,parts:=List.drop (Int.toNat (0:Int)) (List.take (Int.toNat ((↑(List.length (ae e.types t.pos t.shapes).1):Int)-(1:Int))) (ae e.types t.pos t.shapes).1):Shape} e).err/\(au (aa n) (List.getD t.parts (Int.toNat (0:Int)) (dfl (Ty.st SN.term))) {kind:=(7:Int),pkg:=[],name:=[],names:=t.names,parts:=List.drop (Int.toNat (0:Int)) (List.take (Int.toNat ((↑(List.length (ae e.types t.pos t.shapes).1):Int)-(1:Int))) (ae e.types t.pos t.shapes).1):Shape} e).pos=(au (aa n) (List.getD t.parts (Int.toNat (0:Int)) (dfl (Ty.st SN.term))) {kind:=(7:Int),pkg:=[],name:=[],names:=t.names,parts:=List.drop (Int.toNat (0:Int)) (List.take (Int.toNat ((↑(List.length (ae e.types t.pos t.shapes).1):Int)-(1:Int))) (ae e.types t.pos t.shapes).1):Shape} e).pos/\True)/\∀(x:Nat×Flt),x.1+(1:Nat)<=List.length t.parts/\x.2.err=(0:Int)/\x.2.pos=(0:Int)/\fe (aa n) e (List.getD (ae e.types t.pos t.shapes).1 (List.length (ae e.types t.pos t.shapes).1-(1:Nat)) al) (List.drop (x.1+(1:Nat)) t.parts) (List.drop x.1 t.vars) (List.drop x.1 (ae e.types t.pos t.shapes).1)=fe (aa n) e (List.getD (ae e.types t.pos t.shapes).1 (List.length (ae e.types t.pos t.shapes).1-(1:Nat)) al) (List.drop (1:Nat) t.parts) t.vars (ae e.types t.pos t.shapes).1->if decide ((↑x.1:Int)<(↑(List.length (List.drop (Int.toNat (1:Int)) (List.take (Int.toNat (↑(List.length t.parts):Int)) t.parts))):Int))=true then((0:Int)<=(↑x.1:Int)/\(↑x.1:Int)<(↑(List.length (List.drop (Int.toNat (1:Int)) (List.take (Int.toNat (↑(List.length t.parts):Int)) t.parts))):Int))/\((0:Int)<=(↑(List.length (ae e.types t.pos t.shapes).1):Int)-(1:Int)/\(↑(List.length (ae e.types t.pos t.shapes).1):Int)-(1:Int)<(↑(List.length (ae e.types t.pos t.shapes).1):Int))/\((0:Int)<=(↑x.1:Int)/\(↑x.1:Int)<(↑(List.length t.vars):Int))/\((0:Int)<=(↑x.1:Int)/\(↑x.1:Int)<(↑(List.length (ae e.types t.pos t.shapes).1):Int))/\(List.length e.values<=(1000000000:Nat)/\List.length [{pkg:=[],name:=List.getD t.vars (Int.toNat (↑x.1:Int)) (dfl Ty.str),shape:=AL.Shape.mk ((List.getD (ae e.types t.pos t.shapes).1 (Int.toNat (↑x.1:Int)) (dfl (Ty.st SN.shape))).kind) ((List.getD (ae e.types t.pos t.shapes).1 (Int.toNat (↑x.1:Int)) (dfl (Ty.st SN.shape))).pkg) ((List.getD (ae e.types t.pos t.shapes).1 (Int.toNat (↑x.1:Int)) (dfl (Ty.st SN.shape))).name) ((List.getD (ae e.types t.pos t.shapes).1 (Int.toNat (↑x.1:Int)) (dfl (Ty.st SN.shape))).names) ((List.getD (ae e.types t.pos t.shapes).1 (Int.toNat (↑x.1:Int)) (dfl (Ty.st SN.shape))).parts):Bndg}]<=(1000:Nat))/\(szT (List.getD (List.drop (Int.toNat (1:Int)) (List.take (Int.toNat (↑(List.length t.parts):Int)) t.parts)) (Int.toNat (↑x.1:Int)) (dfl (Ty.st SN.term)))<=n/\allT ag (List.getD (List.drop (Int.toNat (1:Int)) (List.take (Int.toNat (↑(List.length t.parts):Int)) t.parts)) (Int.toNat (↑x.1:Int)) (dfl (Ty.st SN.term)))=true
  /\List.length (e.values++[{pkg:=[],name:=List.getD t.vars (Int.toNat (↑x.1:Int)) (dfl Ty.str),shape:=AL.Shape.mk ((List.getD (ae e.types t.pos t.shapes).1 (Int.toNat (↑x.1:Int)) (dfl (Ty.st SN.shape))).kind) ((List.getD (ae e.types t.pos t.shapes).1 (Int.toNat (↑x.1:Int)) (dfl (Ty.st SN.shape))).pkg) ((List.getD (ae e.types t.pos t.shapes).1 (Int.toNat (↑x.1:Int)) (dfl (Ty.st SN.shape))).name) ((List.getD (ae e.types t.pos t.shapes).1 (Int.toNat (↑x.1:Int)) (dfl (Ty.st SN.shape))).names) ((List.getD (ae e.types t.pos t.shapes).1 (Int.toNat (↑x.1:Int)) (dfl (Ty.st SN.shape))).parts):Bndg}])+(4096:Nat) *szT (List.getD (List.drop (Int.toNat (1:Int)) (List.take (Int.toNat (↑(List.length t.parts):Int)) t.parts)) (Int.toNat (↑x.1:Int)) (dfl (Ty.st SN.term)))<=(100000000:Nat))/\if(!decide ((au (aa n) (List.getD (List.drop (Int.toNat (1:Int)) (List.take (Int.toNat (↑(List.length t.parts):Int)) t.parts)) (Int.toNat (↑x.1:Int)) (dfl (Ty.st SN.term))) (List.getD (ae e.types t.pos t.shapes).1 (Int.toNat ((↑(List.length (ae e.types t.pos t.shapes).1):Int)-(1:Int))) (dfl (Ty.st SN.shape))) (bk e [{pkg:=[],name:=List.getD t.vars (Int.toNat (↑x.1:Int)) (dfl Ty.str),shape:=AL.Shape.mk ((List.getD (ae e.types t.pos t.shapes).1 (Int.toNat (↑x.1:Int)) (dfl (Ty.st SN.shape))).kind) ((List.getD (ae e.types t.pos t.shapes).1 (Int.toNat (↑x.1:Int)) (dfl (Ty.st SN.shape))).pkg) ((List.getD (ae e.types t.pos t.shapes).1 (Int.toNat (↑x.1:Int)) (dfl (Ty.st SN.shape))).name) ((List.getD (ae e.types t.pos t.shapes).1 (Int.toNat (↑x.1:Int)) (dfl (Ty.st SN.shape))).names) ((List.getD (ae e.types t.pos t.shapes).1 (Int.toNat (↑x.1:Int)) (dfl (Ty.st SN.shape))).parts):Bndg}])).err=(0:Int)))=true then((0:Int)<=(↑(List.length (ae e.types t.pos t.shapes).1):Int)-(1:Int)/\(↑(List.length (ae e.types t.pos t.shapes).1):Int)-(1:Int)<(↑(List.length (ae e.types t.pos t.shapes).1):Int))/\True/\List.getD (ae e.types t.pos t.shapes).1 (Int.toNat ((↑(List.length (ae e.types t.pos t.shapes).1):Int)-(1:Int))) (dfl (Ty.st SN.shape))=(ar (aa n) t e).1/\(au (aa n) (List.getD (List.drop (Int.toNat (1:Int)) (List.take (Int.toNat (↑(List.length t.parts):Int)) t.parts)) (Int.toNat (↑x.1:Int)) (dfl (Ty.st SN.term))) (List.getD (ae e.types t.pos t.shapes).1 (Int.toNat ((↑(List.length (ae e.types t.pos t.shapes).1):Int)-(1:Int))) (dfl (Ty.st SN.shape))) (bk e [{pkg:=[],name:=List.getD t.vars (Int.toNat (↑x.1:Int)) (dfl Ty.str),shape:=AL.Shape.mk ((List.getD (ae e.types t.pos t.shapes).1 (Int.toNat (↑x.1:Int)) (dfl (Ty.st SN.shape))).kind) ((List.getD (ae e.types t.pos t.shapes).1 (Int.toNat (↑x.1:Int)) (dfl (Ty.st SN.shape))).pkg) ((List.getD (ae e.types t.pos t.shapes).1 (Int.toNat (↑x.1:Int)) (dfl (Ty.st SN.shape))).name) ((List.getD (ae e.types t.pos t.shapes).1 (Int.toNat (↑x.1:Int)) (dfl (Ty.st SN.shape))).names) ((List.getD (ae e.types t.pos t.shapes).1 (Int.toNat (↑x.1:Int)) (dfl (Ty.st SN.shape))).parts):Bndg}])).err=(ar (aa n) t e).2.err
  /\(au (aa n) (List.getD (List.drop (Int.toNat (1:Int)) (List.take (Int.toNat (↑(List.length t.parts):Int)) t.parts)) (Int.toNat (↑x.1:Int)) (dfl (Ty.st SN.term))) (List.getD (ae e.types t.pos t.shapes).1 (Int.toNat ((↑(List.length (ae e.types t.pos t.shapes).1):Int)-(1:Int))) (dfl (Ty.st SN.shape))) (bk e [{pkg:=[],name:=List.getD t.vars (Int.toNat (↑x.1:Int)) (dfl Ty.str),shape:=AL.Shape.mk ((List.getD (ae e.types t.pos t.shapes).1 (Int.toNat (↑x.1:Int)) (dfl (Ty.st SN.shape))).kind) ((List.getD (ae e.types t.pos t.shapes).1 (Int.toNat (↑x.1:Int)) (dfl (Ty.st SN.shape))).pkg) ((List.getD (ae e.types t.pos t.shapes).1 (Int.toNat (↑x.1:Int)) (dfl (Ty.st SN.shape))).name) ((List.getD (ae e.types t.pos t.shapes).1 (Int.toNat (↑x.1:Int)) (dfl (Ty.st SN.shape))).names) ((List.getD (ae e.types t.pos t.shapes).1 (Int.toNat (↑x.1:Int)) (dfl (Ty.st SN.shape))).parts):Bndg}])).pos=(ar (aa n) t e).2.pos/\True else inR IntKind.i64 ((↑x.1:Int)+(1:Int))/\∃(y:Nat×Flt),(y.1+(1:Nat)<=List.length t.parts/\y.2.err=(0:Int)/\y.2.pos=(0:Int)/\fe (aa n) e (List.getD (ae e.types t.pos t.shapes).1 (List.length (ae e.types t.pos t.shapes).1-(1:Nat)) al) (List.drop (y.1+(1:Nat)) t.parts) (List.drop y.1 t.vars) (List.drop y.1 (ae e.types t.pos t.shapes).1)=fe (aa n) e (List.getD (ae e.types t.pos t.shapes).1 (List.length (ae e.types t.pos t.shapes).1-(1:Nat)) al) (List.drop (1:Nat) t.parts) t.vars (ae e.types t.pos t.shapes).1)/\List.length t.parts-y.1<List.length t.parts-x.1/\(↑x.1:Int)+(1:Int)=(↑y.1:Int)/\t=t/\e=e/\(ae e.types t.pos t.shapes).1=(ae e.types t.pos t.shapes).1/\false=false/\(↑(List.length (ae e.types t.pos t.shapes).1):Int)-(1:Int)=(↑(List.length (ae e.types t.pos t.shapes).1):Int)-(1:Int)/\t.kind=t.kind/\false=false/\false=false/\false=false/\false=false/\false=false/\List.drop (Int.toNat (1:Int)) (List.take (Int.toNat (↑(List.length t.parts):Int)) t.parts)=List.drop (Int.toNat (1:Int)) (List.take (Int.toNat (↑(List.length t.parts):Int)) t.parts)/\(↑(List.length (List.drop (Int.toNat (1:Int)) (List.take (Int.toNat (↑(List.length t.parts):Int)) t.parts))):Int)=(↑(List.length (List.drop (Int.toNat (1:Int)) (List.take (Int.toNat (↑(List.length t.parts):Int)) t.parts))):Int)/\(au (aa n) (List.getD (List.drop (Int.toNat (1:Int)) (List.take (Int.toNat (↑(List.length t.parts):Int)) t.parts)) (Int.toNat (↑x.1:Int)) (dfl (Ty.st SN.term))) (List.getD (ae e.types t.pos t.shapes).1 (Int.toNat ((↑(List.length (ae e.types t.pos t.shapes).1):Int)-(1:Int))) (dfl (Ty.st SN.shape))) (bk e [{pkg:=[],name:=List.getD t.vars (Int.toNat (↑x.1:Int)) (dfl Ty.str),shape:=AL.Shape.mk ((List.getD (ae e.types t.pos t.shapes).1 (Int.toNat (↑x.1:Int)) (dfl (Ty.st SN.shape))).kind) ((List.getD (ae e.types t.pos t.shapes).1 (Int.toNat (↑x.1:Int)) (dfl (Ty.st SN.shape))).pkg) ((List.getD (ae e.types t.pos t.shapes).1 (Int.toNat (↑x.1:Int)) (dfl (Ty.st SN.shape))).name) ((List.getD (ae e.types t.pos t.shapes).1 (Int.toNat (↑x.1:Int)) (dfl (Ty.st SN.shape))).names) ((List.getD (ae e.types t.pos t.shapes).1 (Int.toNat (↑x.1:Int)) (dfl (Ty.st SN.shape))).parts):Bndg}])).err=y.2.err
  /\(au (aa n) (List.getD (List.drop (Int.toNat (1:Int)) (List.take (Int.toNat (↑(List.length t.parts):Int)) t.parts)) (Int.toNat (↑x.1:Int)) (dfl (Ty.st SN.term))) (List.getD (ae e.types t.pos t.shapes).1 (Int.toNat ((↑(List.length (ae e.types t.pos t.shapes).1):Int)-(1:Int))) (dfl (Ty.st SN.shape))) (bk e [{pkg:=[],name:=List.getD t.vars (Int.toNat (↑x.1:Int)) (dfl Ty.str),shape:=AL.Shape.mk ((List.getD (ae e.types t.pos t.shapes).1 (Int.toNat (↑x.1:Int)) (dfl (Ty.st SN.shape))).kind) ((List.getD (ae e.types t.pos t.shapes).1 (Int.toNat (↑x.1:Int)) (dfl (Ty.st SN.shape))).pkg) ((List.getD (ae e.types t.pos t.shapes).1 (Int.toNat (↑x.1:Int)) (dfl (Ty.st SN.shape))).name) ((List.getD (ae e.types t.pos t.shapes).1 (Int.toNat (↑x.1:Int)) (dfl (Ty.st SN.shape))).names) ((List.getD (ae e.types t.pos t.shapes).1 (Int.toNat (↑x.1:Int)) (dfl (Ty.st SN.shape))).parts):Bndg}])).pos=y.2.pos/\t=t/\e=e/\(0:Int)=(0:Int)/\an UInt8=an UInt8/\an UInt8=an UInt8/\(0:Int)=(0:Int)/\(0:Int)=(0:Int)/\List.length (ae e.types t.pos t.shapes).1=List.length (ae e.types t.pos t.shapes).1/\(au (aa n) (List.getD t.parts (Int.toNat (0:Int)) (dfl (Ty.st SN.term))) {kind:=(7:Int),pkg:=[],name:=[],names:=t.names,parts:=List.drop (Int.toNat (0:Int)) (List.take (Int.toNat ((↑(List.length (ae e.types t.pos t.shapes).1):Int)-(1:Int))) (ae e.types t.pos t.shapes).1):Shape} e).err=(au (aa n) (List.getD t.parts (Int.toNat (0:Int)) (dfl (Ty.st SN.term))) {kind:=(7:Int),pkg:=[],name:=[],names:=t.names,parts:=List.drop (Int.toNat (0:Int)) (List.take (Int.toNat ((↑(List.length (ae e.types t.pos t.shapes).1):Int)-(1:Int))) (ae e.types t.pos t.shapes).1):Shape} e).err/\(au (aa n) (List.getD t.parts (Int.toNat (0:Int)) (dfl (Ty.st SN.term))) {kind:=(7:Int),pkg:=[],name:=[],names:=t.names,parts:=List.drop (Int.toNat (0:Int)) (List.take (Int.toNat ((↑(List.length (ae e.types t.pos t.shapes).1):Int)-(1:Int))) (ae e.types t.pos t.shapes).1):Shape} e).pos=(au (aa n) (List.getD t.parts (Int.toNat (0:Int)) (dfl (Ty.st SN.term))) {kind:=(7:Int),pkg:=[],name:=[],names:=t.names,parts:=List.drop (Int.toNat (0:Int)) (List.take (Int.toNat ((↑(List.length (ae e.types t.pos t.shapes).1):Int)-(1:Int))) (ae e.types t.pos t.shapes).1):Shape} e).pos/\True else((0:Int)<=(↑(List.length (ae e.types t.pos t.shapes).1):Int)-(1:Int)/\(↑(List.length (ae e.types t.pos t.shapes).1):Int)-(1:Int)<(↑(List.length (ae e.types t.pos t.shapes).1):Int))/\True/\List.getD (ae e.types t.pos t.shapes).1 (Int.toNat ((↑(List.length (ae e.types t.pos t.shapes).1):Int)-(1:Int))) (dfl (Ty.st SN.shape))=(ar (aa n) t e).1/\x.2.err=(ar (aa n) t e).2.err/\x.2.pos=(ar (aa n) t e).2.pos/\True:=by
 have rm:=oY hf;have ln:=ht.term_parts.len;have ps:=mo t;have hds:List.drop (Int.toNat 1) (List.take t.parts.length t.parts)=t.parts.drop 1:=by rw[List.take_length];rfl
 have hdg:∀k:Nat,(t.parts.drop 1).getD k (dfl (.st .term))=t.parts.getD (k+1) (dfl (.st .term)):=fun k=>by rw[List.getD_eq_getElem?_getD,List.getD_eq_getElem?_getD,List.getElem?_drop,Nat.add_comm]
 have e0:Int.toNat 0=0:=rfl;have e1:Int.toNat 1=1:=rfl;have e2:Int.toNat 2=2:=rfl;have et:∀s:Shape,AL.Shape.mk s.kind s.pkg s.name s.names s.parts=s:=fun s=>by cases s;rfl
 simp only[hds,et,Int.toNat_natCast,eq_self,true_and,and_true];simp only[hdg,e0,e1,e2,List.length_drop,List.drop_zero]
 have hsh:t.shapes.length<=1000000:=by
  rcases hk with k|k|k|k|k
  ·have:=rm.k6 k;omega
  ·have:=rm.k11 k;omega
  ·have:=rm.k12 k;omega
  ·have:=rm.k13 k;omega
  ·have:=rm.k15 k;omega
 have hl:=@lI e.types t.pos t.shapes;have hok:=@kQ e.types t.pos t.shapes;have hA0:¬(ae e.types t.pos t.shapes).2.err=0->ar (aa n) t e=(al,(ae e.types t.pos t.shapes).2):=fun h=>by simp only[ar,if_neg h]
 have hA6:(ae e.types t.pos t.shapes).2.err=0->t.kind=6->ar (aa n) t e=(⟨8,[],[],[],(ae e.types t.pos t.shapes).1++[(aa n (t.parts.getD 0 ao) (bk e (cD t.names (ae e.types t.pos t.shapes).1))).1]⟩,(aa n (t.parts.getD 0 ao) (bk e (cD t.names (ae e.types t.pos t.shapes).1))).2):=fun h k=>by simp only[ar,if_pos h,if_pos k]
 have hA11:(ae e.types t.pos t.shapes).2.err=0->t.kind=11->ar (aa n) t e=if(b6 (aa n) e ((ae e.types t.pos t.shapes).1.getD 0 al) t.parts).err=0 then(⟨5,[],[],[],(ae e.types t.pos t.shapes).1⟩,cb)else((ae e.types t.pos t.shapes).1.getD 0 al,b6 (aa n) e ((ae e.types t.pos t.shapes).1.getD 0 al) t.parts):=fun h k=>by simp only[ar,if_pos h,if_neg (show ¬t.kind=6 by omega),if_pos k]
 have hA15:(ae e.types t.pos t.shapes).2.err=0->t.kind=15->ar (aa n) t e=((ae e.types t.pos t.shapes).1.getD 0 al,au (aa n) (t.parts.getD 0 ao) ((ae e.types t.pos t.shapes).1.getD 0 al) e):=fun h k=>by simp only[ar,if_pos h,if_neg (show ¬t.kind=6 by omega),if_neg (show ¬t.kind=11 by omega),if_pos k]
 have hA12:(ae e.types t.pos t.shapes).2.err=0->t.kind=12->ar (aa n) t e=((ae e.types t.pos t.shapes).1.getD 0 al,if(au (aa n) (t.parts.getD 0 ao) (ofK 2) e).err=0 then(if(au (aa n) (t.parts.getD 1 ao) ((ae e.types t.pos t.shapes).1.getD 0 al) e).err=0 then au (aa n) (t.parts.getD 2 ao) ((ae e.types t.pos t.shapes).1.getD 0 al) e else au (aa n) (t.parts.getD 1 ao) ((ae e.types t.pos t.shapes).1.getD 0 al) e)else au (aa n) (t.parts.getD 0 ao) (ofK 2) e):=fun h k=>by simp only[ar,if_pos h,if_neg (show ¬t.kind=6 by omega),if_neg (show ¬t.kind=11 by omega),if_neg (show ¬t.kind=15 by omega),if_pos k]
 have hA13:(ae e.types t.pos t.shapes).2.err=0->t.kind=13->ar (aa n) t e=((ae e.types t.pos t.shapes).1.getD ((ae e.types t.pos t.shapes).1.length-1) al,if(au (aa n) (t.parts.getD 0 ao) ⟨7,[],[],t.names,(ae e.types t.pos t.shapes).1.take ((ae e.types t.pos t.shapes).1.length-1)⟩ e).err=0 then fe (aa n) e ((ae e.types t.pos t.shapes).1.getD ((ae e.types t.pos t.shapes).1.length-1) al) (t.parts.drop 1) t.vars (ae e.types t.pos t.shapes).1 else au (aa n) (t.parts.getD 0 ao) ⟨7,[],[],t.names,(ae e.types t.pos t.shapes).1.take ((ae e.types t.pos t.shapes).1.length-1)⟩ e):=fun h k=>by simp only[ar,if_pos h,if_neg (show ¬t.kind=6 by omega),if_neg (show ¬t.kind=11 by omega),if_neg (show ¬t.kind=15 by omega),if_neg (show ¬t.kind=12 by omega)]
 revert hl hok hA0 hA6 hA11 hA15 hA12 hA13;generalize ar (aa n) t e=R;generalize ae e.types t.pos t.shapes=L;intro hl hok hA0 hA6 hA11 hA15 hA12 hA13;refine⟨hsh,ab (fun h=>?_) (fun h=>?_)⟩
 ·rw[hA0 (ndF h)];exact⟨rfl,rfl,rfl,rfl,rfl,rfl,rfl⟩
 have h:L.2.err=0:=ndT h;have hl:=hl h;have hok:L.2=cb:=by rw[hok h]
 have nx:∀{j w:Nat},j<t.parts.length->w<=e.values.length+4096->szT (t.parts.getD j (dfl (.st .term)))<=n/\allT ag (t.parts.getD j (dfl (.st .term)))=true/\w+4096 *szT (t.parts.getD j (dfl (.st .term)))<=100000000:=fun hj hw=>jw hz hf hv _ hj hw;refine⟨b8 (by omega) (by omega),ab (fun k=>?_) (fun k6=>?_)⟩
 ·have k:=Xo k;obtain⟨n1,n2,n3⟩:=rm.k6 k;refine⟨⟨(0,e),⟨Nat.zero_le _,rfl,by rw[List.drop_zero,List.drop_zero]⟩,rfl,rfl⟩,?_⟩;rintro⟨j,f⟩ ⟨h1,h2,h3⟩;dsimp only at h1 h2 h3⊢;refine ab (fun c=>?_) (fun c=>?_)
  ·have c:=Xo c;have hj:j<t.names.length:=by omega
   rw[aA t.names j (dfl .str) hj,aA L.1 j (dfl (.st .shape)) (by omega)]at h3;simp only[cD]at h3;refine⟨by omega,by omega,⟨by omega,by simp⟩,b8 (by omega) (by omega),(j+1,_),⟨by dsimp only;omega,?_,?_⟩,by dsimp only;omega,by dsimp only;omega,rfl⟩
   ·dsimp only;rw[List.length_append,h2];simp only[List.length_cons,List.length_nil];omega
   ·show bk (bk f [kx (t.names.getD j (dfl .str)) (L.1.getD j (dfl (.st .shape)))]) _=_;rw[oh];exact h3
  ·have c:¬((j:Int)<(t.names.length:Int)):=fun q=>c (Xd q);have hj:j=t.names.length:=by omega
   have hf':f=bk e (cD t.names L.1):=by rw[hj,List.drop_length]at h3;simp only[cD]at h3;rw[sK]at h3;exact h3
   have ob:=nx (j:=0) (w:=f.values.length) (by omega) (by omega);rw[hA6 h k];refine⟨by omega,ob,?_,rfl,rfl,rfl,rfl,?_,?_,?_⟩
   ·simp only[List.length_cons,List.length_nil];omega
   ·rw[hf'];rfl
   ·rw[hf'];rfl
   ·rw[hf'];rfl
 have k6:¬t.kind=6:=fun q=>k6 (Xd q);refine ab (fun k=>?_) (fun k11=>?_)
 ·have k:=Xo k;have n1:=rm.k11 k;refine⟨⟨0,⟨Nat.zero_le _,by rw[List.drop_zero]⟩,rfl⟩,?_⟩;rintro j ⟨h1,h2⟩;refine ab (fun c=>?_) (fun c=>?_)
  ·have c:=Xo c;have hj:j<t.parts.length:=by omega
   rw[aA t.parts j (dfl (.st .term)) hj]at h2;simp only[b6]at h2;refine⟨by omega,by omega,nx hj (Nat.le_add_right _ _),ab (fun f=>?_) (fun f=>?_)⟩
   ·have f:¬(au (aa n) (t.parts.getD j (dfl (.st .term))) (L.1.getD 0 al) e).err=0:=ndF f;rw[if_neg f]at h2;rw[hA11 h k,<-h2,if_neg f];exact⟨by omega,rfl,rfl,rfl⟩
   ·have f:(au (aa n) (t.parts.getD j (dfl (.st .term))) (L.1.getD 0 al) e).err=0:=ndT f;rw[if_pos f]at h2;exact⟨aL hj ln,j+1,⟨by omega,h2⟩,by omega,by omega⟩
  ·have c:¬((j:Int)<(t.parts.length:Int)):=fun q=>c (Xd q);have hj:j=t.parts.length:=by omega
   rw[hj,List.drop_length]at h2;rw[hA11 h k,<-h2];exact⟨rfl,rfl,rfl,rfl,rfl,rfl,rfl⟩
 have k11:¬t.kind=11:=fun q=>k11 (Xd q);refine ab (fun k=>?_) (fun k15=>?_)
 ·have k:=Xo k;obtain⟨n1,n2⟩:=rm.k15 k;rw[hA15 h k];exact⟨by omega,by omega,by omega,nx (by omega) (Nat.le_add_right _ _),rfl,rfl,rfl⟩
 have k15:¬t.kind=15:=fun q=>k15 (Xd q);refine ab (fun k=>?_) (fun k12=>?_)
 ·have k:=Xo k;obtain⟨n1,n2⟩:=rm.k12 k;rw[hA12 h k];refine⟨by omega,nx (by omega) (Nat.le_add_right _ _),ab (fun f=>?_) (fun f=>?_)⟩
  ·rw[if_neg (show ¬(au (aa n) (t.parts.getD 0 ao) (ofK 2) e).err=0 from ndF f)];exact⟨by omega,rfl,rfl,rfl⟩
  rw[if_pos (show(au (aa n) (t.parts.getD 0 ao) (ofK 2) e).err=0 from ndT f)];refine⟨by omega,by omega,nx (by omega) (Nat.le_add_right _ _),ab (fun f=>?_) (fun f=>?_)⟩
  ·rw[if_neg (show ¬(au (aa n) (t.parts.getD 1 ao) (L.1.getD 0 al) e).err=0 from ndF f)];exact⟨by omega,rfl,rfl,rfl⟩
  rw[if_pos (show(au (aa n) (t.parts.getD 1 ao) (L.1.getD 0 al) e).err=0 from ndT f)];exact⟨by omega,by omega,by omega,nx (by omega) (Nat.le_add_right _ _),rfl,rfl,rfl⟩
 have k12:¬t.kind=12:=fun q=>k12 (Xd q);have k:t.kind=13:=by omega
 obtain⟨n1,n2,n3⟩:=rm.k13 k;have el:((L.1.length:Int)-1).toNat=L.1.length-1:=by omega
 rw[el,hA13 h k];refine⟨by omega,by omega,nx (by omega) (Nat.le_add_right _ _),ab (fun f=>?_) (fun f=>?_)⟩
 ·rw[if_neg (show ¬(au (aa n) (t.parts.getD 0 ao) ⟨7,[],[],t.names,L.1.take (L.1.length-1)⟩ e).err=0 from ndF f)];exact⟨by omega,rfl,rfl,rfl⟩
 rw[if_pos (show(au (aa n) (t.parts.getD 0 ao) ⟨7,[],[],t.names,L.1.take (L.1.length-1)⟩ e).err=0 from ndT f)];refine⟨by omega,⟨(0,cb),⟨by dsimp only;omega,rfl,rfl,by rw[List.drop_zero,List.drop_zero]⟩,rfl,by rw[hok],by rw[hok]⟩,?_⟩;rintro⟨j,f⟩ ⟨h1,h2,h3,h4⟩;dsimp only at h1 h2 h3 h4⊢;refine ab (fun c=>?_) (fun c=>?_)
 ·have c:=Xo c;have hj:j+1<t.parts.length:=by omega
  rw[aA t.parts (j+1) (dfl (.st .term)) hj,aA t.vars j (dfl .str) (by omega),aA L.1 j (dfl (.st .shape)) (by omega)]at h4;simp only[fe]at h4;have ob:=nx (j:=j+1) (w:=e.values.length+1) hj (by omega);refine⟨by omega,by omega,by omega,by omega,⟨by omega,by simp⟩,?_,ab (fun f=>?_) (fun f=>?_)⟩
  ·rw[List.length_append];exact ob
  ·have f:=ndF f;rw[<-h4,if_neg (show ¬(au (aa n) (t.parts.getD (j+1) (dfl (.st .term))) (L.1.getD (L.1.length-1) al) (bk e [kx (t.vars.getD j (dfl .str)) (L.1.getD j (dfl (.st .shape)))])).err=0 from f)];exact⟨by omega,rfl,rfl,rfl⟩
  ·have f:=ndT f;rw[if_pos (show(au (aa n) (t.parts.getD (j+1) (dfl (.st .term))) (L.1.getD (L.1.length-1) al) (bk e [kx (t.vars.getD j (dfl .str)) (L.1.getD j (dfl (.st .shape)))])).err=0 from f)]at h4;exact⟨aL (by omega) ln,(j+1,cb),⟨by dsimp only;omega,rfl,rfl,h4⟩,by dsimp only;omega,by dsimp only;omega,f,by rw[gK f]⟩
 ·have c:¬((j:Int)<((t.parts.length-1:Nat):Int)):=fun q=>c (Xd q);have hj:j+1=t.parts.length:=by omega
  rw[hj,List.drop_length]at h4;simp only[fe]at h4;rw[<-h4];exact⟨by omega,rfl,h2,h3⟩
theorem Cr(n:Nat)(t:Trm)(e:Envt)(ht:Wf (.st .term) t)(he:Wf (.st .env) e)(hz:szT t<=n+1)(hf:allT ag t=true)(hv:e.values.length+4096 *szT t<=100000000) :
  if decide (t.kind=(1:Int))=true then True/\ofK (1:Int)=(ax (aa n) t e).1/\(0:Int)=(ax (aa n) t e).2.err/\(0:Int)=(ax (aa n) t e).2.pos/\True else if decide (t.kind=(2:Int))=true then True/\ofK (3:Int)=(ax (aa n) t e).1/\(0:Int)=(ax (aa n) t e).2.err/\(0:Int)=(ax (aa n) t e).2.pos/\True else if decide (t.kind=(3:Int))=true then True/\ofK (2:Int)=(ax (aa n) t e).1/\(0:Int)=(ax (aa n) t e).2.err/\(0:Int)=(ax (aa n) t e).2.pos/\True else(decide (t.kind=(4:Int))=(decide (t.kind=(3:Int))||decide (t.kind=(4:Int)))/\t=t/\e=e/\t.kind=t.kind/\false=false/\false=false/\t=t/\e=e/\(0:Int)=(0:Int)/\an UInt8=an UInt8/\an UInt8=an UInt8/\(0:Int)=(0:Int)/\(0:Int)=(0:Int)/\True)/\if(decide (t.kind=(3:Int))||decide (t.kind=(4:Int)))=true then True/\ofK (2:Int)=(ax (aa n) t e).1/\(0:Int)=(ax (aa n) t e).2.err/\(0:Int)=(ax (aa n) t e).2.pos/\True else if decide (t.kind=(5:Int))=true then if(!Option.isSome (az e.values t.pkg t.name))=true then True/\Option.elim (az e.values t.pkg t.name) al aM=(ax (aa n) t e).1/\(110:Int)=(ax (aa n) t e).2.err/\t.pos=(ax (aa n) t e).2.pos/\True else True/\Option.elim (az e.values t.pkg t.name) al aM=(ax (aa n) t e).1/\(0:Int)=(ax (aa n) t e).2.err/\(0:Int)=(ax (aa n) t e).2.pos/\True else if decide (t.kind=(7:Int))=true then((0:Nat)<List.length t.parts/\szT t<=n+(1:Nat)/\allT ag t=true/\List.length e.values+(4096:Nat) *szT t<=(100000000:Nat))/\True/\(aR (aa n) t e).1=(ax (aa n) t e).1/\(aR (aa n) t e).2.err=(ax (aa n) t e).2.err/\(aR (aa n) t e).2.pos=(ax (aa n) t e).2.pos/\True else if decide (t.kind=(8:Int))=true then(∃(x:Nat×List Shape),(x.1<=List.length t.parts/\List.length x.2=x.1/\aN (aa n) e t.parts=(x.2++(aN (aa n) e (List.drop x.1 t.parts)).1,(aN (aa n) e (List.drop x.1 t.parts)).2))/\(0:Int)=(↑x.1:Int)/\false=false/\t=t/\e=e/\t.kind=t.kind/\false=false/\false=false/\false=false/\false=false/\true=true/\t.parts=t.parts/\(↑(List.length t.parts):Int)=(↑(List.length t.parts):Int)/\(6:Int)=(6:Int)/\an UInt8=an UInt8/\an UInt8=an UInt8/\t.names=t.names/\x.2=[]/\List.length x.2=(0:Nat)/\t=t/\e=e/\(0:Int)=(0:Int)/\an UInt8=an UInt8/\an UInt8=an UInt8/\(0:Int)=(0:Int)/\(0:Int)=(0:Int)/\True)/\∀(x:Nat×List Shape),x.1<=List.length t.parts/\List.length x.2=x.1/\aN (aa n) e t.parts=(x.2++(aN (aa n) e (List.drop x.1 t.parts)).1,(aN (aa n) e (List.drop x.1 t.parts)).2)->if decide ((↑x.1:Int)<(↑(List.length t.parts):Int))=true then((0:Int)<=(↑x.1:Int)/\(↑x.1:Int)<(↑(List.length t.parts):Int))/\(szT (List.getD t.parts (Int.toNat (↑x.1:Int)) (dfl (Ty.st SN.term)))<=n/\allT ag (List.getD t.parts (Int.toNat (↑x.1:Int)) (dfl (Ty.st SN.term)))=true/\List.length e.values+(4096:Nat) *szT (List.getD t.parts (Int.toNat (↑x.1:Int)) (dfl (Ty.st SN.term)))<=(100000000:Nat))/\if(!decide ((aa n (List.getD t.parts (Int.toNat (↑x.1:Int)) (dfl (Ty.st SN.term))) e).2.err=(0:Int)))=true then True/\(aa n (List.getD t.parts (Int.toNat (↑x.1:Int)) (dfl (Ty.st SN.term))) e).1=(ax (aa n) t e).1/\(aa n (List.getD t.parts (Int.toNat (↑x.1:Int)) (dfl (Ty.st SN.term))) e).2.err=(ax (aa n) t e).2.err
  /\(aa n (List.getD t.parts (Int.toNat (↑x.1:Int)) (dfl (Ty.st SN.term))) e).2.pos=(ax (aa n) t e).2.pos/\True else(List.length x.2=List.length x.2/\(List.length x.2+List.length [(aa n (List.getD t.parts (Int.toNat (↑x.1:Int)) (dfl (Ty.st SN.term))) e).1]) *(88:Nat)<=(140737488355328:Nat))/\inR IntKind.i64 ((↑x.1:Int)+(1:Int))/\∃(y:Nat×List Shape),(y.1<=List.length t.parts/\List.length y.2=y.1/\aN (aa n) e t.parts=(y.2++(aN (aa n) e (List.drop y.1 t.parts)).1,(aN (aa n) e (List.drop y.1 t.parts)).2))/\List.length t.parts-y.1<List.length t.parts-x.1/\(↑x.1:Int)+(1:Int)=(↑y.1:Int)/\false=false/\t=t/\e=e/\t.kind=t.kind/\false=false/\false=false/\false=false/\false=false/\true=true/\t.parts=t.parts/\(↑(List.length t.parts):Int)=(↑(List.length t.parts):Int)/\(6:Int)=(6:Int)/\an UInt8=an UInt8/\an UInt8=an UInt8/\t.names=t.names/\x.2++[(aa n (List.getD t.parts (Int.toNat (↑x.1:Int)) (dfl (Ty.st SN.term))) e).1]=y.2/\List.length (x.2++[(aa n (List.getD t.parts (Int.toNat (↑x.1:Int)) (dfl (Ty.st SN.term))) e).1])=List.length y.2/\t=t/\e=e/\(0:Int)=(0:Int)/\an UInt8=an UInt8/\an UInt8=an UInt8/\(0:Int)=(0:Int)/\(0:Int)=(0:Int)/\True else True/\(6:Int)=(ax (aa n) t e).1.kind/\[]=(ax (aa n) t e).1.pkg/\[]=(ax (aa n) t e).1.name/\t.names=(ax (aa n) t e).1.names/\x.2=(ax (aa n) t e).1.parts/\(0:Int)=(ax (aa n) t e).2.err/\(0:Int)=(ax (aa n) t e).2.pos/\True else if decide (t.kind=(9:Int))=true then((0:Nat)<List.length t.parts/\szT t<=n+(1:Nat)/\allT ag t=true/\List.length e.values+(4096:Nat) *szT t<=(100000000:Nat))/\True/\(cw (aa n) t e).1=(ax (aa n) t e).1/\(cw (aa n) t e).2.err=(ax (aa n) t e).2.err/\(cw (aa n) t e).2.pos=(ax (aa n) t e).2.pos/\True else if decide (t.kind=(10:Int))=true then((0:Int)<=(0:Int)/\(0:Int)<(↑(List.length t.parts):Int))/\(szT (List.getD t.parts (Int.toNat (0:Int)) (dfl (Ty.st SN.term)))<=n/\allT ag (List.getD t.parts (Int.toNat (0:Int)) (dfl (Ty.st SN.term)))=true/\List.length e.values+(4096:Nat) *szT (List.getD t.parts (Int.toNat (0:Int)) (dfl (Ty.st SN.term)))<=(100000000:Nat))/\True/\(7:Int)=(ax (aa n) t e).1.kind/\[]=(ax (aa n) t e).1.pkg/\[]=(ax (aa n) t e).1.name/\[t.name]=(ax (aa n) t e).1.names/\[(aa n (List.getD t.parts (Int.toNat (0:Int)) (dfl (Ty.st SN.term))) e).1]=(ax (aa n) t e).1.parts/\(aa n (List.getD t.parts (Int.toNat (0:Int)) (dfl (Ty.st SN.term))) e).2.err=(ax (aa n) t e).2.err/\(aa n (List.getD t.parts (Int.toNat (0:Int)) (dfl (Ty.st SN.term))) e).2.pos=(ax (aa n) t e).2.pos/\True else if decide (t.kind=(14:Int))=true then((0:Int)<=(0:Int)/\(0:Int)<(↑(List.length t.parts):Int))/\(szT (List.getD t.parts (Int.toNat (0:Int)) (dfl (Ty.st SN.term)))<=n/\allT ag (List.getD t.parts (Int.toNat (0:Int)) (dfl (Ty.st SN.term)))=true/\List.length e.values+(4096:Nat) *szT (List.getD t.parts (Int.toNat (0:Int)) (dfl (Ty.st SN.term)))<=(100000000:Nat))/\if(!decide ((aa n (List.getD t.parts (Int.toNat (0:Int)) (dfl (Ty.st SN.term))) e).2.err=(0:Int)))=true then True/\(aa n (List.getD t.parts (Int.toNat (0:Int)) (dfl (Ty.st SN.term))) e).1=(ax (aa n) t e).1/\(aa n (List.getD t.parts (Int.toNat (0:Int)) (dfl (Ty.st SN.term))) e).2.err=(ax (aa n) t e).2.err
  /\(aa n (List.getD t.parts (Int.toNat (0:Int)) (dfl (Ty.st SN.term))) e).2.pos=(ax (aa n) t e).2.pos/\True else((0:Int)<=(1:Int)/\(1:Int)<(↑(List.length t.parts):Int))/\(List.length e.values<=(1000000000:Nat)/\List.length [{pkg:=[],name:=t.name,shape:=AL.Shape.mk ((aa n (List.getD t.parts (Int.toNat (0:Int)) (dfl (Ty.st SN.term))) e).1.kind) ((aa n (List.getD t.parts (Int.toNat (0:Int)) (dfl (Ty.st SN.term))) e).1.pkg) ((aa n (List.getD t.parts (Int.toNat (0:Int)) (dfl (Ty.st SN.term))) e).1.name) ((aa n (List.getD t.parts (Int.toNat (0:Int)) (dfl (Ty.st SN.term))) e).1.names) ((aa n (List.getD t.parts (Int.toNat (0:Int)) (dfl (Ty.st SN.term))) e).1.parts):Bndg}]<=(1000:Nat))/\(szT (List.getD t.parts (Int.toNat (1:Int)) (dfl (Ty.st SN.term)))<=n/\allT ag (List.getD t.parts (Int.toNat (1:Int)) (dfl (Ty.st SN.term)))=true/\List.length (e.values++[{pkg:=[],name:=t.name,shape:=AL.Shape.mk ((aa n (List.getD t.parts (Int.toNat (0:Int)) (dfl (Ty.st SN.term))) e).1.kind) ((aa n (List.getD t.parts (Int.toNat (0:Int)) (dfl (Ty.st SN.term))) e).1.pkg) ((aa n (List.getD t.parts (Int.toNat (0:Int)) (dfl (Ty.st SN.term))) e).1.name) ((aa n (List.getD t.parts (Int.toNat (0:Int)) (dfl (Ty.st SN.term))) e).1.names) ((aa n (List.getD t.parts (Int.toNat (0:Int)) (dfl (Ty.st SN.term))) e).1.parts):Bndg}])+(4096:Nat) *szT (List.getD t.parts (Int.toNat (1:Int)) (dfl (Ty.st SN.term)))<=(100000000:Nat))/\True/\(aa n (List.getD t.parts (Int.toNat (1:Int)) (dfl (Ty.st SN.term))) (bk e [{pkg:=[],name:=t.name,shape:=AL.Shape.mk ((aa n (List.getD t.parts (Int.toNat (0:Int)) (dfl (Ty.st SN.term))) e).1.kind) ((aa n (List.getD t.parts (Int.toNat (0:Int)) (dfl (Ty.st SN.term))) e).1.pkg) ((aa n (List.getD t.parts (Int.toNat (0:Int)) (dfl (Ty.st SN.term))) e).1.name) ((aa n (List.getD t.parts (Int.toNat (0:Int)) (dfl (Ty.st SN.term))) e).1.names) ((aa n (List.getD t.parts (Int.toNat (0:Int)) (dfl (Ty.st SN.term))) e).1.parts):Bndg}])).1=(ax (aa n) t e).1/\(aa n (List.getD t.parts (Int.toNat (1:Int)) (dfl (Ty.st SN.term))) (bk e [{pkg:=[],name:=t.name,shape:=AL.Shape.mk ((aa n (List.getD t.parts (Int.toNat (0:Int)) (dfl (Ty.st SN.term))) e).1.kind) ((aa n (List.getD t.parts (Int.toNat (0:Int)) (dfl (Ty.st SN.term))) e).1.pkg) ((aa n (List.getD t.parts (Int.toNat (0:Int)) (dfl (Ty.st SN.term))) e).1.name) ((aa n (List.getD t.parts (Int.toNat (0:Int)) (dfl (Ty.st SN.term))) e).1.names) ((aa n (List.getD t.parts (Int.toNat (0:Int)) (dfl (Ty.st SN.term))) e).1.parts):Bndg}])).2.err=(ax (aa n) t e).2.err/\(aa n (List.getD t.parts (Int.toNat (1:Int)) (dfl (Ty.st SN.term))) (bk e [{pkg:=[],name:=t.name,shape:=AL.Shape.mk ((aa n (List.getD t.parts (Int.toNat (0:Int)) (dfl (Ty.st SN.term))) e).1.kind) ((aa n (List.getD t.parts (Int.toNat (0:Int)) (dfl (Ty.st SN.term))) e).1.pkg) ((aa n (List.getD t.parts (Int.toNat (0:Int)) (dfl (Ty.st SN.term))) e).1.name) ((aa n (List.getD t.parts (Int.toNat (0:Int)) (dfl (Ty.st SN.term))) e).1.names) ((aa n (List.getD t.parts (Int.toNat (0:Int)) (dfl (Ty.st SN.term))) e).1.parts):Bndg}])).2.pos=(ax (aa n) t e).2.pos/\True else if decide (t.kind=(16:Int))=true then((0:Nat)<List.length t.parts/\szT t<=n+(1:Nat)/\allT ag t=true/\List.length e.values+(4096:Nat) *szT t<=(100000000:Nat))/\True/\(dq (aa n) t e).1=(ax (aa n) t e).1/\(dq (aa n) t e).2.err=(ax (aa n) t e).2.err/\(dq (aa n) t e).2.pos=(ax (aa n) t e).2.pos/\True else if decide (t.kind=(17:Int))=true then((0:Nat)<List.length t.parts/\szT t<=n+(1:Nat)
  /\allT ag t=true/\List.length e.values+(4096:Nat) *szT t<=(100000000:Nat))/\True/\(dq (aa n) t e).1=(ax (aa n) t e).1/\(dq (aa n) t e).2.err=(ax (aa n) t e).2.err/\(dq (aa n) t e).2.pos=(ax (aa n) t e).2.pos/\True else((t.kind=(6:Int)∨t.kind=(11:Int)∨t.kind=(12:Int)∨t.kind=(13:Int)∨t.kind=(15:Int))/\szT t<=n+(1:Nat)/\allT ag t=true/\List.length e.values+(4096:Nat) *szT t<=(100000000:Nat))/\True/\(ar (aa n) t e).1=(ax (aa n) t e).1/\(ar (aa n) t e).2.err=(ax (aa n) t e).2.err/\(ar (aa n) t e).2.pos=(ax (aa n) t e).2.pos/\True:=by
 have rm:=oY hf;have ln:=ht.term_parts.len;have ps:=mo t;have e0:Int.toNat 0=0:=rfl;have e1:Int.toNat 1=1:=rfl;have et:∀s:Shape,AL.Shape.mk s.kind s.pkg s.name s.names s.parts=s:=fun s=>by cases s;rfl
 simp only[e0,e1,et,Int.toNat_natCast,eq_self,true_and,and_true];have nx:∀{j w:Nat},j<t.parts.length->w<=e.values.length+4096->szT (t.parts.getD j (dfl (.st .term)))<=n/\allT ag (t.parts.getD j (dfl (.st .term)))=true/\w+4096 *szT (t.parts.getD j (dfl (.st .term)))<=100000000:=fun hj hw=>jw hz hf hv _ hj hw;refine ab (fun k=>?_) (fun k1=>?_)
 ·have k:=Xo k;rw[show ax (aa n) t e=(ofK 1,cb) by unfold ax;simp[k]];exact⟨rfl,rfl,rfl⟩
 have k1:¬t.kind=1:=fun q=>k1 (Xd q);refine ab (fun k=>?_) (fun k2=>?_)
 ·have k:=Xo k;rw[show ax (aa n) t e=(ofK 3,cb) by unfold ax;simp[k]];exact⟨rfl,rfl,rfl⟩
 have k2:¬t.kind=2:=fun q=>k2 (Xd q);refine ab (fun k=>?_) (fun k3=>?_)
 ·have k:=Xo k;rw[show ax (aa n) t e=(ofK 2,cb) by unfold ax;simp[k]];exact⟨rfl,rfl,rfl⟩
 have k3:¬t.kind=3:=fun q=>k3 (Xd q);refine⟨by rw[Xf k3,Bool.false_or],ab (fun k=>?_) (fun k4=>?_)⟩
 ·have k:t.kind=4:=by rw[Xf k3,Bool.false_or]at k;exact Xo k
  rw[show ax (aa n) t e=(ofK 2,cb) by unfold ax;simp[k]];exact⟨rfl,rfl,rfl⟩
 have k4:¬t.kind=4:=fun q=>k4 (by rw[Xd q,Bool.or_true]);refine ab (fun k=>?_) (fun k5=>?_)
 ·have k:=Xo k;have hN:az e.values t.pkg t.name=none->ax (aa n) t e=(al,⟨110,t.pos⟩):=fun g=>by unfold ax;simp[k,g]
  have hS:∀s,az e.values t.pkg t.name=some s->ax (aa n) t e=(aM s,cb):=fun s g=>by unfold ax;simp[k,g]
  cases g:az e.values t.pkg t.name with
  |none=>rw[hN g];exact ab (fun _=>⟨rfl,rfl,rfl⟩) (fun q=>absurd rfl q)
  |some s=>rw[hS s g];exact ab (fun q=>absurd q Bool.false_ne_true) (fun _=>⟨rfl,rfl,rfl⟩)
 have k5:¬t.kind=5:=fun q=>k5 (Xd q);refine ab (fun k=>?_) (fun k7=>?_)
 ·have k:=Xo k;rw[show ax (aa n) t e=aR (aa n) t e by unfold ax;simp[k]];exact⟨⟨rm.k7 k,hz,hf,hv⟩,rfl,rfl,rfl⟩
 have k7:¬t.kind=7:=fun q=>k7 (Xd q);refine ab (fun k=>?_) (fun k8=>?_)
 ·have k:=Xo k;have hP:ax (aa n) t e=if(aN (aa n) e t.parts).2.2.err=0 then(⟨6,[],[],t.names,(aN (aa n) e t.parts).1⟩,cb)else(aN (aa n) e t.parts).2:=by unfold ax;simp[k]
  refine⟨⟨(0,[]),⟨Nat.zero_le _,rfl,by rw[List.drop_zero];rfl⟩,rfl,rfl,rfl⟩,?_⟩;rintro⟨j,q⟩ ⟨h1,h2,h3⟩;dsimp only at h1 h2 h3⊢;refine ab (fun c=>?_) (fun c=>?_)
  ·have c:=Xo c;have hj:j<t.parts.length:=by omega
   rw[aA t.parts j (dfl (.st .term)) hj]at h3;simp only[aN]at h3;refine⟨by omega,nx hj (Nat.le_add_right _ _),ab (fun f=>?_) (fun f=>?_)⟩
   ·have f:=ndF f;rw[if_neg f]at h3;rw[hP,h3,if_neg (show ¬(q++[],aa n (t.parts.getD j (dfl (.st .term))) e).2.2.err=0 from f)];exact⟨rfl,rfl,rfl⟩
   ·have f:=ndT f;rw[if_pos f]at h3;refine⟨by simp only[List.length_cons,List.length_nil];omega,aL hj ln,(j+1,q++[_]),⟨by dsimp only;omega,by simp[h2],?_⟩,by dsimp only;omega,by dsimp only;omega,rfl,rfl⟩;dsimp only;rw[h3,List.append_assoc];rfl
  ·have c:¬((j:Int)<(t.parts.length:Int)):=fun q=>c (Xd q);have hj:j=t.parts.length:=by omega
   rw[hj,List.drop_length]at h3;simp only[aN,List.append_nil]at h3;rw[hP,h3];exact⟨rfl,rfl,rfl,rfl,rfl,rfl,rfl⟩
 have k8:¬t.kind=8:=fun q=>k8 (Xd q);refine ab (fun k=>?_) (fun k9=>?_)
 ·have k:=Xo k;rw[show ax (aa n) t e=cw (aa n) t e by unfold ax;simp[k]];have:=rm.k1 (by omega);exact⟨⟨by omega,hz,hf,hv⟩,rfl,rfl,rfl⟩
 have k9:¬t.kind=9:=fun q=>k9 (Xd q);refine ab (fun k=>?_) (fun k10=>?_)
 ·have k:=Xo k;rw[show ax (aa n) t e=(⟨7,[],[],[t.name],[(aa n (t.parts.getD 0 ao) e).1]⟩,(aa n (t.parts.getD 0 ao) e).2) by unfold ax;simp[k]];have:=rm.k1 (by omega);exact⟨by omega,nx (by omega) (Nat.le_add_right _ _),rfl,rfl,rfl,rfl,rfl,rfl,rfl⟩
 have k10:¬t.kind=10:=fun q=>k10 (Xd q);refine ab (fun k=>?_) (fun k14=>?_)
 ·have k:=Xo k;rw[show ax (aa n) t e=(if(aa n (t.parts.getD 0 ao) e).2.err=0 then aa n (t.parts.getD 1 ao) (bk e [kx t.name (aa n (t.parts.getD 0 ao) e).1])else aa n (t.parts.getD 0 ao) e) by unfold ax;simp[k]];have:=rm.k14 k;refine⟨by omega,nx (by omega) (Nat.le_add_right _ _),ab (fun f=>?_) (fun f=>?_)⟩
  ·rw[if_neg (show ¬(aa n (t.parts.getD 0 ao) e).2.err=0 from ndF f)];exact⟨rfl,rfl,rfl⟩
  ·rw[if_pos (show(aa n (t.parts.getD 0 ao) e).2.err=0 from ndT f)];refine⟨by omega,⟨by omega,by simp⟩,?_,rfl,rfl,rfl⟩;rw[List.length_append];exact nx (by omega) (by simp)
 have k14:¬t.kind=14:=fun q=>k14 (Xd q);refine ab (fun k=>?_) (fun k16=>?_)
 ·have k:=Xo k;rw[show ax (aa n) t e=dq (aa n) t e by unfold ax;simp[k]];have:=rm.k1 (by omega);exact⟨⟨by omega,hz,hf,hv⟩,rfl,rfl,rfl⟩
 have k16:¬t.kind=16:=fun q=>k16 (Xd q);refine ab (fun k=>?_) (fun k17=>?_)
 ·have k:=Xo k;rw[show ax (aa n) t e=dq (aa n) t e by unfold ax;simp[k]];have:=rm.k1 (by omega);exact⟨⟨by omega,hz,hf,hv⟩,rfl,rfl,rfl⟩
 have k17:¬t.kind=17:=fun q=>k17 (Xd q);have ka:=rm.all;rw[show ax (aa n) t e=ar (aa n) t e by unfold ax;simp[k1,k2,k3,k4,k5,k7,k8,k9,k10,k14,k16,k17]];exact⟨⟨by omega,hz,hf,hv⟩,rfl,rfl,rfl⟩
theorem EK(t:Trm)(e:Envt)(ht:Wf (.st .term) t)(he:Wf (.st .env) e)(ho:cK t=true/\e.values.length<=1000000) :
  cK t=true/\if(!decide (cC t=(0:Int)))=true then True/\(0:Int)=(bQ t e).1.kind/\[]=(bQ t e).1.pkg/\[]=(bQ t e).1.name/\(bQ t e).1.names=[]/\(bQ t e).1.parts=[]/\cC t=(bQ t e).2.err/\(0:Int)=(bQ t e).2.pos/\True else(szT t<=szT t/\allT ag t=true/\List.length e.values+(4096:Nat) *szT t<=(100000000:Nat))/\True/\(aa (szT t) t e).1=(bQ t e).1/\(aa (szT t) t e).2.err=(bQ t e).2.err/\(aa (szT t) t e).2.pos=(bQ t e).2.pos/\True:=by
 obtain⟨h1,h2⟩:=ho;refine⟨h1,ab (fun h=>?_) (fun h=>?_)⟩
 ·have h:=ndF h;rw[show bQ t e=(al,⟨cC t,0⟩) by unfold bQ;rw[if_neg h]];exact⟨trivial,rfl,rfl,rfl,rfl,rfl,rfl,rfl,trivial⟩
 ·have h:=ndT h;rw[show bQ t e=aa (szT t) t e by unfold bQ;rw[if_pos h]];have:=(qD h).1;exact⟨⟨Nat.le_refl _,qC h,by omega⟩,trivial,rfl,rfl,rfl,trivial⟩
theorem zf(t:Trm)(ht:Wf (.st .term) t) :
  (szT t<=szT t/\(0:Int)<=(300:Int)/\(300:Int)<=(1000000:Int))/\True/\decide (dx t (300:Int)<=(300:Int))=decide (dx t (300:Int)<=(300:Int))/\True:=by
 exact⟨⟨Nat.le_refl _,by decide,by decide⟩,trivial,rfl,trivial⟩
end Go.AL.Seat
end
section
open Go Go.AL Go.Proofs Go.Shelf Go.Pd
namespace Go.AL.Seat
open Go.Proofs.Tryz
variable [Tabs]
variable [SeatLaid]
theorem nr:ak prog 123 (p1 (.int .u8) fun c=>.ret (.bool (cd c))):=
 bp (ee func123) fun c _ _=>g0 sn a0 func123 (Em c)
theorem nt:ak prog 124 (p1 (.int .u8) fun c=>.ret (.bool (cr c))):=
 bp (ee func124) fun c _ _=>g0 sn a0 func124 (En c)
theorem Cs:ak prog 127 (p1 (.int .u8) fun c=>.ret (.bool (fv c))):=
 bp (ee func127) fun c _ _=>g0 sn a0 func127 (Eo c)
theorem wq:ak prog 125 (p1 (.int .u8) fun c=>.ret (.bool (dT c))):=
 bp (ee func125) fun c _ _=>g0 (sc nr (sc nt (sc Cs sn))) a0 func125 (G7 c)
theorem zg:ak prog 166 (pf .str 123 fun s=>.ret (.bool (ct cd s))):=
 nQ (ee func166) fun s hs _=>g0 (sc nr (sc nt (sc wq sn))) ⟨[(4,fun S0=>⟨Nat,fun k=>k<=s.length/\ct cd s=(s.drop k).all fun c=>dT (bI c),fun k=>[(22,.int .i64 k)],fun _=>[],fun k=>s.length-k⟩)],[],[]⟩ func166 (C3 s hs)
theorem zh:ak prog 166 (pf .str 124 fun s=>.ret (.bool (ct cr s))):=
 nQ (ee func166) fun s hs _=>g0 (sc nr (sc nt (sc wq sn))) ⟨[(4,fun S0=>⟨Nat,fun k=>k<=s.length/\ct cr s=(s.drop k).all fun c=>dT (bI c),fun k=>[(22,.int .i64 k)],fun _=>[],fun k=>s.length-k⟩)],[],[]⟩ func166 (C4 s hs)
theorem EL:ak prog 126 (p1 .str fun s=>.ret (.bool (dA s))):=
 bp (ee func126) fun s _ _=>g0 sn a0 func126 (G8 s)
theorem mz:ak prog 100 (p1 .str fun s=>.ret (.bool (aI s))):=
 bp (ee func100) fun s _ _=>g0 (sc zg (sc EL sn)) a0 func100 (G9 s)
theorem sM:ak prog 103 (p1 .str fun s=>.ret (.bool (aY s))):=
 bp (ee func103) fun s _ _=>g0 (sc zh sn) a0 func103 (Ep s)
theorem qO:ak prog 145 (p2 (.lst .str) .str fun a v=>.ret (.int .i64 (cu a v 0))):=
 bR (ee func145) fun a v ha _ _=>g0 sn ⟨[(2,fun S0=>⟨Nat,fun k=>k<=a.length/\cu a v 0=cu (a.drop k) v k,fun k=>[(8,.int .i64 k)],fun _=>[],fun k=>a.length-k⟩)],[],[]⟩ func145 (C5 a v ha)
theorem Ct:ak prog 110 (p1 .str fun s=>.ret (.bool (hX s))):=
 bp (ee func110) fun s _ _=>g0 sn a0 func110 (Er s)
theorem qP:ak prog 168 (p1 (.lst .str) fun a=>⟨none,none,.fn 226 [.ptr 1 0],[(1,.box (.lst .str a none))]⟩):=
 bp (ee func168) fun a _ _=>g0 sn a0 func168 (C6 a)
theorem Cu:ak prog 109 (p1 (.st .shape) fun s=>⟨some (s.parts.length *16<=140737488355328),none,.bool (cE s),[]⟩):=
 bp (ee func109) fun s hs ho=>g0 (sc mz (sc qP (sc (lH) (sc (kr) sn)))) ⟨[(4,fun S0=>⟨Nat,fun k=>k<=s.names.length/\s.names.length=s.parts.length/\cE s=(((s.names.drop k).all aI)&&decide s.names.Nodup),fun k=>[(16,.int .i64 k)],fun _=>[],fun k=>s.names.length-k⟩)],[],[]⟩ func109 (Es s hs (ho _ rfl))
theorem EM:ak prog 60 (p1 (.st .shape) fun s=>⟨some (s.parts.length *16<=140737488355328),none,.bool (aj s),[]⟩):=
 bp (ee func60) fun s hs ho=>g0 (sc Cu (sc sM (sc mz (sc Ct sn)))) a0 func60 (Ga s hs (ho _ rfl))
theorem qQ:aJ prog 40:=ee func40
theorem rZ(n:Nat)(s:AL.Shape)(hs:Wf (.st .shape) s)(hn:sz s<=n+1)(hb:n<=1000000)(hA:ak prog 40 (pf (.st .shape) 60 fun s=>⟨some (sz s<=n),none,.bool (allS aj s),[]⟩)):aF prog 40 [.st .shape s,.fn 60 []] [] (.ret (.bool (allS aj s))):=
 g0 (sc EM (sc (hA) sn)) ⟨[(4,fun S0=>⟨Nat,fun k=>k<=s.parts.length/\allS aj s=allL aj (s.parts.drop k),fun k=>[(14,.int .i64 k)],fun _=>[],fun k=>s.parts.length-k⟩)],[],[]⟩ func40 (yV n s hs hn hb)
theorem wu:∀n:Nat,n<=1000000->ak prog 40 (pf (.st .shape) 60 fun s=>⟨some (sz s<=n),none,.bool (allS aj s),[]⟩):=by
 intro n
 induction n with
 |zero=>exact fun _=>nQ qQ fun a hs ho=>absurd (ho _ rfl) (by have:=dG a;omega)
 |succ n ih=>exact fun hb=>nQ qQ fun a hs ho=>rZ n a hs (ho _ rfl) (by omega) (ih (by omega))
theorem sO:aJ prog 42:=ee func42
theorem uj(n:Nat)(s:AL.Shape)(hs:Wf (.st .shape) s)(hn:sz s<=n+1)(ho:allS bN s=true)(hb:n<=1000000)(hA:ak prog 42 (p1 (.st .shape) fun s=>⟨some (sz s<=n/\allS bN s=true),none,.st .shape (sortedS s),[]⟩)):aF prog 42 [.st .shape s] [] (.ret (.st .shape (sortedS s))):=
 g0 (sc (mu) (sc (hA) sn)) ⟨[(4,fun S0=>⟨Nat,fun k=>k<=s.parts.length,fun k=>[(21,.int .i64 k)],fun k=>[(18,.box (.row (.int .i64) (bP k++List.replicate (s.parts.length-k) 0)))],fun k=>s.parts.length-k⟩),(11,fun S0=>⟨Nat,fun k=>k<=s.parts.length,fun k=>[(38,.int .i64 k)],fun k=>[(3,.box (.agg [.int .i64 s.kind,.str s.pkg,.str s.name,.lst .str (if s.names=[]then[]else(aw s|>.take k).map (bH s.names)) (some 701),.lst (.st .shape) ((aw s|>.take k).map fun i=>(sortedL s.parts).getD i.toNat da) (some 702)])),(18,.box (.row (.int .i64) (aw s))),(701,.tail .str (if s.names=[]then[]else(aw s|>.take k).map (bH s.names)).length),(702,.tail (.st .shape) k)],fun k=>s.parts.length-k⟩)],[],[]⟩ func42 (C7 n s hs hn ho hb)
theorem zi:∀n:Nat,n<=1000000->ak prog 42 (p1 (.st .shape) fun s=>⟨some (sz s<=n/\allS bN s=true),none,.st .shape (sortedS s),[]⟩):=by
 intro n
 induction n with
 |zero=>exact fun _=>bp sO fun a hs ho=>absurd (ho _ rfl).1 (by have:=dG a;omega)
 |succ n ih=>exact fun hb=>bp sO fun a hs ho=>uj n a hs (ho _ rfl).1 (ho _ rfl).2 (by omega) (ih (by omega))
theorem gL:ak prog 39 (p1 (.st .shape) fun s=>.ret (.int .i64 (aC s))):=
 bp (ee func39) fun s _ _=>g0 (sc (sL) (sc (wu 400 (by decide)) sn)) a0 func39 (Et s)
theorem kA:ak prog 24 (p1 (.st .shape) fun s=>.ret (.st .shape (aM s))):=
 bp (ee func24) fun s _ _=>g0 (sc gL (sc (zi 400 (by decide)) sn)) a0 func24 (Gb s)
theorem AP:aJ prog 33:=ee func33
theorem zj(n:Nat)(s:AL.Shape)(m:Int)(hs:Wf (.st .shape) s)(ho:sz s<=n+1/\0<=m/\m<=1000000)(hA:ak prog 33 (p2 (.st .shape) (.int .i64) fun s m=>⟨some (sz s<=n/\0<=m/\m<=1000000),none,.int .i64 (sizeF s m),[]⟩)):aF prog 33 [.st .shape s,.int .i64 m] [] (.ret (.int .i64 (sizeF s m))):=
 g0 (sc (hA) sn) ⟨[(3,fun S0=>⟨Nat×Int,fun x=>x.1<=s.parts.length/\1<=x.2/\x.2<=m+1/\sizeL (s.parts.drop x.1) x.2 m=sizeF s m,fun x=>[(5,.int .i64 x.2),(6,.int .i64 x.1)],fun _=>[],fun x=>s.parts.length-x.1⟩)],[],[]⟩ func33 (Gc n s m hs ho)
theorem wv:∀n:Nat,ak prog 33 (p2 (.st .shape) (.int .i64) fun s m=>⟨some (sz s<=n/\0<=m/\m<=1000000),none,.int .i64 (sizeF s m),[]⟩):=by
 intro n
 induction n with
 |zero=>exact bR AP fun a m _ _ ho=>absurd (ho _ rfl).1 (by have:=dG a;omega)
 |succ n ih=>exact bR AP fun a m ha _ ho=>zj n a m ha (ho _ rfl) ih
theorem sP:aJ prog 14:=ee func14
theorem uk(n:Nat)(a b:Shape)(ha:Wf (.st .shape) a)(hb:Wf (.st .shape) b)(hn:sz a<=n+1)(hA:ak prog 14 (p2 (.st .shape) (.st .shape) fun a b=>⟨some (sz a<=n),none,.bool (eqS a b),[]⟩)):aF prog 14 [.st .shape a,.st .shape b] [] (.ret (.bool (eqS a b))):=
 g0 (sc (hA) sn) ⟨[(4,fun S0=>⟨Nat,fun k=>k<=a.names.length/\a.names.length=b.names.length/\a.parts.length=b.parts.length/\eqS a b=(decide (a.names.drop k=b.names.drop k)&&eqL a.parts b.parts),fun k=>[(5,.int .i64 k)],fun _=>[],fun k=>a.names.length-k⟩),(9,fun S0=>⟨Nat,fun k=>k<=a.parts.length/\a.parts.length=b.parts.length/\eqS a b=eqL (a.parts.drop k) (b.parts.drop k),fun k=>[(6,.int .i64 k)],fun _=>[],fun k=>a.parts.length-k⟩)],[],[]⟩ func14 (Ca n a b ha hb hn)
theorem zk:∀n:Nat,ak prog 14 (p2 (.st .shape) (.st .shape) fun a b=>⟨some (sz a<=n),none,.bool (eqS a b),[]⟩):=by
 intro n
 induction n with
 |zero=>exact bR sP fun a b _ _ ho=>absurd (ho _ rfl) (by have:=dG a;omega)
 |succ n ih=>exact bR sP fun a b ha hb ho=>uk n a b ha hb (ho _ rfl) ih
theorem um(l:List Bndg)(N:Nat)(hl:Wf (.lst (.st .bind)) l)(hN:∀x∈l,sz x.shape<=N) :aF prog 15 [.lst (.st .bind) l none] [] (.ret (.bool (ic l))):=
 g0 (sc (wv N) sn) ⟨[(4,fun S0=>⟨Nat,fun k=>k<=l.length/\o9 (l.drop k)=ic l,fun k=>[(3,.int .i64 k)],fun _=>[],fun k=>l.length-k⟩)],[],[]⟩ func15 (Cb l N hl hN)
theorem zl:ak prog 15 (p1 (.lst (.st .bind)) fun l=>.ret (.bool (ic l))):=
 bp (ee func15) fun l hl _=>um l (szB l) hl (E8 l)
theorem wx:ak prog 9 (p1 (.st .env) fun e=>.ret (.bool (jv e))):=
 bp (ee func9) fun e he _=>g0 (sc zl sn) a0 func9 (yY e he)
theorem wy:ak prog 16 (p2 (.st .env) (.lst (.st .bind)) fun e l=>⟨some (e.values.length<=1000000000/\l.length<=1000),none,.st .env (bk e l),[]⟩):=
 bR (ee func16) fun e l he hl ho=>g0 (sc qK sn) a0 func16 (Ge e l he hl (ho _ rfl))
theorem sQ:aJ prog 37:=ee func37
theorem uo(n:Nat)(t:Trm)(m:Int)(hs:Wf (.st .term) t)(hz:szT t<=n+1)(h0:0<=m)(h1:m<=1000000)(hA:ak prog 37 (p2 (.st .term) (.int .i64) fun t m=>⟨some (szT t<=n/\0<=m/\m<=1000000),none,.tup [.int .i64 (countT t m).1,.int .i64 (countT t m).2],[]⟩)):aF prog 37 [.st .term t,.int .i64 m] [] (⟨some (szT t<=n+1/\0<=m/\m<=1000000),none,.tup [.int .i64 (countT t m).1,.int .i64 (countT t m).2],[]⟩):=
 g0 (sc (hA) sn) ⟨[(3,fun S0=>⟨Nat×Int×Int,fun y=>y.1<=t.parts.length/\1<=y.2.1/\y.2.1<=m+1/\0<=y.2.2/\y.2.2+1<=y.2.1/\countL (t.parts.drop y.1) m y.2.1 y.2.2=countL t.parts m 1 0,fun y=>[(6,.int .i64 y.2.1),(7,.int .i64 y.2.2),(15,.int .i64 y.1)],fun _=>[],fun y=>t.parts.length-y.1⟩)],[],[]⟩ func37 (Cc n t m hs hz h0 h1)
theorem qR:∀n:Nat,ak prog 37 (p2 (.st .term) (.int .i64) fun t m=>⟨some (szT t<=n/\0<=m/\m<=1000000),none,.tup [.int .i64 (countT t m).1,.int .i64 (countT t m).2],[]⟩)
 |0=>bR sQ fun t m hs _ ho=>absurd (ho _ rfl).1 (by have:=fw t;omega)
 |n+1=>bR sQ fun t m hs _ ho=>uo n t m hs (ho _ rfl).1 (ho _ rfl).2.1 (ho _ rfl).2.2 (qR n)
theorem wz:ak prog 171 (pcl .str 100 fun x=>⟨none,none,.bool (!aI x),[]⟩):=
 ue (ee func171) fun x _ ho=>g0 (sc mz sn) a0 func171 (yZ x)
theorem wA:ak prog 227 (pfc (.lst .str) 171 100 fun l=>⟨none,none,.int .i64 (bM aI l 0),[]⟩):=
 kj (ee func227) fun l hl ho=>g0 (sc wz sn) ⟨[(2,fun S0=>⟨Nat,fun k=>k<=l.length/\bM aI (l.drop k) k=bM aI l 0,fun k=>[(8,.int .i64 k)],fun _=>[],fun k=>l.length-k⟩)],[],[]⟩ func227 (z6 l hl)
theorem wB:ak prog 170 (pfc (.lst .str) 171 100 fun l=>⟨none,none,.bool (!l.all aI),[]⟩):=
 kj (ee func170) fun l _ ho=>g0 (sc wA sn) a0 func170 (z7 l)
theorem sR:ak prog 102 (pf (.lst .str) 100 fun l=>⟨none,none,.bool (l.all aI),[]⟩):=
 nQ (ee func102) fun l _ ho=>g0 (sc wB sn) a0 func102 (Ev l)
theorem Cv:ak prog 101 (p1 (.lst .str) fun l=>⟨some (l.length *16<=140737488355328),none,.bool (l.all aI&&decide l.Nodup),[]⟩):=
 bp (ee func101) fun l _ ho=>g0 (sc qP (sc (lH) (sc sR (sc (kr) sn)))) a0 func101 (Ew l (ho _ rfl))
theorem zm:aJ prog 163:=ee func163
theorem s5(n:Nat)(x:Shape) (ho:sz x<=n)(hA:ak prog 164 (p1 (.st .shape) fun s=>⟨some (sz s<=n),none,.bool (allS b9 s),[]⟩)):aF prog 163 [.st .shape x,.ptr 900 0] [(900,.box (.fn 164 []))] (⟨some (sz x<=n),none,.bool (!(allS b9) x),[]⟩):=
 g0 (sc (hA) sn) a0 func163 (z8 n x ho)
theorem wC(n:Nat)(hA:ak prog 164 (p1 (.st .shape) fun s=>⟨some (sz s<=n),none,.bool (allS b9 s),[]⟩)):ak prog 163 (pcl (.st .shape) 164 fun x=>⟨some (sz x<=n),none,.bool (!(allS b9) x),[]⟩):=
 ue zm fun x _ ho=>s5 n x (ho _ rfl) hA
theorem zn:aJ prog 222:=ee func222
theorem s6(n:Nat)(l:List AL.Shape) (hl:Wf (.lst (.st .shape)) l)(ho:∀x∈l,sz x<=n)(hA:ak prog 164 (p1 (.st .shape) fun s=>⟨some (sz s<=n),none,.bool (allS b9 s),[]⟩)):aF prog 222 [.lst (.st .shape) l none,.fn 163 [.ptr 900 0]] [(900,.box (.fn 164 []))] (⟨some (∀x∈l,sz x<=n),none,.int .i64 (bM (allS b9) l 0),[]⟩):=
 g0 (sc ((wC n hA)) sn) ⟨[(2,fun S0=>⟨Nat,fun k=>k<=l.length/\bM (allS b9) (l.drop k) k=bM (allS b9) l 0,fun k=>[(8,.int .i64 k)],fun _=>[],fun k=>l.length-k⟩)],[],[]⟩ func222 (zc n l hl ho)
theorem wD(n:Nat)(hA:ak prog 164 (p1 (.st .shape) fun s=>⟨some (sz s<=n),none,.bool (allS b9 s),[]⟩)):ak prog 222 (pfc (.lst (.st .shape)) 163 164 fun l=>⟨some (∀x∈l,sz x<=n),none,.int .i64 (bM (allS b9) l 0),[]⟩):=
 kj zn fun l hl ho=>s6 n l hl (ho _ rfl) hA
theorem zo:aJ prog 162:=ee func162
theorem s7(n:Nat)(l:List AL.Shape) (ho:∀x∈l,sz x<=n)(hA:ak prog 164 (p1 (.st .shape) fun s=>⟨some (sz s<=n),none,.bool (allS b9 s),[]⟩)):aF prog 162 [.lst (.st .shape) l none,.fn 163 [.ptr 900 0]] [(900,.box (.fn 164 []))] (⟨some (∀x∈l,sz x<=n),none,.bool (!l.all (allS b9)),[]⟩):=
 g0 (sc ((wD n hA)) sn) a0 func162 (zd n l ho)
theorem wE(n:Nat)(hA:ak prog 164 (p1 (.st .shape) fun s=>⟨some (sz s<=n),none,.bool (allS b9 s),[]⟩)):ak prog 162 (pfc (.lst (.st .shape)) 163 164 fun l=>⟨some (∀x∈l,sz x<=n),none,.bool (!l.all (allS b9)),[]⟩):=
 kj zo fun l _ ho=>s7 n l (ho _ rfl) hA
theorem EN:aJ prog 97:=ee func97
theorem wF(n:Nat)(l:List AL.Shape) (ho:∀x∈l,sz x<=n)(hA:ak prog 164 (p1 (.st .shape) fun s=>⟨some (sz s<=n),none,.bool (allS b9 s),[]⟩)):aF prog 97 [.lst (.st .shape) l none,.fn 164 []] [] (⟨some (∀x∈l,sz x<=n),none,.bool (l.all (allS b9)),[]⟩):=
 g0 (sc ((wE n hA)) sn) a0 func97 (Ex n l ho)
theorem Cw(n:Nat)(hA:ak prog 164 (p1 (.st .shape) fun s=>⟨some (sz s<=n),none,.bool (allS b9 s),[]⟩)):ak prog 97 (pf (.lst (.st .shape)) 164 fun l=>⟨some (∀x∈l,sz x<=n),none,.bool (l.all (allS b9)),[]⟩):=
 nQ EN fun l _ ho=>wF n l (ho _ rfl) hA
theorem AQ:aJ prog 164:=ee func164
theorem zp(n:Nat)(s:AL.Shape)(ho:sz s<=n+1)(hE:ak prog 97 (pf (.lst (.st .shape)) 164 fun l=>⟨some (∀x∈l,sz x<=n),none,.bool (l.all (allS b9)),[]⟩)):aF prog 164 [.st .shape s] [] (⟨some (sz s<=n+1),none,.bool (allS b9 s),[]⟩):=
 g0 (sc (hE) sn) a0 func164 (Gf n s ho)
theorem wG:∀n:Nat,ak prog 164 (p1 (.st .shape) fun s=>⟨some (sz s<=n),none,.bool (allS b9 s),[]⟩)
 |0=>bp AQ fun s _ ho=>absurd (ho _ rfl) (by have:=dG s;omega)
 |n+1=>bp AQ fun s _ ho=>zp n s (ho _ rfl) (Cw n (wG n))
theorem zq:ak prog 98 (p1 (.st .shape) fun s=>.ret (.bool (decide (aC s=0)&&allS b9 s))):=
 bp (ee func98) fun s _ _=>g0 (sc gL (sc (wG 400) sn)) a0 func98 (Cd s)
theorem Gp:ak prog 96 (p1 (.st .term) fun t=>.ret (.agg [.int .i64 (t.names.length:Int),.int .i64 (t.vars.length:Int),.int .i64 (t.shapes.length:Int),.int .i64 (t.parts.length:Int)])):=
 bp (ee func96) fun t _ _=>g0 sn a0 func96 (Hf t)
theorem Cx:ak prog 99 (p1 .str fun s=>.ret (.bool (fY s))):=
 bp (ee func99) fun s hs _=>g0 (sc (BO) sn) ⟨[(2,fun S0=>⟨Nat,fun k=>k<=s.length/\(s.all cG)=(s.drop k).all cG,fun k=>[(8,.int .i64 k)],fun _=>[],fun k=>s.length-k⟩)],[],[]⟩ func99 (Ey s hs)
theorem uq:ak prog 163 (pcl (.st .shape) 98 fun x=>⟨none,none,.bool (!bD x),[]⟩):=
 ue (ee func163) fun x _ ho=>g0 (sc zq sn) a0 func163 (wg x)
theorem ur:ak prog 222 (pfc (.lst (.st .shape)) 163 98 fun l=>⟨none,none,.int .i64 (bM bD l 0),[]⟩):=
 kj (ee func222) fun l hl ho=>g0 (sc uq sn) ⟨[(2,fun S0=>⟨Nat,fun k=>k<=l.length/\bM bD (l.drop k) k=bM bD l 0,fun k=>[(8,.int .i64 k)],fun _=>[],fun k=>l.length-k⟩)],[],[]⟩ func222 (wh l hl)
theorem uu:ak prog 162 (pfc (.lst (.st .shape)) 163 98 fun l=>⟨none,none,.bool (!l.all bD),[]⟩):=
 kj (ee func162) fun l _ ho=>g0 (sc ur sn) a0 func162 (wi l)
theorem zr:ak prog 97 (pf (.lst (.st .shape)) 98 fun l=>⟨none,none,.bool (l.all bD),[]⟩):=
 nQ (ee func97) fun l _ ho=>g0 (sc uu sn) a0 func97 (Ce l)
theorem Cy:ak prog 57 (p1 (.st .term) fun t=>⟨some (t.names.length<=8796093022208),none,.bool (ag t),[]⟩):=
 bp (ee func57) fun t ht ho=>g0 (sc Gp (sc zr (sc Cx (sc mz (sc Cv (sc sR (sc sM sn))))))) ⟨[],[],[(2,fun S0=>⟨[(34,.bool (!eZ t))],[]⟩)]⟩ func57 (Ez t ht (ho _ rfl))
theorem wH:aJ prog 105:=ee func105
theorem qS(n:Nat)(x:Trm) (ho:szT x<=n/\cK x=true)(hA:ak prog 38 (p1 (.st .term) fun t=>⟨some (szT t<=n/\cK t=true),none,.bool (allT ag t),[]⟩)):aF prog 105 [.st .term x,.ptr 900 0] [(900,.box (.fn 38 []))] (⟨some (szT x<=n/\cK x=true),none,.bool (!(allT ag) x),[]⟩):=
 g0 (sc (hA) sn) a0 func105 (wj n x ho)
theorem uv(n:Nat)(hA:ak prog 38 (p1 (.st .term) fun t=>⟨some (szT t<=n/\cK t=true),none,.bool (allT ag t),[]⟩)):ak prog 105 (pcl (.st .term) 38 fun x=>⟨some (szT x<=n/\cK x=true),none,.bool (!(allT ag) x),[]⟩):=
 ue wH fun x _ ho=>qS n x (ho _ rfl) hA
theorem wI:aJ prog 172:=ee func172
theorem qT(n:Nat)(l:List Trm) (hl:Wf (.lst (.st .term)) l)(ho:∀x∈l,szT x<=n/\cK x=true)(hA:ak prog 38 (p1 (.st .term) fun t=>⟨some (szT t<=n/\cK t=true),none,.bool (allT ag t),[]⟩)):aF prog 172 [.lst (.st .term) l none,.fn 105 [.ptr 900 0]] [(900,.box (.fn 38 []))] (⟨some (∀x∈l,szT x<=n/\cK x=true),none,.int .i64 (bM (allT ag) l 0),[]⟩):=
 g0 (sc ((uv n hA)) sn) ⟨[(2,fun S0=>⟨Nat,fun k=>k<=l.length/\bM (allT ag) (l.drop k) k=bM (allT ag) l 0,fun k=>[(8,.int .i64 k)],fun _=>[],fun k=>l.length-k⟩)],[],[]⟩ func172 (wk n l hl ho)
theorem uw(n:Nat)(hA:ak prog 38 (p1 (.st .term) fun t=>⟨some (szT t<=n/\cK t=true),none,.bool (allT ag t),[]⟩)):ak prog 172 (pfc (.lst (.st .term)) 105 38 fun l=>⟨some (∀x∈l,szT x<=n/\cK x=true),none,.int .i64 (bM (allT ag) l 0),[]⟩):=
 kj wI fun l hl ho=>qT n l hl (ho _ rfl) hA
theorem wJ:aJ prog 104:=ee func104
theorem qU(n:Nat)(l:List Trm) (ho:∀x∈l,szT x<=n/\cK x=true)(hA:ak prog 38 (p1 (.st .term) fun t=>⟨some (szT t<=n/\cK t=true),none,.bool (allT ag t),[]⟩)):aF prog 104 [.lst (.st .term) l none,.fn 105 [.ptr 900 0]] [(900,.box (.fn 38 []))] (⟨some (∀x∈l,szT x<=n/\cK x=true),none,.bool (!l.all (allT ag)),[]⟩):=
 g0 (sc ((uw n hA)) sn) a0 func104 (wm n l ho)
theorem uz(n:Nat)(hA:ak prog 38 (p1 (.st .term) fun t=>⟨some (szT t<=n/\cK t=true),none,.bool (allT ag t),[]⟩)):ak prog 104 (pfc (.lst (.st .term)) 105 38 fun l=>⟨some (∀x∈l,szT x<=n/\cK x=true),none,.bool (!l.all (allT ag)),[]⟩):=
 kj wJ fun l _ ho=>qU n l (ho _ rfl) hA
theorem Cz:aJ prog 58:=ee func58
theorem uA(n:Nat)(l:List Trm) (ho:∀x∈l,szT x<=n/\cK x=true)(hA:ak prog 38 (p1 (.st .term) fun t=>⟨some (szT t<=n/\cK t=true),none,.bool (allT ag t),[]⟩)):aF prog 58 [.lst (.st .term) l none,.fn 38 []] [] (⟨some (∀x∈l,szT x<=n/\cK x=true),none,.bool (l.all (allT ag)),[]⟩):=
 g0 (sc ((uz n hA)) sn) a0 func58 (Cf n l ho)
theorem zt(n:Nat)(hA:ak prog 38 (p1 (.st .term) fun t=>⟨some (szT t<=n/\cK t=true),none,.bool (allT ag t),[]⟩)):ak prog 58 (pf (.lst (.st .term)) 38 fun l=>⟨some (∀x∈l,szT x<=n/\cK x=true),none,.bool (l.all (allT ag)),[]⟩):=
 nQ Cz fun l _ ho=>uA n l (ho _ rfl) hA
theorem sS:aJ prog 38:=ee func38
theorem uB(n:Nat)(t:Trm)(ho:szT t<=n+1/\cK t=true)(hE:ak prog 58 (pf (.lst (.st .term)) 38 fun l=>⟨some (∀x∈l,szT x<=n/\cK x=true),none,.bool (l.all (allT ag)),[]⟩)):aF prog 38 [.st .term t] [] (⟨some (szT t<=n+1/\cK t=true),none,.bool (allT ag t),[]⟩):=
 g0 (sc Cy (sc (hE) sn)) a0 func38 (Cg n t ho)
theorem qV:∀n:Nat,ak prog 38 (p1 (.st .term) fun t=>⟨some (szT t<=n/\cK t=true),none,.bool (allT ag t),[]⟩)
 |0=>bp sS fun t _ ho=>absurd (ho _ rfl).1 (by have:=fw t;omega)
 |n+1=>bp sS fun t _ ho=>uB n t (ho _ rfl) (zt n (qV n))
theorem uC(x:Trm)(ho:cK x=true) :aF prog 21 [.st .term x] [] (⟨some (cK x=true),none,.int .i64 (cC x),[]⟩):=
 g0 (sc (qR (szT x)) (sc (qV (szT x)) sn)) a0 func21 (Ch x ho)
theorem zu:ak prog 21 (p1 (.st .term) fun t=>⟨some (cK t=true),none,.int .i64 (cC t),[]⟩):=
 bp (ee func21) fun t _ ho=>uC t (ho _ rfl)
theorem wK:aJ prog 27:=ee func27
theorem wL(n:Nat)(s:Trm)(m:Int)(hs:Wf (.st .term) s)(ho:szT s<=n+1/\0<=m/\m<=1000000)(hA:ak prog 27 (p2 (.st .term) (.int .i64) fun s m=>⟨some (szT s<=n/\0<=m/\m<=1000000),none,.int .i64 (dx s m),[]⟩)):aF prog 27 [.st .term s,.int .i64 m] [] (.ret (.int .i64 (dx s m))):=
 g0 (sc (hA) sn) ⟨[(3,fun S0=>⟨Nat×Int,fun x=>x.1<=s.parts.length/\1<=x.2/\x.2<=m+1/\sizeTL (s.parts.drop x.1) x.2 m=dx s m,fun x=>[(5,.int .i64 x.2),(6,.int .i64 x.1)],fun _=>[],fun x=>s.parts.length-x.1⟩)],[],[]⟩ func27 (EA n s m hs ho)
theorem sT:∀n:Nat,ak prog 27 (p2 (.st .term) (.int .i64) fun s m=>⟨some (szT s<=n/\0<=m/\m<=1000000),none,.int .i64 (dx s m),[]⟩):=by
 intro n
 induction n with
 |zero=>exact bR wK fun a m _ _ ho=>absurd (ho _ rfl).1 (by have:=fw a;omega)
 |succ n ih=>exact bR wK fun a m ha _ ho=>wL n a m ha (ho _ rfl) ih
theorem zw:ak prog 273 (p3 (.st .shape) (.st .shape) .bool fun a b f=>.ret (.bool (decide (f=decide (a.kind=6))))):=
 vG (ee func273) fun a b f _ _ _ _=>g0 sn a0 func273 (Ci a b f)
theorem CA:ak prog 251 (p0 ⟨none,none,.ptr 2 0,[(2,.box (.agg [.fn 273 []]))]⟩):=
 GH (ee func251) (g0 sn a0 func251 (EB))
theorem sU:ak prog 274 (p2 (.st .shape) .str fun s m=>⟨some (aj s=true),none,.pt .shape (aH s m),[]⟩):=
 bR (ee func274) fun s m hs _ ho=>g0 (sc qO sn) a0 func274 (EC s m hs (ho _ rfl))
theorem zx:ak prog 275 (yH fun m s=>⟨some (aj s=true),none,.bool (aH s m).isNone,[]⟩):=
 BR (ee func275) fun m s ho=>g0 (sc sU sn) a0 func275 (Cj m s (ho _ rfl))
theorem CB:ak prog 250 (p2 (.st .shape) (.st .shape) fun a b=>.ret (.bool (decide (aC a=0)&&decide (aC b=0)))):=
 bR (ee func250) fun a b _ _ _=>g0 (sc gL sn) a0 func250 (ED a b)
theorem EO:ak prog 227 (mm 275 fun l s=>⟨some (aj s=true),none,.int .i64 (bM (fun m=>(aH s m).isSome) l 0),[]⟩):=
 oc (ee func227) fun l s hl ho=>g0 (sc zx sn) ⟨[(2,fun S0=>⟨Nat,fun k=>k<=l.length/\bM (fun m=>(aH s m).isSome) (l.drop k) k=bM (fun m=>(aH s m).isSome) l 0,fun k=>[(8,.int .i64 k)],fun _=>[],fun k=>l.length-k⟩)],[],[]⟩ func227 (Gg l s hl (ho _ rfl))
theorem EP:ak prog 170 (mm 275 fun l s=>⟨some (aj s=true),none,.bool (!l.all (fun m=>(aH s m).isSome)),[]⟩):=
 oc (ee func170) fun l s _ ho=>g0 (sc EO sn) a0 func170 (Gh l s (ho _ rfl))
theorem wM:aJ prog 252:=ee func252
theorem wN(n:Nat)(a b:Shape)(ha:Wf (.st .shape) a)(hb:Wf (.st .shape) b)(hn:sz a+sz b<=n+1)(oa:allS aj a=true)(ob:allS aj b=true)(hA:ak prog 252 (uh 273 fun a b=>⟨some (sz a+sz b<=n/\allS aj a=true/\allS aj b=true),none,.bool (aD n a b),[]⟩)):aF prog 252 [.ptr 900 0,.st .shape a,.st .shape b] [(900,.box (.agg [.fn 273 []]))] (⟨some (sz a+sz b<=n+1/\allS aj a=true/\allS aj b=true),none,.bool (aD (n+1) a b),[]⟩):=
 g0 (sc zw (sc sU (sc EP (sc (hA) sn)))) ⟨[(7,fun S0=>⟨Nat,fun k=>k<=a.names.length/\cz (aD n) (decide (a.kind=7)) b (a.names.drop k) (a.parts.drop k)=cz (aD n) (decide (a.kind=7)) b a.names a.parts,fun k=>[(54,.int .i64 k)],fun _=>[],fun k=>a.names.length-k⟩),(17,fun S0=>⟨Nat,fun k=>k<=a.parts.length/\aD (n+1) a b=dH (aD n) (decide (a.kind=8)) (a.parts.drop k) (b.parts.drop k),fun k=>[(117,.int .i64 k)],fun _=>[],fun k=>a.parts.length-k⟩)],[],[(5,fun S0=>⟨[(42,.bool (decide (a.kind=6)||decide (a.kind=7)))],[]⟩)]⟩ func252 (EE n a b ha hb hn oa ob)
theorem sV:∀n:Nat,ak prog 252 (uh 273 fun a b=>⟨some (sz a+sz b<=n/\allS aj a=true/\allS aj b=true),none,.bool (aD n a b),[]⟩)
 |0=>sI wM fun a b ha hb ho=>absurd (dG a) (by have:=(ho _ rfl).1;omega)
 |n+1=>sI wM fun a b ha hb ho=>wN n a b ha hb (ho _ rfl).1 (ho _ rfl).2.1 (ho _ rfl).2.2 (sV n)
theorem ER:ak prog 207 (p2 (.st .shape) (.st .shape) fun a b=>.ret (.bool (fc a b))):=
 bR (ee func207) fun a b ha hb _=>g0 (sc CB (sc CA (sc (sV 800) sn))) a0 func207 (Gi a b ha hb)
theorem zy(k:Nam)(v:Shape)  :aF prog 277 [.ptr 900 0,.st .nm k,.st .shape v] [(900,.box (.agg [.nilm]))] (⟨none,none,.tup [],[(900,.box (.map 12)),(12,.map (.st .nm) (.st .shape) (eF ([]:List (Nam×Shape)) k v))]⟩):=
 g0 sn a0 func277 (Gj k v)
theorem wO:ak prog 277 (yI fun m k v=>match m with|none=>⟨none,none,.tup [],[(900,.box (.map 12)),(12,.map (.st .nm) (.st .shape) (eF ([]:List (Nam×Shape)) k v))]⟩|some m=>⟨none,none,.tup [],[(901,.map (.st .nm) (.st .shape) (eF m k v))]⟩):=
 BS (ee func277) (fun k v=>zy k v) fun m k v=>g0 sn a0 func277 (Gk m k v)
theorem zA(k:Nam)  :aF prog 276 [.ptr 900 0,.st .nm k] [(900,.box (.agg [.nilm]))] (.ret (.tup [.st .shape ((bu [] k.pkg k.name).getD al),.bool (bu [] k.pkg k.name).isSome])):=
 g0 sn a0 func276 (Gl k)
theorem wP:ak prog 276 (yJ fun m k=>.ret (.tup [.st .shape ((bu (m.getD []) k.pkg k.name).getD al),.bool (bu (m.getD []) k.pkg k.name).isSome])):=
 BT (ee func276) (fun k=>zA k) fun m k=>g0 sn a0 func276 (Gm m k)
theorem wQ(n:Nat)(s:AL.Shape)(hs:Wf (.st .shape) s)(hn:sz s<=n+1)(h4:n+1<=400)(os:allS aj s=true)(hA:ak prog 253 (mn fun m s=>⟨some (sz s<=n/\n<=400/\allS aj s=true),none,.tup [.st .shape ((fillS (bu (m.getD [])) s).getD al),.bool (fillS (bu (m.getD [])) s).isSome],[]⟩)):aF prog 253 [.st .shape s,.ptr 900 0] [(900,.box (.agg [.nilm]))] (⟨some (sz s<=(n+1)/\(n+1)<=400/\allS aj s=true),none,.tup [.st .shape ((fillS (bu []) s).getD al),.bool (fillS (bu []) s).isSome],[]⟩):=
 g0 (sc wP (sc (hA) (sc (nh) sn))) ⟨[(5,fun S0=>⟨Nat×List AL.Shape,fun x=>x.1<=s.parts.length/\x.2.length=x.1/\fillL (bu []) s.parts=(fillL (bu []) (s.parts.drop x.1)).map (x.2++ ·),fun x=>[(30,.int .i64 x.1),(6,.lst (.st .shape) x.2 (some 26))],fun x=>[(26,.tail (.st .shape) x.2.length)],fun x=>s.parts.length-x.1⟩)],[],[]⟩ func253 (EF n s hs hn h4 os)
theorem wR:aJ prog 253:=ee func253
theorem wS(n:Nat)(m:List (Nam×Shape))(s:AL.Shape)(hs:Wf (.st .shape) s)(hn:sz s<=n+1)(h4:n+1<=400)(os:allS aj s=true)(hA:ak prog 253 (mn fun m s=>⟨some (sz s<=n/\n<=400/\allS aj s=true),none,.tup [.st .shape ((fillS (bu (m.getD [])) s).getD al),.bool (fillS (bu (m.getD [])) s).isSome],[]⟩)):aF prog 253 [.st .shape s,.ptr 900 0] [(900,.box (.map 901)),(901,.map (.st .nm) (.st .shape) m)] (⟨some (sz s<=(n+1)/\(n+1)<=400/\allS aj s=true),none,.tup [.st .shape ((fillS (bu m) s).getD al),.bool (fillS (bu m) s).isSome],[]⟩):=
 g0 (sc wP (sc (hA) (sc (nh) sn))) ⟨[(5,fun S0=>⟨Nat×List AL.Shape,fun x=>x.1<=s.parts.length/\x.2.length=x.1/\fillL (bu m) s.parts=(fillL (bu m) (s.parts.drop x.1)).map (x.2++ ·),fun x=>[(30,.int .i64 x.1),(6,.lst (.st .shape) x.2 (some 26))],fun x=>[(26,.tail (.st .shape) x.2.length)],fun x=>s.parts.length-x.1⟩)],[],[]⟩ func253 (EG n m s hs hn h4 os)
theorem kR:∀n:Nat,ak prog 253 (mn fun m s=>⟨some (sz s<=n/\n<=400/\allS aj s=true),none,.tup [.st .shape ((fillS (bu (m.getD [])) s).getD al),.bool (fillS (bu (m.getD [])) s).isSome],[]⟩)
 |0=>qw wR (fun s hs ho=>absurd (dG s) (by have:=(ho _ rfl).1;omega)) (fun m s hs ho=>absurd (dG s) (by have:=(ho _ rfl).1;omega))
 |n+1=>qw wR (fun s hs ho=>wQ n s hs (ho _ rfl).1 (ho _ rfl).2.1 (ho _ rfl).2.2 (kR n)) (fun m s hs ho=>wS n m s hs (ho _ rfl).1 (ho _ rfl).2.1 (ho _ rfl).2.2 (kR n))
theorem uD   :aF prog 254 [.lst (.st .bind) [] none] [] (⟨none,none,.ptr 7 0,[(7,.box (.agg [.nilm]))]⟩):=
 g0 (sc wO sn) ⟨[(3,fun S0=>⟨Nat,fun _=>True,fun _=>[(10,.int .i64 0)],fun _=>[],fun _=>0⟩)],[],[]⟩ func254 (Ck)
theorem qW:ak prog 254 (qx ⟨none,none,.ptr 7 0,[(7,.box (.agg [.nilm]))]⟩ fun b r=>⟨none,none,.ptr 7 0,[(7,.box (.map 701)),(701,.map (.st .nm) (.st .shape) (iz (b::r)))]⟩):=
 vV (ee func254) uD fun b r hl=>g0 (sc wO sn) ⟨[(3,fun S0=>⟨Nat×List (Nam×Shape),fun x=>x.1<=(b::r).length/\od ((b::r).drop x.1) x.2=iz (b::r),fun x=>[(10,.int .i64 x.1)],fun x=>[(7,.box (.map 701)),(701,.map (.st .nm) (.st .shape) x.2)],fun x=>(b::r).length-x.1⟩)],[(200003,[1,13022,701])],[]⟩ func254 (Cl b r hl)
theorem qX(s:AL.Shape)(hs:Wf (.st .shape) s) :aF prog 208 [.st .shape s,.lst (.st .bind) [] none] [] (.ret (.tup [.st .shape (aq s []).1,.int .i64 (aq s []).2])):=
 g0 (sc gL (sc qW (sc (kR 400) (sc kA sn)))) a0 func208 (wo s hs)
theorem wT:ak prog 208 (p2 (.st .shape) (.lst (.st .bind)) fun s l=>.ret (.tup [.st .shape (aq s l).1,.int .i64 (aq s l).2])):=
 bR (ee func208) fun s l hs hl _=>match l,hl with|[],_=>qX s hs|b::r,hl=>g0 (sc gL (sc qW (sc (kR 400) (sc kA sn)))) a0 func208 (ze s b r hs hl)
theorem uE:ak prog 53 (p1 (.int .i64) fun k=>.ret (.st .shape (ofK k))):=
 bp (ee func53) fun k _ _=>g0 sn a0 func53 (Hg k)
theorem ek:ak prog 29 (p2 (.int .i64) (.int .i64) fun e a=>.ret (.agg [.int .i64 e,.int .i64 a])):=
 bR (ee func29) fun e a _ _ _=>g0 sn a0 func29 (Cm e a)
theorem CC:ak prog 77 (p3 (.lst (.st .bind)) .str .str fun l o m=>.ret (.tup [.st .shape ((az l o m).elim al aM),.bool (az l o m).isSome])):=
 vG (ee func77) fun l o m hl _ _ _=>g0 (sc kA sn) ⟨[(2,fun S0=>⟨Nat,fun k=>k<=l.length/\az l o m=az (l.take k) o m,fun k=>[(8,.int .i64 ((k:Int)-1))],fun _=>[],fun k=>k⟩)],[],[]⟩ func77 (EH l o m hl)
theorem sW:aJ prog 30:=ee func30
theorem uF(n:Nat)(t:Trm)(e:Envt)(ht:Wf (.st .term) t)(he:Wf (.st .env) e)(hz:szT t<=n+1)(hf:allT ag t=true)(hv:e.values.length+4096 *szT t<=100000000)(hP:ak prog 49 (p2 (.st .term) (.st .env) fun t e=>⟨some (szT t<=n+1/\allT ag t=true/\e.values.length+4096 *szT t<=100000000),none,.tup [.st .shape (ax (aa n) t e).1,.agg [.int .i64 (ax (aa n) t e).2.err,.int .i64 (ax (aa n) t e).2.pos]],[]⟩)):aF prog 30 [.st .term t,.st .env e] [] (⟨some (szT t<=n+1/\allT ag t=true/\e.values.length+4096 *szT t<=100000000),none,.tup [.st .shape (aa (n+1) t e).1,.agg [.int .i64 (aa (n+1) t e).2.err,.int .i64 (aa (n+1) t e).2.pos]],[]⟩):=
 g0 (sc (hP) (sc gL (sc kA (sc ek sn)))) a0 func30 (Cn n t e ht he hz hf hv)
theorem ES:aJ prog 144:=ee func144
theorem wU(n:Nat)(t:Trm)(w:Shape)(e:Envt)(ht:Wf (.st .term) t)(hw:Wf (.st .shape) w)(he:Wf (.st .env) e)(hz:szT t<=n)(hf:allT ag t=true)(hv:e.values.length+4096 *szT t<=100000000)(hA:ak prog 30 (p2 (.st .term) (.st .env) fun t e=>⟨some (szT t<=n/\allT ag t=true/\e.values.length+4096 *szT t<=100000000),none,.tup [.st .shape (aa n t e).1,.agg [.int .i64 (aa n t e).2.err,.int .i64 (aa n t e).2.pos]],[]⟩)):aF prog 144 [.st .term t,.st .shape w,.st .env e] [] (⟨some (szT t<=n/\allT ag t=true/\e.values.length+4096 *szT t<=100000000),none,.agg [.int .i64 (au (aa n) t w e).err,.int .i64 (au (aa n) t w e).pos],[]⟩):=
 g0 (sc (hA) (sc ER (sc ek sn))) a0 func144 (EI n t w e ht hw he hz hf hv)
theorem CD(n:Nat)(hA:ak prog 30 (p2 (.st .term) (.st .env) fun t e=>⟨some (szT t<=n/\allT ag t=true/\e.values.length+4096 *szT t<=100000000),none,.tup [.st .shape (aa n t e).1,.agg [.int .i64 (aa n t e).2.err,.int .i64 (aa n t e).2.pos]],[]⟩)):ak prog 144 (p3 (.st .term) (.st .shape) (.st .env) fun t w e=>⟨some (szT t<=n/\allT ag t=true/\e.values.length+4096 *szT t<=100000000),none,.agg [.int .i64 (au (aa n) t w e).err,.int .i64 (au (aa n) t w e).pos],[]⟩):=
 vG ES fun t w e ht hw he ho=>wU n t w e ht hw he (ho _ rfl).1 (ho _ rfl).2.1 (ho _ rfl).2.2 hA
theorem CE:aJ prog 79:=ee func79
theorem uG(n:Nat)(t:Trm)(e:Envt)(ht:Wf (.st .term) t)(he:Wf (.st .env) e)(hp:0<t.parts.length)(hz:szT t<=n+1)(hf:allT ag t=true)(hv:e.values.length+4096 *szT t<=100000000)(hA:ak prog 30 (p2 (.st .term) (.st .env) fun t e=>⟨some (szT t<=n/\allT ag t=true/\e.values.length+4096 *szT t<=100000000),none,.tup [.st .shape (aa n t e).1,.agg [.int .i64 (aa n t e).2.err,.int .i64 (aa n t e).2.pos]],[]⟩)):aF prog 79 [.st .term t,.st .env e] [] (⟨some (0<t.parts.length/\szT t<=n+1/\allT ag t=true/\e.values.length+4096 *szT t<=100000000),none,.tup [.st .shape (cw (aa n) t e).1,.agg [.int .i64 (cw (aa n) t e).2.err,.int .i64 (cw (aa n) t e).2.pos]],[]⟩):=
 g0 (sc (hA) (sc qO (sc ek sn))) a0 func79 (Co n t e ht he hp hz hf hv)
theorem zB(n:Nat)(hA:ak prog 30 (p2 (.st .term) (.st .env) fun t e=>⟨some (szT t<=n/\allT ag t=true/\e.values.length+4096 *szT t<=100000000),none,.tup [.st .shape (aa n t e).1,.agg [.int .i64 (aa n t e).2.err,.int .i64 (aa n t e).2.pos]],[]⟩)):ak prog 79 (p2 (.st .term) (.st .env) fun t e=>⟨some (0<t.parts.length/\szT t<=n+1/\allT ag t=true/\e.values.length+4096 *szT t<=100000000),none,.tup [.st .shape (cw (aa n) t e).1,.agg [.int .i64 (cw (aa n) t e).2.err,.int .i64 (cw (aa n) t e).2.pos]],[]⟩):=
 bR CE fun t e ht he ho=>uG n t e ht he (ho _ rfl).1 (ho _ rfl).2.1 (ho _ rfl).2.2.1 (ho _ rfl).2.2.2 hA
theorem zC:ak prog 146 (p2 (.st .term) (.st .env) fun t e=>⟨some (t.shapes.length<=1000000),none,.tup [.lst (.st .shape) (ae e.types t.pos t.shapes).1 (some 702),.agg [.int .i64 (ae e.types t.pos t.shapes).2.err,.int .i64 (ae e.types t.pos t.shapes).2.pos]],[(702,.tail (.st .shape) (ae e.types t.pos t.shapes).1.length)]⟩):=
 bR (ee func146) fun t e ht he ho=>g0 (sc wT (sc ek sn)) ⟨[(3,fun S0=>⟨Nat×List AL.Shape,fun x=>x.1<=t.shapes.length/\x.2.length=x.1/\((ae e.types t.pos (t.shapes.drop x.1)).2.err=0->ae e.types t.pos t.shapes=(x.2++(ae e.types t.pos (t.shapes.drop x.1)).1,cb))/\(¬(ae e.types t.pos (t.shapes.drop x.1)).2.err=0->ae e.types t.pos t.shapes=ae e.types t.pos (t.shapes.drop x.1)),fun x=>[(14,.int .i64 x.1),(6,.lst (.st .shape) x.2 (some 701))],fun x=>[(701,.tail (.st .shape) x.2.length)],fun x=>t.shapes.length-x.1⟩)],[(300010,[701,702])],[]⟩ func146 (Cp t e ht he (ho _ rfl))
theorem ET:aJ prog 78:=ee func78
theorem wV(n:Nat)(t:Trm)(e:Envt)(ht:Wf (.st .term) t)(he:Wf (.st .env) e)(hp:0<t.parts.length)(hz:szT t<=n+1)(hf:allT ag t=true)(hv:e.values.length+4096 *szT t<=100000000)(hA:ak prog 30 (p2 (.st .term) (.st .env) fun t e=>⟨some (szT t<=n/\allT ag t=true/\e.values.length+4096 *szT t<=100000000),none,.tup [.st .shape (aa n t e).1,.agg [.int .i64 (aa n t e).2.err,.int .i64 (aa n t e).2.pos]],[]⟩))(hF:ak prog 144 (p3 (.st .term) (.st .shape) (.st .env) fun t w e=>⟨some (szT t<=n/\allT ag t=true/\e.values.length+4096 *szT t<=100000000),none,.agg [.int .i64 (au (aa n) t w e).err,.int .i64 (au (aa n) t w e).pos],[]⟩)):aF prog 78 [.st .term t,.st .env e] [] (⟨some (0<t.parts.length/\szT t<=n+1/\allT ag t=true/\e.values.length+4096 *szT t<=100000000),none,.tup [.st .shape (aR (aa n) t e).1,.agg [.int .i64 (aR (aa n) t e).2.err,.int .i64 (aR (aa n) t e).2.pos]],[]⟩):=
 g0 (sc (hA) (sc (hF) (sc uE (sc ek sn)))) ⟨[(8,fun S0=>⟨Nat,fun k=>k+1<=t.parts.length/\((aa n (t.parts.getD 0 ao) e).1.kind=4->b6 (aa n) e (ofK 4) (t.parts.drop 1)=b6 (aa n) e (ofK 4) (t.parts.drop (k+1)))/\(¬(aa n (t.parts.getD 0 ao) e).1.kind=4->cv (aa n) e (t.parts.drop 1) (aa n (t.parts.getD 0 ao) e).1.parts=cv (aa n) e (t.parts.drop (k+1)) ((aa n (t.parts.getD 0 ao) e).1.parts.drop k)),fun k=>[(54,.int .i64 k)],fun _=>[],fun k=>t.parts.length-k⟩)],[],[(5,fun S0=>⟨[(45,.bool (!decide ((aa n (t.parts.getD 0 ao) e).1.kind=4)&&(!decide ((aa n (t.parts.getD 0 ao) e).1.kind=8)||!decide ((aa n (t.parts.getD 0 ao) e).1.parts.length=t.parts.length))))],[]⟩)]⟩ func78 (EJ n t e ht he hp hz hf hv)
theorem CF(n:Nat)(hA:ak prog 30 (p2 (.st .term) (.st .env) fun t e=>⟨some (szT t<=n/\allT ag t=true/\e.values.length+4096 *szT t<=100000000),none,.tup [.st .shape (aa n t e).1,.agg [.int .i64 (aa n t e).2.err,.int .i64 (aa n t e).2.pos]],[]⟩))(hF:ak prog 144 (p3 (.st .term) (.st .shape) (.st .env) fun t w e=>⟨some (szT t<=n/\allT ag t=true/\e.values.length+4096 *szT t<=100000000),none,.agg [.int .i64 (au (aa n) t w e).err,.int .i64 (au (aa n) t w e).pos],[]⟩)):ak prog 78 (p2 (.st .term) (.st .env) fun t e=>⟨some (0<t.parts.length/\szT t<=n+1/\allT ag t=true/\e.values.length+4096 *szT t<=100000000),none,.tup [.st .shape (aR (aa n) t e).1,.agg [.int .i64 (aR (aa n) t e).2.err,.int .i64 (aR (aa n) t e).2.pos]],[]⟩):=
 bR ET fun t e ht he ho=>wV n t e ht he (ho _ rfl).1 (ho _ rfl).2.1 (ho _ rfl).2.2.1 (ho _ rfl).2.2.2 hA hF
theorem Gq:aJ prog 80:=ee func80
theorem zD(n:Nat)(t:Trm)(e:Envt)(ht:Wf (.st .term) t)(he:Wf (.st .env) e)(hp:0<t.parts.length)(hz:szT t<=n+1)(hf:allT ag t=true)(hv:e.values.length+4096 *szT t<=100000000)(hF:ak prog 144 (p3 (.st .term) (.st .shape) (.st .env) fun t w e=>⟨some (szT t<=n/\allT ag t=true/\e.values.length+4096 *szT t<=100000000),none,.agg [.int .i64 (au (aa n) t w e).err,.int .i64 (au (aa n) t w e).pos],[]⟩)):aF prog 80 [.st .term t,.st .env e] [] (⟨some (0<t.parts.length/\szT t<=n+1/\allT ag t=true/\e.values.length+4096 *szT t<=100000000),none,.tup [.st .shape (dq (aa n) t e).1,.agg [.int .i64 (dq (aa n) t e).2.err,.int .i64 (dq (aa n) t e).2.pos]],[]⟩):=
 g0 (sc (hF) (sc kA (sc ek sn))) ⟨[(4,fun S0=>⟨Nat×Option Shape,fun x=>x.1<=e.own.length/\(x.2=none->ck e.own t.name=ck (e.own.take x.1) t.name)/\(∀s,x.2=some s->ck e.own t.name=some s),fun x=>[(8,.int .i64 ((x.1:Int)-1)),(7,.bool x.2.isSome)],fun x=>[(6,.box (.st .shape (x.2.elim al aM)))],fun x=>x.1⟩)],[],[]⟩ func80 (Gn n t e ht he hp hz hf hv)
theorem EU(n:Nat)(hF:ak prog 144 (p3 (.st .term) (.st .shape) (.st .env) fun t w e=>⟨some (szT t<=n/\allT ag t=true/\e.values.length+4096 *szT t<=100000000),none,.agg [.int .i64 (au (aa n) t w e).err,.int .i64 (au (aa n) t w e).pos],[]⟩)):ak prog 80 (p2 (.st .term) (.st .env) fun t e=>⟨some (0<t.parts.length/\szT t<=n+1/\allT ag t=true/\e.values.length+4096 *szT t<=100000000),none,.tup [.st .shape (dq (aa n) t e).1,.agg [.int .i64 (dq (aa n) t e).2.err,.int .i64 (dq (aa n) t e).2.pos]],[]⟩):=
 bR Gq fun t e ht he ho=>zD n t e ht he (ho _ rfl).1 (ho _ rfl).2.1 (ho _ rfl).2.2.1 (ho _ rfl).2.2.2 hF
theorem CG:aJ prog 81:=ee func81
theorem uH(n:Nat)(t:Trm)(e:Envt)(ht:Wf (.st .term) t)(he:Wf (.st .env) e)(hk:t.kind=6∨t.kind=11∨t.kind=12∨t.kind=13∨t.kind=15)(hz:szT t<=n+1)(hf:allT ag t=true)(hv:e.values.length+4096 *szT t<=100000000)(hA:ak prog 30 (p2 (.st .term) (.st .env) fun t e=>⟨some (szT t<=n/\allT ag t=true/\e.values.length+4096 *szT t<=100000000),none,.tup [.st .shape (aa n t e).1,.agg [.int .i64 (aa n t e).2.err,.int .i64 (aa n t e).2.pos]],[]⟩))(hF:ak prog 144 (p3 (.st .term) (.st .shape) (.st .env) fun t w e=>⟨some (szT t<=n/\allT ag t=true/\e.values.length+4096 *szT t<=100000000),none,.agg [.int .i64 (au (aa n) t w e).err,.int .i64 (au (aa n) t w e).pos],[]⟩)):aF prog 81 [.st .term t,.st .env e] [] (⟨some ((t.kind=6∨t.kind=11∨t.kind=12∨t.kind=13∨t.kind=15)/\szT t<=n+1/\allT ag t=true/\e.values.length+4096 *szT t<=100000000),none,.tup [.st .shape (ar (aa n) t e).1,.agg [.int .i64 (ar (aa n) t e).2.err,.int .i64 (ar (aa n) t e).2.pos]],[]⟩):=
 g0 (sc (hA) (sc (hF) (sc zC (sc uE (sc wy sn))))) ⟨[(8,fun S0=>⟨Nat×Envt,fun x=>x.1<=t.names.length/\x.2.values.length=e.values.length+x.1/\bk x.2 (cD (t.names.drop x.1) ((ae e.types t.pos t.shapes).1.drop x.1))=bk e (cD t.names (ae e.types t.pos t.shapes).1),fun x=>[(42,.int .i64 x.1)],fun x=>[(3,.box (.st .env x.2))],fun x=>t.names.length-x.1⟩),(16,fun S0=>⟨Nat,fun k=>k<=t.parts.length/\b6 (aa n) e ((ae e.types t.pos t.shapes).1.getD 0 al) (t.parts.drop k)=b6 (aa n) e ((ae e.types t.pos t.shapes).1.getD 0 al) t.parts,fun k=>[(77,.int .i64 k)],fun _=>[],fun k=>t.parts.length-k⟩),(37,fun S0=>⟨Nat×Flt,fun x=>x.1+1<=t.parts.length/\x.2.err=0/\x.2.pos=0/\fe (aa n) e ((ae e.types t.pos t.shapes).1.getD ((ae e.types t.pos t.shapes).1.length-1) al) (t.parts.drop (x.1+1)) (t.vars.drop x.1) ((ae e.types t.pos t.shapes).1.drop x.1)=fe (aa n) e ((ae e.types t.pos t.shapes).1.getD ((ae e.types t.pos t.shapes).1.length-1) al) (t.parts.drop 1) t.vars (ae e.types t.pos t.shapes).1,fun x=>[(180,.int .i64 x.1)],fun x=>[(7,.box (.agg [.int .i64 x.2.err,.int .i64 x.2.pos]))],fun x=>t.parts.length-x.1⟩)],[],[]⟩ func81 (Cq n t e ht he hk hz hf hv)
theorem zE(n:Nat)(hA:ak prog 30 (p2 (.st .term) (.st .env) fun t e=>⟨some (szT t<=n/\allT ag t=true/\e.values.length+4096 *szT t<=100000000),none,.tup [.st .shape (aa n t e).1,.agg [.int .i64 (aa n t e).2.err,.int .i64 (aa n t e).2.pos]],[]⟩))(hF:ak prog 144 (p3 (.st .term) (.st .shape) (.st .env) fun t w e=>⟨some (szT t<=n/\allT ag t=true/\e.values.length+4096 *szT t<=100000000),none,.agg [.int .i64 (au (aa n) t w e).err,.int .i64 (au (aa n) t w e).pos],[]⟩)):ak prog 81 (p2 (.st .term) (.st .env) fun t e=>⟨some ((t.kind=6∨t.kind=11∨t.kind=12∨t.kind=13∨t.kind=15)/\szT t<=n+1/\allT ag t=true/\e.values.length+4096 *szT t<=100000000),none,.tup [.st .shape (ar (aa n) t e).1,.agg [.int .i64 (ar (aa n) t e).2.err,.int .i64 (ar (aa n) t e).2.pos]],[]⟩):=
 bR CG fun t e ht he ho=>uH n t e ht he (ho _ rfl).1 (ho _ rfl).2.1 (ho _ rfl).2.2.1 (ho _ rfl).2.2.2 hA hF
theorem CH:aJ prog 49:=ee func49
theorem uI(n:Nat)(t:Trm)(e:Envt)(ht:Wf (.st .term) t)(he:Wf (.st .env) e)(hz:szT t<=n+1)(hf:allT ag t=true)(hv:e.values.length+4096 *szT t<=100000000)(hA:ak prog 30 (p2 (.st .term) (.st .env) fun t e=>⟨some (szT t<=n/\allT ag t=true/\e.values.length+4096 *szT t<=100000000),none,.tup [.st .shape (aa n t e).1,.agg [.int .i64 (aa n t e).2.err,.int .i64 (aa n t e).2.pos]],[]⟩))(hF:ak prog 144 (p3 (.st .term) (.st .shape) (.st .env) fun t w e=>⟨some (szT t<=n/\allT ag t=true/\e.values.length+4096 *szT t<=100000000),none,.agg [.int .i64 (au (aa n) t w e).err,.int .i64 (au (aa n) t w e).pos],[]⟩)):aF prog 49 [.st .term t,.st .env e] [] (⟨some (szT t<=n+1/\allT ag t=true/\e.values.length+4096 *szT t<=100000000),none,.tup [.st .shape (ax (aa n) t e).1,.agg [.int .i64 (ax (aa n) t e).2.err,.int .i64 (ax (aa n) t e).2.pos]],[]⟩):=
 g0 (sc (hA) (sc uE (sc ek (sc CC (sc wy (sc ((CF n hA hF)) (sc ((zB n hA)) (sc ((EU n hF)) (sc ((zE n hA hF)) sn))))))))) ⟨[(19,fun S0=>⟨Nat×List AL.Shape,fun x=>x.1<=t.parts.length/\x.2.length=x.1/\aN (aa n) e t.parts=(x.2++(aN (aa n) e (t.parts.drop x.1)).1,(aN (aa n) e (t.parts.drop x.1)).2),fun x=>[(67,.int .i64 x.1)],fun x=>[(8,.box (.agg [.int .i64 6,.str [],.str [],.lst .str t.names none,.lst (.st .shape) x.2 (some 701)])),(701,.tail (.st .shape) x.2.length)],fun x=>t.parts.length-x.1⟩)],[],[(7,fun S0=>⟨[(27,.bool (decide (t.kind=3)||decide (t.kind=4)))],[]⟩)]⟩ func49 (Cr n t e ht he hz hf hv)
theorem sX:∀n:Nat,ak prog 30 (p2 (.st .term) (.st .env) fun t e=>⟨some (szT t<=n/\allT ag t=true/\e.values.length+4096 *szT t<=100000000),none,.tup [.st .shape (aa n t e).1,.agg [.int .i64 (aa n t e).2.err,.int .i64 (aa n t e).2.pos]],[]⟩)
 |0=>bR sW fun t e ht he ho=>absurd (fw t) (by have:=(ho _ rfl).1;omega)
 |n+1=>
  have hA:=sX n;have hF:=CD n hA
  bR sW fun t e ht he ho=>uF n t e ht he (ho _ rfl).1 (ho _ rfl).2.1 (ho _ rfl).2.2 (bR CH fun t e ht he ho=>uI n t e ht he (ho _ rfl).1 (ho _ rfl).2.1 (ho _ rfl).2.2 hA hF)
theorem CI:ak prog 12 (p2 (.st .term) (.st .env) fun t e=>⟨some (cK t=true/\e.values.length<=1000000),none,.tup [.st .shape (bQ t e).1,.agg [.int .i64 (bQ t e).2.err,.int .i64 (bQ t e).2.pos]],[]⟩):=
 bR (ee func12) fun t e ht he ho=>g0 (sc zu (sc ek (sc ((sX (szT t))) sn))) a0 func12 (EK t e ht he (ho _ rfl))
theorem wW:ak prog 10 (p1 (.st .term) fun t=>.ret (.bool (decide (dx t 300<=300)))):=
 bp (ee func10) fun t ht _=>g0 (sc (sT (szT t)) sn) a0 func10 (zf t ht)
end Go.AL.Seat
end
section
open Go Go.AL Go.Pd
namespace Go.AL.Seat
theorem CJ(c:Int)  :
  if decide ((97:Int)<=c)=true then True/\decide (c<=(122:Int))=cd c/\True else True/\false=cd c/\True:=by
 simp only[true_and,and_true];unfold cd;by_cases h:(97:Int)<=c
 ·rw[if_pos (Xd h)];simp[h]
 ·rw[if_neg (by simpa using h)];simp[h]
theorem CK(c:Int)  :
  if decide ((65:Int)<=c)=true then True/\decide (c<=(90:Int))=cr c/\True else True/\false=cr c/\True:=by
 simp only[true_and,and_true];unfold cr;by_cases h:(65:Int)<=c
 ·rw[if_pos (Xd h)];simp[h]
 ·rw[if_neg (by simpa using h)];simp[h]
theorem CL(c:Int)  :
  if decide ((48:Int)<=c)=true then True/\decide (c<=(57:Int))=fv c/\True else True/\false=fv c/\True:=by
 simp only[true_and,and_true];unfold fv;by_cases h:(48:Int)<=c
 ·rw[if_pos (Xd h)];simp[h]
 ·rw[if_neg (by simpa using h)];simp[h]
theorem EV(s:Str)(hs:Wf .str s) :
  (∃(x:Nat),(x<=List.length s/\de s=x+de (List.drop x s))/\(0:Int)=(↑x:Int)/\s=s/\(0:Int)=(0:Int)/\True)/\∀(x:Nat),x<=List.length s/\de s=x+de (List.drop x s)->if decide ((↑x:Int)<(↑(List.length s):Int))=true then((0:Int)<=(↑x:Int)/\(↑x:Int)<(↑(List.length s):Int))/\if cd (↑(UInt8.toNat (List.getD s (Int.toNat (↑x:Int)) (0:UInt8))):Int)=true then inR IntKind.i64 ((↑x:Int)+(1:Int))/\∃(y:Nat),(y<=List.length s/\de s=y+de (List.drop y s))/\List.length s-y<List.length s-x/\(↑x:Int)+(1:Int)=(↑y:Int)/\s=s/\(0:Int)=(0:Int)/\True else((0:Int)<=(↑x:Int)/\(↑x:Int)<(↑(List.length s):Int))/\if cr (↑(UInt8.toNat (List.getD s (Int.toNat (↑x:Int)) (0:UInt8))):Int)=true then inR IntKind.i64 ((↑x:Int)+(1:Int))/\∃(y:Nat),(y<=List.length s/\de s=y+de (List.drop y s))/\List.length s-y<List.length s-x/\(↑x:Int)+(1:Int)=(↑y:Int)/\s=s/\(0:Int)=(0:Int)/\True else((0:Int)<=(↑x:Int)/\(↑x:Int)<(↑(List.length s):Int))/\if fv (↑(UInt8.toNat (List.getD s (Int.toNat (↑x:Int)) (0:UInt8))):Int)=true then inR IntKind.i64 ((↑x:Int)+(1:Int))/\∃(y:Nat),(y<=List.length s/\de s=y+de (List.drop y s))/\List.length s-y<List.length s-x/\(↑x:Int)+(1:Int)=(↑y:Int)/\s=s/\(0:Int)=(0:Int)/\True else((0:Int)<=(↑x:Int)/\(↑x:Int)<(↑(List.length s):Int))/\if decide ((↑(UInt8.toNat (List.getD s (Int.toNat (↑x:Int)) (0:UInt8))):Int)=(95:Int))=true then inR IntKind.i64 ((↑x:Int)+(1:Int))/\∃(y:Nat),(y<=List.length s/\de s=y+de (List.drop y s))/\List.length s-y<List.length s-x/\(↑x:Int)+(1:Int)=(↑y:Int)/\s=s/\(0:Int)=(0:Int)/\True else True/\(↑x:Int)=(↑(de s):Int)/\True else True/\(↑x:Int)=(↑(de s):Int)/\True:=by
 have ln:=hs.str;have eb:∀b:UInt8,(b.toNat:Int)=bI b:=fun _=>rfl;simp only[Int.toNat_natCast,eq_self,true_and,and_true,eb];refine⟨⟨0,⟨Nat.zero_le _,by simp⟩,rfl⟩,?_⟩;rintro k ⟨h1,h2⟩;refine ab (fun h=>?_) (fun h=>?_)
 ·replace h:=Xo h;have hk:k<s.length:=by omega
  rw[aA s k 0 hk]at h2;simp only[de]at h2;have fin:dT (bI (s.getD k 0))=true->(inR IntKind.i64 ((k:Int)+1)/\∃y:Nat,(y<=s.length/\de s=y+de (s.drop y))/\s.length-y<s.length-k/\(k:Int)+1=(y:Int)):=by intro e;rw[if_pos e]at h2;exact⟨aL hk ln,k+1,⟨by omega,by omega⟩,by omega,by omega⟩
  have hr:dT (bI (s.getD k 0))=(cd (bI (s.getD k 0))||cr (bI (s.getD k 0))||fv (bI (s.getD k 0))||decide (bI (s.getD k 0)=95)):=rfl;refine⟨by omega,ab (fun a=>fin (by rw[hr,a];simp)) (fun a=>⟨by omega,ab (fun b=>fin (by rw[hr,b];simp)) (fun b=>⟨by omega,ab (fun c=>fin (by rw[hr,c];simp)) (fun c=>⟨by omega,ab (fun d=>fin (by rw[hr,d];simp)) (fun d=>?_)⟩)⟩)⟩)⟩;rw[if_neg ?_]at h2
  ·omega
  ·rw[hr];simp only[Bool.not_eq_true]at a b c d;rw[a,b,c,d];simp
 ·replace h:¬((k:Int)<(s.length:Int)):=fun e=>h (Xd e);have e:k=s.length:=by omega
  subst e;rw[List.drop_length]at h2;simp only[de]at h2;omega
theorem EW(s:Str)(l:List Str)(hl:Wf (.lst .str) l) :
  (∃(x:Nat),(x<=List.length l/\decide (s∈l)=decide (s∈List.drop x l))/\(0:Int)=(↑x:Int)/\s=s/\l=l/\True)/\∀(x:Nat),x<=List.length l/\decide (s∈l)=decide (s∈List.drop x l)->if decide ((↑x:Int)<(↑(List.length l):Int))=true then((0:Int)<=(↑x:Int)/\(↑x:Int)<(↑(List.length l):Int))/\if decide (s=List.getD l (Int.toNat (↑x:Int)) (dfl Ty.str))=true then True/\true=decide (s∈l)/\True else inR IntKind.i64 ((↑x:Int)+(1:Int))/\∃(y:Nat),(y<=List.length l/\decide (s∈l)=decide (s∈List.drop y l))/\List.length l-y<List.length l-x/\(↑x:Int)+(1:Int)=(↑y:Int)/\s=s/\l=l/\True else True/\false=decide (s∈l)/\True:=by
 have ln:=hl.len;simp only[Int.toNat_natCast,eq_self,true_and,and_true];refine⟨⟨0,⟨Nat.zero_le _,by simp⟩,rfl⟩,?_⟩;rintro k ⟨h1,h2⟩;refine ab (fun h=>?_) (fun h=>?_)
 ·replace h:=Xo h;have hk:k<l.length:=by omega
  rw[aA l k (dfl .str) hk]at h2;refine⟨by omega,ab (fun a=>?_) (fun a=>?_)⟩
  ·rw[h2,Xo a];simp
  ·refine⟨aL hk ln,k+1,⟨by omega,?_⟩,by omega,by omega⟩;rw[h2,decide_eq_decide,List.mem_cons];constructor
   ·rintro(h|h)
    ·exact absurd (Xd h) a
    ·exact h
   ·exact Or.inr
 ·replace h:¬((k:Int)<(l.length:Int)):=fun e=>h (Xd e);have e:k=l.length:=by omega
  subst e;rw[h2,List.drop_length];simp
theorem EX(s:Str)  :
  True/\decide (s∈[[(109:UInt8),(111:UInt8),(100:UInt8),(117:UInt8),(108:UInt8),(101:UInt8)],[(105:UInt8),(109:UInt8),(112:UInt8),(111:UInt8),(114:UInt8),(116:UInt8)],[(112:UInt8),(105:UInt8),(110:UInt8)],[(114:UInt8),(97:UInt8),(110:UInt8),(103:UInt8),(101:UInt8)],[(116:UInt8),(121:UInt8),(112:UInt8),(101:UInt8)],[(111:UInt8),(112:UInt8),(97:UInt8),(113:UInt8),(117:UInt8),(101:UInt8)],[(108:UInt8),(101:UInt8),(116:UInt8)],[(105:UInt8),(110:UInt8)],[(101:UInt8),(120:UInt8),(112:UInt8),(111:UInt8),(114:UInt8),(116:UInt8)],[(102:UInt8),(117:UInt8),(110:UInt8)],[(105:UInt8),(102:UInt8)],[(116:UInt8),(104:UInt8),(101:UInt8),(110:UInt8)],[(101:UInt8),(108:UInt8),(115:UInt8),(101:UInt8)],[(99:UInt8),(97:UInt8),(115:UInt8),(101:UInt8)],[(111:UInt8),(102:UInt8)],[(97:UInt8),(115:UInt8)],[(110:UInt8),(101:UInt8),(119:UInt8)],[(114:UInt8),(97:UInt8),(119:UInt8)],[(116:UInt8),(114:UInt8),(117:UInt8),(101:UInt8)],[(102:UInt8),(97:UInt8),(108:UInt8),(115:UInt8),(101:UInt8)]])=dA s/\True:=by
 exact⟨trivial,rfl,trivial⟩
theorem EY(s:Str)  :
  if(!decide (s=[]))=true then if decide ((↑(List.length s):Int)<=(24:Int))=true then((0:Int)<=(0:Int)/\(0:Int)<(↑(List.length s):Int))/\if cd (↑(UInt8.toNat (List.getD s (Int.toNat (0:Int)) (0:UInt8))):Int)=true then if decide ((↑(de s):Int)=(↑(List.length s):Int))=true then True/\(!dA s)=aI s/\True else True/\false=aI s/\True else True/\false=aI s/\True else True/\false=aI s/\True else True/\false=aI s/\True:=by
 have eb:∀b:UInt8,(b.toNat:Int)=bI b:=fun _=>rfl;simp only[Int.toNat_natCast,Int.toNat_zero,eq_self,true_and,and_true,eb];have hF:aI s=(!decide (s=[])&&decide (s.length<=24)&&cd (bI (s.getD 0 0))&&decide (de s=s.length)&&!dA s):=by unfold aI;rw[nZ]
 refine ab (fun a=>?_) (fun a=>?_)
 ·have a':decide (s=[])=false:=by simpa using a
  have hpos:0<s.length:=List.length_pos_iff.2 (of_decide_eq_false a');refine ab (fun b=>?_) (fun b=>?_)
  ·have b':s.length<=24:=by have:=Xo b;omega
   refine⟨by omega,ab (fun c=>?_) (fun c=>?_)⟩
   ·refine ab (fun d=>?_) (fun d=>?_)
    ·have d':de s=s.length:=by have:=Xo d;omega
     rw[hF,a',c,d'];simp[b']
    ·have d':¬de s=s.length:=fun e=>d (Xd (by omega));rw[hF];simp[d']
   ·simp only[Bool.not_eq_true]at c;rw[hF,c];simp
  ·have b':¬s.length<=24:=fun e=>b (Xd (by omega));rw[hF];simp[b']
 ·have a':decide (s=[])=true:=by simpa using a
  rw[hF,a'];simp
theorem CM(s:Str)  :
  if(!decide (s=[]))=true then if decide ((↑(List.length s):Int)<=(24:Int))=true then((0:Int)<=(0:Int)/\(0:Int)<(↑(List.length s):Int))/\if cr (↑(UInt8.toNat (List.getD s (Int.toNat (0:Int)) (0:UInt8))):Int)=true then True/\decide ((↑(de s):Int)=(↑(List.length s):Int))=aY s/\True else True/\false=aY s/\True else True/\false=aY s/\True else True/\false=aY s/\True:=by
 have eb:∀b:UInt8,(b.toNat:Int)=bI b:=fun _=>rfl;simp only[Int.toNat_natCast,Int.toNat_zero,eq_self,true_and,and_true,eb];have hF:aY s=(!decide (s=[])&&decide (s.length<=24)&&cr (bI (s.getD 0 0))&&decide (de s=s.length)):=by unfold aY;rw[nZ]
 refine ab (fun a=>?_) (fun a=>?_)
 ·have a':decide (s=[])=false:=by simpa using a
  have hpos:0<s.length:=List.length_pos_iff.2 (of_decide_eq_false a');refine ab (fun b=>?_) (fun b=>?_)
  ·have b':s.length<=24:=by have:=Xo b;omega
   refine⟨by omega,ab (fun c=>?_) (fun c=>?_)⟩
   ·rw[hF,a',c];simp[b',Int.ofNat_inj]
   ·simp only[Bool.not_eq_true]at c;rw[hF,c];simp
  ·have b':¬s.length<=24:=fun e=>b (Xd (by omega));rw[hF];simp[b']
 ·have a':decide (s=[])=true:=by simpa using a
  rw[hF,a'];simp
theorem CN(ns:List Str)(n:Int)(hl:Wf (.lst .str) ns) :
  (∃(x:Nat),(x<=List.length ns/\List.all (List.take x ns) aI=true/\List.Nodup (List.take x ns))/\(0:Int)=(↑x:Int)/\ns=ns/\n=n/\True)/\∀(x:Nat),x<=List.length ns/\List.all (List.take x ns) aI=true/\List.Nodup (List.take x ns)->if decide ((↑x:Int)<(↑(List.length ns):Int))=true then((0:Int)<=(↑x:Int)/\(↑x:Int)<(↑(List.length ns):Int))/\if(!aI (List.getD ns (Int.toNat (↑x:Int)) (dfl Ty.str)))=true then True/\false=fy ns n/\True else(∃(x_1:Nat),((↑x_1:Int)<=(↑x:Int)/\¬List.getD ns (Int.toNat (↑x:Int)) (dfl Ty.str)∈List.take x_1 ns)/\(0:Int)=(↑x_1:Int)/\(↑x:Int)=(↑x:Int)/\ns=ns/\n=n/\true=true/\false=false/\True)/\∀(x_1:Nat),(↑x_1:Int)<=(↑x:Int)/\¬List.getD ns (Int.toNat (↑x:Int)) (dfl Ty.str)∈List.take x_1 ns->if decide ((↑x_1:Int)<(↑x:Int))=true then((0:Int)<=(↑x_1:Int)/\(↑x_1:Int)<(↑(List.length ns):Int))/\((0:Int)<=(↑x:Int)/\(↑x:Int)<(↑(List.length ns):Int))/\if decide (List.getD ns (Int.toNat (↑x_1:Int)) (dfl Ty.str)=List.getD ns (Int.toNat (↑x:Int)) (dfl Ty.str))=true then True/\false=fy ns n/\True else inR IntKind.i64 ((↑x_1:Int)+(1:Int))/\∃(y:Nat),((↑y:Int)<=(↑x:Int)/\¬List.getD ns (Int.toNat (↑x:Int)) (dfl Ty.str)∈List.take y ns)/\Int.toNat (↑x:Int)-y<Int.toNat (↑x:Int)-x_1/\(↑x_1:Int)+(1:Int)=(↑y:Int)/\(↑x:Int)=(↑x:Int)/\ns=ns/\n=n/\true=true/\false=false/\True else inR IntKind.i64 ((↑x:Int)+(1:Int))/\∃(y:Nat),(y<=List.length ns/\List.all (List.take y ns) aI=true/\List.Nodup (List.take y ns))/\List.length ns-y<List.length ns-x/\(↑x:Int)+(1:Int)=(↑y:Int)/\ns=ns/\n=n/\True else True/\decide ((↑(List.length ns):Int)=n)=fy ns n/\True:=by
 have ln:=hl.len;simp only[Int.toNat_natCast,eq_self,true_and,and_true];refine⟨⟨0,⟨Nat.zero_le _,by simp,by simp⟩,rfl⟩,?_⟩;rintro k ⟨h1,h2,h3⟩;refine ab (fun h=>?_) (fun h=>?_)
 ·replace h:=Xo h;have hk:k<ns.length:=by omega
  have hmem:=getD_mem ns k (dfl .str) hk;have ht:=dR ns k (dfl .str) hk;refine⟨by omega,ab (fun a=>?_) (fun a=>?_)⟩
  ·have a':ns.all aI=false:=by rw[Bool.eq_false_iff];intro e;have:=List.all_eq_true.1 e _ hmem;rw[this]at a;simp at a
   unfold fy;rw[a'];simp
  ·have a':aI (ns.getD k (dfl .str))=true:=by simpa using a
   refine⟨⟨0,⟨by omega,by simp⟩,rfl⟩,?_⟩;rintro j ⟨j1,j2⟩;refine ab (fun b=>?_) (fun b=>?_)
   ·replace b:=Xo b;have hj:j<k:=by omega
    have hjn:j<ns.length:=by omega
    have htj:=dR ns j (dfl .str) hjn;refine⟨by omega,by omega,ab (fun c=>?_) (fun c=>?_)⟩
    ·replace c:=Xo c;have hnd:¬ns.Nodup:=by intro hn;rw[List.nodup_iff_pairwise_ne]at hn;have:=List.pairwise_iff_getElem.1 hn j k hjn hk hj;rw[List.getD_eq_getElem?_getD,List.getD_eq_getElem?_getD,List.getElem?_eq_getElem hjn,List.getElem?_eq_getElem hk]at c;exact this c
     unfold fy;simp[hnd]
    ·refine⟨aL hjn ln,j+1,⟨by omega,?_⟩,by omega,by omega⟩;rw[htj,List.mem_append,List.mem_singleton,not_or];exact⟨j2,fun e=>c (Xd e.symm)⟩
   ·have hj:j=k:=by have:¬((j:Int)<(k:Int)):=fun e=>b (Xd e);omega
    subst hj;refine⟨aL hk ln,j+1,⟨by omega,?_,?_⟩,by omega,by omega⟩
    ·rw[ht,List.all_append,h2];simpa using a'
    ·rw[ht,List.nodup_append];refine⟨h3,by simp,fun x hx y hy=>?_⟩;rw[List.mem_singleton]at hy;subst hy;intro e;subst e;exact j2 hx
 ·replace h:¬((k:Int)<(ns.length:Int)):=fun e=>h (Xd e);have e:k=ns.length:=by omega
  subst e;rw[List.take_length]at h2 h3;unfold fy;rw[h2];simp[h3]
theorem EZ(s:Shape)(hs:Wf (.st .shape) s) :
  if decide (s.kind=(9:Int))=true then if decide (s.name=[(73:UInt8),(110:UInt8),(116:UInt8)])=true then if aI s.pkg=true then if aY s.name=true then if decide ((↑(List.length s.names):Int)=(0:Int))=true then True/\decide ((↑(List.length s.parts):Int)=(0:Int))=aj s/\True else True/\false=aj s/\True else True/\false=aj s/\True else if decide (s.pkg=[])=true then if decide (s.kind=(9:Int))=true then if aY s.name=true then True/\false=aj s/\True else True/\false=aj s/\True else if aY s.name=true then True/\false=aj s/\True else True/\false=aj s/\True else if aY s.name=true then True/\false=aj s/\True else True/\false=aj s/\True else if decide (s.name=[(66:UInt8),(111:UInt8),(111:UInt8),(108:UInt8)])=true then if aI s.pkg=true then if aY s.name=true then if decide ((↑(List.length s.names):Int)=(0:Int))=true then True/\decide ((↑(List.length s.parts):Int)=(0:Int))=aj s/\True else True/\false=aj s/\True else True/\false=aj s/\True else if decide (s.pkg=[])=true then if decide (s.kind=(9:Int))=true then if aY s.name=true then True/\false=aj s/\True else True/\false=aj s/\True else if aY s.name=true then True/\false=aj s/\True else True/\false=aj s/\True else if aY s.name=true then True/\false=aj s/\True else True/\false=aj s/\True else if decide (s.name=[(84:UInt8),(101:UInt8),(120:UInt8),(116:UInt8)])=true then if aI s.pkg=true then if aY s.name=true then if decide ((↑(List.length s.names):Int)=(0:Int))=true then True/\decide ((↑(List.length s.parts):Int)=(0:Int))=aj s/\True else True/\false=aj s/\True else True/\false=aj s/\True else if decide (s.pkg=[])=true then if decide (s.kind=(9:Int))=true then if aY s.name=true then True/\false=aj s/\True else True/\false=aj s/\True else if aY s.name=true then True/\false=aj s/\True else True/\false=aj s/\True else if aY s.name=true then True/\false=aj s/\True else True/\false=aj s/\True else if aI s.pkg=true then if aY s.name=true then if decide ((↑(List.length s.names):Int)=(0:Int))=true then True/\decide ((↑(List.length s.parts):Int)=(0:Int))=aj s/\True else True/\false=aj s/\True else True/\false=aj s/\True else if decide (s.pkg=[])=true then if decide (s.kind=(9:Int))=true then if aY s.name=true then if(!decide (s.name=[(65:UInt8),(110:UInt8),(121:UInt8)]))=true then if decide ((↑(List.length s.names):Int)=(0:Int))=true then True/\decide ((↑(List.length s.parts):Int)=(0:Int))=aj s/\True else True/\false=aj s/\True else True/\false=aj s/\True else True/\false=aj s/\True else if aY s.name=true then True/\false=aj s/\True else True/\false=aj s/\True else if aY s.name=true then True/\false=aj s/\True else True/\false=aj s/\True else if decide (s.kind=(10:Int))=true then if decide (s.name=[(73:UInt8),(110:UInt8),(116:UInt8)])=true then if aI s.pkg=true then if aY s.name=true then if decide ((↑(List.length s.names):Int)=(0:Int))=true then True/\decide ((↑(List.length s.parts):Int)=(0:Int))=aj s/\True else True/\false=aj s/\True else True/\false=aj s/\True else if decide (s.pkg=[])=true then if decide (s.kind=(9:Int))=true then if aY s.name=true then True/\false=aj s/\True else True/\false=aj s/\True else if aY s.name=true then True/\false=aj s/\True else True/\false=aj s/\True else if aY s.name=true then True/\false=aj s/\True else True/\false=aj s/\True
  else if decide (s.name=[(66:UInt8),(111:UInt8),(111:UInt8),(108:UInt8)])=true then if aI s.pkg=true then if aY s.name=true then if decide ((↑(List.length s.names):Int)=(0:Int))=true then True/\decide ((↑(List.length s.parts):Int)=(0:Int))=aj s/\True else True/\false=aj s/\True else True/\false=aj s/\True else if decide (s.pkg=[])=true then if decide (s.kind=(9:Int))=true then if aY s.name=true then True/\false=aj s/\True else True/\false=aj s/\True else if aY s.name=true then True/\false=aj s/\True else True/\false=aj s/\True else if aY s.name=true then True/\false=aj s/\True else True/\false=aj s/\True else if decide (s.name=[(84:UInt8),(101:UInt8),(120:UInt8),(116:UInt8)])=true then if aI s.pkg=true then if aY s.name=true then if decide ((↑(List.length s.names):Int)=(0:Int))=true then True/\decide ((↑(List.length s.parts):Int)=(0:Int))=aj s/\True else True/\false=aj s/\True else True/\false=aj s/\True else if decide (s.pkg=[])=true then if decide (s.kind=(9:Int))=true then if aY s.name=true then True/\false=aj s/\True else True/\false=aj s/\True else if aY s.name=true then True/\false=aj s/\True else True/\false=aj s/\True else if aY s.name=true then True/\false=aj s/\True else True/\false=aj s/\True else if aI s.pkg=true then if aY s.name=true then if decide ((↑(List.length s.names):Int)=(0:Int))=true then True/\decide ((↑(List.length s.parts):Int)=(0:Int))=aj s/\True else True/\false=aj s/\True else True/\false=aj s/\True else if decide (s.pkg=[])=true then if decide (s.kind=(9:Int))=true then if aY s.name=true then if(!decide (s.name=[(65:UInt8),(110:UInt8),(121:UInt8)]))=true then if decide ((↑(List.length s.names):Int)=(0:Int))=true then True/\decide ((↑(List.length s.parts):Int)=(0:Int))=aj s/\True else True/\false=aj s/\True else True/\false=aj s/\True else True/\false=aj s/\True else if aY s.name=true then True/\false=aj s/\True else True/\false=aj s/\True else if aY s.name=true then True/\false=aj s/\True else True/\false=aj s/\True else if(!decide (s.pkg=[]))=true then True/\false=aj s/\True else if(!decide (s.name=[]))=true then True/\false=aj s/\True else if decide (s.kind=(6:Int))=true then True/\fy s.names (↑(List.length s.parts):Int)=aj s/\True else if decide (s.kind=(7:Int))=true then True/\fy s.names (↑(List.length s.parts):Int)=aj s/\True else if decide ((0:Int)<(↑(List.length s.names):Int))=true then True/\false=aj s/\True else if decide (s.kind=(8:Int))=true then True/\decide ((1:Int)<=(↑(List.length s.parts):Int))=aj s/\True else if decide (s.kind=(5:Int))=true then True/\decide ((↑(List.length s.parts):Int)=(1:Int))=aj s/\True else if decide ((1:Int)<=s.kind)=true then if decide (s.kind<=(4:Int))=true then True/\decide ((↑(List.length s.parts):Int)=(0:Int))=aj s/\True else True/\false=aj s/\True else True/\false=aj s/\True:=by
 have n0:((s.names.length:Int)=0)↔s.names=[]:=by rw[<-List.length_eq_zero_iff];omega
 have n1:(0<(s.names.length:Int))↔¬s.names=[]:=by rw[<-List.length_eq_zero_iff];omega
 have p0:((s.parts.length:Int)=0)↔s.parts=[]:=by rw[<-List.length_eq_zero_iff];omega
 have p1:((s.parts.length:Int)=1)↔s.parts.length=1:=by omega
 have p2:(1<=(s.parts.length:Int))↔¬s.parts=[]:=by rw[<-List.length_eq_zero_iff];omega
 have hn:fy s.names (s.parts.length:Int)=cE s:=by unfold fy cE;rw[decide_eq_decide.2 (show((s.names.length:Int)=(s.parts.length:Int))↔s.names.length=s.parts.length by omega)]
 simp only[n0,n1,p0,p1,p2,hn,decide_eq_true_eq,true_and,and_true];have hf:aj s=aj s:=rfl;conv at hf=>rhs;unfold aj
 unfold hX at hf;have hk:(s.kind=1∨s.kind=2∨s.kind=3∨s.kind=4)↔(1<=s.kind/\s.kind<=4):=by omega
 simp only[hk]at hf;clear hk n0 n1 p0 p1 p2 hn;revert hf;generalize aj s=F;generalize cE s=A;generalize aY s.name=B;generalize aI s.pkg=C;generalize s.kind=K;intro hf
 repeat' (refine ab (fun _=>?_) (fun _=>?_))
 all_goals (subst hf;(try simp_all);try (intros;omega))
theorem F0(n:Nat)(s:Shape)(hs:Wf (.st .shape) s)(hn:sz s<=n+1) :
  if(!aj s)=true then True/\false=allS aj s/\True else(∃(x:Nat),(x<=List.length s.parts/\allS aj s=allL aj (List.drop x s.parts))/\(0:Int)=(↑x:Int)/\s=s/\false=false/\s=s/\True)/\∀(x:Nat),x<=List.length s.parts/\allS aj s=allL aj (List.drop x s.parts)->if decide ((↑x:Int)<(↑(List.length s.parts):Int))=true then((0:Int)<=(↑x:Int)/\(↑x:Int)<(↑(List.length s.parts):Int))/\sz (List.getD s.parts (Int.toNat (↑x:Int)) (dfl (Ty.st SN.shape)))<=n/\if(!allS aj (List.getD s.parts (Int.toNat (↑x:Int)) (dfl (Ty.st SN.shape))))=true then True/\false=allS aj s/\True else inR IntKind.i64 ((↑x:Int)+(1:Int))/\∃(y:Nat),(y<=List.length s.parts/\allS aj s=allL aj (List.drop y s.parts))/\List.length s.parts-y<List.length s.parts-x/\(↑x:Int)+(1:Int)=(↑y:Int)/\s=s/\false=false/\s=s/\True else True/\true=allS aj s/\True:=by
 have ln:=hs.parts.len;have hz:=eC s;simp only[Int.toNat_natCast,eq_self,true_and,and_true];refine ab (fun h=>?_) (fun h=>?_)
 ·have h:aj s=false:=by simpa using h
  rw[ep,h];rfl
 have h:aj s=true:=by simpa using h
 refine⟨⟨0,⟨Nat.zero_le _,by rw[ep,h];rfl⟩,rfl⟩,?_⟩;rintro k ⟨h1,h3⟩;refine ab (fun h=>?_) (fun h=>?_)
 ·replace h:=Xo h;have hk:k<s.parts.length:=by omega
  have hm:=db (getD_mem s.parts k (dfl (.st .shape)) hk);rw[aA s.parts k (dfl (.st .shape)) hk]at h3;simp only[allL]at h3;refine⟨by omega,by omega,?_⟩;cases e:allS aj (s.parts.getD k (dfl (.st .shape)))
  ·rw[e]at h3;rw[h3];simp
  ·simp only[e,Bool.true_and]at h3;exact⟨aL hk ln,k+1,⟨by omega,h3⟩,by omega,by omega⟩
 ·replace h:¬((k:Int)<(s.parts.length:Int)):=fun e=>h (Xd e);have e:k=s.parts.length:=by omega
  subst e;rw[h3,List.drop_length];rfl
theorem Gr(n:Nat)(s:Shape)(hs:Wf (.st .shape) s)(hn:sz s<=n+1)(hb:n<=1000000) :
  (∃(x:Nat×Int),(x.1<=List.length s.parts/\(0:Int)<=x.2/\max x.2 (↑(maxDeep (List.drop x.1 s.parts)):Int)=(↑(maxDeep s.parts):Int))/\(0:Int)=x.2/\(0:Int)=(↑x.1:Int)/\s=s/\(0:Int)=(0:Int)/\s=s/\True)/\∀(x:Nat×Int),x.1<=List.length s.parts/\(0:Int)<=x.2/\max x.2 (↑(maxDeep (List.drop x.1 s.parts)):Int)=(↑(maxDeep s.parts):Int)->if decide ((↑x.1:Int)<(↑(List.length s.parts):Int))=true then((0:Int)<=(↑x.1:Int)/\(↑x.1:Int)<(↑(List.length s.parts):Int))/\sz (List.getD s.parts (Int.toNat (↑x.1:Int)) (dfl (Ty.st SN.shape)))<=n/\if decide (x.2<(↑(deepF (List.getD s.parts (Int.toNat (↑x.1:Int)) (dfl (Ty.st SN.shape)))):Int))=true then inR IntKind.i64 ((↑x.1:Int)+(1:Int))/\∃(y:Nat×Int),(y.1<=List.length s.parts/\(0:Int)<=y.2/\max y.2 (↑(maxDeep (List.drop y.1 s.parts)):Int)=(↑(maxDeep s.parts):Int))/\List.length s.parts-y.1<List.length s.parts-x.1/\(↑(deepF (List.getD s.parts (Int.toNat (↑x.1:Int)) (dfl (Ty.st SN.shape)))):Int)=y.2/\(↑x.1:Int)+(1:Int)=(↑y.1:Int)/\s=s/\(0:Int)=(0:Int)/\s=s/\True else inR IntKind.i64 ((↑x.1:Int)+(1:Int))/\∃(y:Nat×Int),(y.1<=List.length s.parts/\(0:Int)<=y.2/\max y.2 (↑(maxDeep (List.drop y.1 s.parts)):Int)=(↑(maxDeep s.parts):Int))/\List.length s.parts-y.1<List.length s.parts-x.1/\x.2=y.2/\(↑x.1:Int)+(1:Int)=(↑y.1:Int)/\s=s/\(0:Int)=(0:Int)/\s=s/\True else inR IntKind.i64 (x.2+(1:Int))/\True/\x.2+(1:Int)=(↑(deepF s):Int)/\True:=by
 have ln:=hs.parts.len;have hz:=eC s;have hd:deepF s=maxDeep s.parts+1:=by cases s;rfl
 have hds:=maxDeep_sz s.parts;simp only[Int.toNat_natCast,eq_self,true_and,and_true];refine⟨⟨(0,0),⟨Nat.zero_le _,by simp,by simp only[List.drop_zero];omega⟩,rfl,rfl⟩,?_⟩;rintro⟨k,c⟩ ⟨h1,h2,h3⟩;simp only at h1 h2 h3⊢;refine ab (fun h=>?_) (fun h=>?_)
 ·replace h:=Xo h;have hk:k<s.parts.length:=by omega
  have hm:=db (getD_mem s.parts k (dfl (.st .shape)) hk);rw[aA s.parts k (dfl (.st .shape)) hk]at h3;simp only[maxDeep]at h3;refine⟨by omega,by omega,ab (fun a=>?_) (fun a=>?_)⟩
  ·replace a:=Xo a;exact⟨aL hk ln,(k+1,(deepF (s.parts.getD k (dfl (.st .shape))):Int)),⟨by omega,by simp only;omega,by simp only;omega⟩,by simp only;omega,rfl,rfl⟩
  ·replace a:¬c<(deepF (s.parts.getD k (dfl (.st .shape))):Int):=fun e=>a (Xd e);exact⟨aL hk ln,(k+1,c),⟨by omega,by simp only;omega,by simp only;omega⟩,by simp only;omega,rfl,rfl⟩
 ·replace h:¬((k:Int)<(s.parts.length:Int)):=fun e=>h (Xd e);have e:k=s.parts.length:=by omega
  subst e;rw[List.drop_length]at h3;simp only[maxDeep]at h3;exact⟨b8 (by omega) (by omega),by omega⟩
theorem CO(s:Shape)(hs:Wf (.st .shape) s) :
  (sz s<=sz s/\(0:Int)<=(400:Int)/\(400:Int)<=(1000000:Int))/\if decide ((400:Int)<sizeF s (400:Int))=true then True/\(3:Int)=aC s/\True else sz s<=(400:Nat)/\if decide ((40:Int)<(↑(deepF s):Int))=true then True/\(91:Int)=aC s/\True else sz s<=(400:Nat)/\if(!allS aj s)=true then True/\(70:Int)=aC s/\True else True/\(0:Int)=aC s/\True:=by
 simp only[eq_self,true_and,and_true];rw[Hb];refine⟨⟨Nat.le_refl _,by omega,by omega⟩,ab (fun h=>?_) (fun h=>?_)⟩
 ·rw[if_pos (Xo h)]
 ·have h':¬(400:Int)<sizeF s 400:=fun e=>h (Xd e);have hs4:sz s<=400:=by rw[sizeF_eq s 400 (by omega)]at h';omega
  rw[if_neg h'];refine⟨hs4,ab (fun g=>?_) (fun g=>⟨hs4,?_⟩)⟩
  ·rw[if_pos (Xo g)]
  ·rw[if_neg (fun e=>g (Xd e))];cases allS aj s<;>simp
theorem F1(p:Int)  :
  if decide ((0:Int)<=p)=true then if decide (p<=(1114111:Int))=true then if decide (p<(55296:Int))=true then True/\true=ec p/\True else True/\decide ((57343:Int)<p)=ec p/\True else True/\false=ec p/\True else True/\false=ec p/\True:=by
 unfold ec;by_cases a:0<=p<;>by_cases b:p<=1114111<;>by_cases c:p<55296<;>simp[a,b,c]
theorem F2(p:Int)(ho:0<=p/\p<=1114111) :
  if decide (p<(128:Int))=true then inR IntKind.u8 p/\True/\List.map (fun(n:Int) ↦UInt8.ofNat (Int.toNat n)) [p]=dh p/\True else if decide (p<(2048:Int))=true then((64:Int)≠(0:Int)/\inR IntKind.i64 (Int.tdiv p (64:Int)))/\inR IntKind.i64 ((192:Int)+Int.tdiv p (64:Int))/\inR IntKind.u8 ((192:Int)+Int.tdiv p (64:Int))/\((64:Int)≠(0:Int)/\inR IntKind.i64 (Int.tmod p (64:Int)))/\inR IntKind.i64 ((128:Int)+Int.tmod p (64:Int))/\inR IntKind.u8 ((128:Int)+Int.tmod p (64:Int))/\True/\List.map (fun(n:Int) ↦UInt8.ofNat (Int.toNat n)) [(192:Int)+Int.tdiv p (64:Int),(128:Int)+Int.tmod p (64:Int)]=dh p/\True else if decide (p<(65536:Int))=true then((4096:Int)≠(0:Int)/\inR IntKind.i64 (Int.tdiv p (4096:Int)))/\inR IntKind.i64 ((224:Int)+Int.tdiv p (4096:Int))/\inR IntKind.u8 ((224:Int)+Int.tdiv p (4096:Int))/\((64:Int)≠(0:Int)/\inR IntKind.i64 (Int.tdiv p (64:Int)))/\((64:Int)≠(0:Int)/\inR IntKind.i64 (Int.tmod (Int.tdiv p (64:Int)) (64:Int)))/\inR IntKind.i64 ((128:Int)+Int.tmod (Int.tdiv p (64:Int)) (64:Int))/\inR IntKind.u8 ((128:Int)+Int.tmod (Int.tdiv p (64:Int)) (64:Int))/\((64:Int)≠(0:Int)/\inR IntKind.i64 (Int.tmod p (64:Int)))/\inR IntKind.i64 ((128:Int)+Int.tmod p (64:Int))/\inR IntKind.u8 ((128:Int)+Int.tmod p (64:Int))/\True/\List.map (fun(n:Int) ↦UInt8.ofNat (Int.toNat n)) [(224:Int)+Int.tdiv p (4096:Int),(128:Int)+Int.tmod (Int.tdiv p (64:Int)) (64:Int),(128:Int)+Int.tmod p (64:Int)]=dh p/\True else((262144:Int)≠(0:Int)/\inR IntKind.i64 (Int.tdiv p (262144:Int)))/\inR IntKind.i64 ((240:Int)+Int.tdiv p (262144:Int))/\inR IntKind.u8 ((240:Int)+Int.tdiv p (262144:Int))/\((4096:Int)≠(0:Int)/\inR IntKind.i64 (Int.tdiv p (4096:Int)))/\((64:Int)≠(0:Int)/\inR IntKind.i64 (Int.tmod (Int.tdiv p (4096:Int)) (64:Int)))/\inR IntKind.i64 ((128:Int)+Int.tmod (Int.tdiv p (4096:Int)) (64:Int))/\inR IntKind.u8 ((128:Int)+Int.tmod (Int.tdiv p (4096:Int)) (64:Int))/\((64:Int)≠(0:Int)/\inR IntKind.i64 (Int.tdiv p (64:Int)))/\((64:Int)≠(0:Int)/\inR IntKind.i64 (Int.tmod (Int.tdiv p (64:Int)) (64:Int)))/\inR IntKind.i64 ((128:Int)+Int.tmod (Int.tdiv p (64:Int)) (64:Int))/\inR IntKind.u8 ((128:Int)+Int.tmod (Int.tdiv p (64:Int)) (64:Int))/\((64:Int)≠(0:Int)/\inR IntKind.i64 (Int.tmod p (64:Int)))/\inR IntKind.i64 ((128:Int)+Int.tmod p (64:Int))/\inR IntKind.u8 ((128:Int)+Int.tmod p (64:Int))/\True/\List.map (fun(n:Int) ↦UInt8.ofNat (Int.toNat n)) [(240:Int)+Int.tdiv p (262144:Int),(128:Int)+Int.tmod (Int.tdiv p (4096:Int)) (64:Int),(128:Int)+Int.tmod (Int.tdiv p (64:Int)) (64:Int),(128:Int)+Int.tmod p (64:Int)]=dh p/\True:=by
 obtain⟨h1,h2⟩:=ho;have t1:Int.tdiv p 64=p/64:=Int.tdiv_eq_ediv_of_nonneg h1;have t2:Int.tdiv p 4096=p/4096:=Int.tdiv_eq_ediv_of_nonneg h1;have t3:Int.tdiv p 262144=p/262144:=Int.tdiv_eq_ediv_of_nonneg h1;have m0:Int.tmod p 64=p%64:=Int.tmod_eq_emod_of_nonneg h1;have m1:Int.tmod (p/64) 64=p/64%64:=Int.tmod_eq_emod_of_nonneg (by omega);have m2:Int.tmod (p/4096) 64=p/4096%64:=Int.tmod_eq_emod_of_nonneg (by omega);simp only[t1,t2,t3,m0,m1,m2];have u8:∀n:Int,0<=n->n<=255->inR IntKind.u8 n:=fun n a b=>⟨a,b⟩;have i64:∀n:Int,-10000000<=n->n<=10000000->inR IntKind.i64 n:=fun n a b=>b8 (by omega) (by omega);unfold dh iZ;refine ab (fun a=>?_) (fun a=>?_)
 ·have a:=Xo a;rw[if_pos a];exact⟨u8 _ (by omega) (by omega),trivial,rfl,trivial⟩
 have a:¬p<128:=fun e=>a (Xd e);rw[if_neg a];refine ab (fun b=>?_) (fun b=>?_)
 ·have b:=Xo b;rw[if_pos b]
  repeat (first|exact trivial|refine⟨by first|rfl|trivial|(exact⟨by decide,i64 _ (by omega) (by omega)⟩)|(exact i64 _ (by omega) (by omega))|(exact u8 _ (by omega) (by omega)),?_⟩)
 have b:¬p<2048:=fun e=>b (Xd e);rw[if_neg b];refine ab (fun d=>?_) (fun d=>?_)
 ·have d:=Xo d;rw[if_pos d]
  repeat (first|exact trivial|refine⟨by first|rfl|trivial|(exact⟨by decide,i64 _ (by omega) (by omega)⟩)|(exact i64 _ (by omega) (by omega))|(exact u8 _ (by omega) (by omega)),?_⟩)
 ·have d:¬p<65536:=fun e=>d (Xd e);rw[if_neg d]
  repeat (first|exact trivial|refine⟨by first|rfl|trivial|(exact⟨by decide,i64 _ (by omega) (by omega)⟩)|(exact i64 _ (by omega) (by omega))|(exact u8 _ (by omega) (by omega)),?_⟩)
theorem F3(s:Str)(hs:Wf .str s) :
  if decide (s=[])=true then True/\(0:Int)=(cP s).1/\(0:Int)=(cP s).2/\True else((0:Int)<=(0:Int)/\(0:Int)<(↑(List.length s):Int))/\inR IntKind.i64 (↑(UInt8.toNat (List.getD s (Int.toNat (0:Int)) (0:UInt8))):Int)/\(((0:Int)<=(0:Int)/\(0:Int)<(↑(List.length s):Int))/\if decide ((240:Int)<=(↑(UInt8.toNat (List.getD s (Int.toNat (0:Int)) (0:UInt8))):Int))=true then((0:Int)<=(0:Int)/\(0:Int)<(↑(List.length s):Int))/\inR IntKind.i64 (↑(UInt8.toNat (List.getD s (Int.toNat (0:Int)) (0:UInt8))):Int)/\inR IntKind.i64 ((↑(UInt8.toNat (List.getD s (Int.toNat (0:Int)) (0:UInt8))):Int)-(240:Int))/\(4:Int)=(↑(bK s):Int)/\(↑(UInt8.toNat (List.getD s (Int.toNat (0:Int)) (0:UInt8))):Int)-(240:Int)=fA s/\s=s/\(0:Int)=(0:Int)/\(0:Int)=(0:Int)/\false=false/\True else((0:Int)<=(0:Int)/\(0:Int)<(↑(List.length s):Int))/\if decide ((224:Int)<=(↑(UInt8.toNat (List.getD s (Int.toNat (0:Int)) (0:UInt8))):Int))=true then((0:Int)<=(0:Int)/\(0:Int)<(↑(List.length s):Int))/\inR IntKind.i64 (↑(UInt8.toNat (List.getD s (Int.toNat (0:Int)) (0:UInt8))):Int)/\inR IntKind.i64 ((↑(UInt8.toNat (List.getD s (Int.toNat (0:Int)) (0:UInt8))):Int)-(224:Int))/\(3:Int)=(↑(bK s):Int)/\(↑(UInt8.toNat (List.getD s (Int.toNat (0:Int)) (0:UInt8))):Int)-(224:Int)=fA s/\s=s/\(0:Int)=(0:Int)/\(0:Int)=(0:Int)/\false=false/\True else((0:Int)<=(0:Int)/\(0:Int)<(↑(List.length s):Int))/\if decide ((192:Int)<=(↑(UInt8.toNat (List.getD s (Int.toNat (0:Int)) (0:UInt8))):Int))=true then((0:Int)<=(0:Int)/\(0:Int)<(↑(List.length s):Int))/\inR IntKind.i64 (↑(UInt8.toNat (List.getD s (Int.toNat (0:Int)) (0:UInt8))):Int)/\inR IntKind.i64 ((↑(UInt8.toNat (List.getD s (Int.toNat (0:Int)) (0:UInt8))):Int)-(192:Int))/\(2:Int)=(↑(bK s):Int)/\(↑(UInt8.toNat (List.getD s (Int.toNat (0:Int)) (0:UInt8))):Int)-(192:Int)=fA s/\s=s/\(0:Int)=(0:Int)/\(0:Int)=(0:Int)/\false=false/\True else(1:Int)=(↑(bK s):Int)/\(↑(UInt8.toNat (List.getD s (Int.toNat (0:Int)) (0:UInt8))):Int)=fA s/\s=s/\(0:Int)=(0:Int)/\(0:Int)=(0:Int)/\false=false/\True)/\if decide ((↑(List.length s):Int)<(↑(bK s):Int))=true then True/\(0:Int)=(cP s).1/\(0:Int)=(cP s).2/\True else(∃(x:Nat),((1:Nat)<=x/\x<=bK s/\(x=(1:Nat)->(-300:Int)<=bc s x/\bc s x<=(300:Int))/\(x=(2:Nat)->(-20000:Int)<=bc s x/\bc s x<=(20000:Int))/\(x=(3:Nat)->(-1300000:Int)<=bc s x/\bc s x<=(1300000:Int))/\(x=(4:Nat)->(-90000000:Int)<=bc s x/\bc s x<=(90000000:Int)))/\(1:Int)=(↑x:Int)/\fA s=bc s x/\(↑(bK s):Int)=(↑(bK s):Int)/\s=s/\(0:Int)=(0:Int)/\(0:Int)=(0:Int)/\false=false/\false=false/\True)/\∀(x:Nat),(1:Nat)<=x/\x<=bK s/\(x=(1:Nat)->(-300:Int)<=bc s x/\bc s x<=(300:Int))/\(x=(2:Nat)->(-20000:Int)<=bc s x/\bc s x<=(20000:Int))/\(x=(3:Nat)->(-1300000:Int)<=bc s x/\bc s x<=(1300000:Int))/\(x=(4:Nat)->(-90000000:Int)<=bc s x/\bc s x<=(90000000:Int))->if decide ((↑x:Int)<(↑(bK s):Int))=true then inR IntKind.i64 (bc s x *(64:Int))/\((0:Int)<=(↑x:Int)/\(↑x:Int)<(↑(List.length s):Int))/\inR IntKind.i64 (↑(UInt8.toNat (List.getD s (Int.toNat (↑x:Int)) (0:UInt8))):Int)/\inR IntKind.i64 (bc s x *(64:Int)+(↑(UInt8.toNat (List.getD s (Int.toNat (↑x:Int)) (0:UInt8))):Int))/\inR IntKind.i64 (bc s x *(64:Int)+(↑(UInt8.toNat (List.getD s (Int.toNat (↑x:Int)) (0:UInt8))):Int)-(128:Int))/\inR IntKind.i64 ((↑x:Int)+(1:Int))/\∃(y:Nat),((1:Nat)<=y
  /\y<=bK s/\(y=(1:Nat)->(-300:Int)<=bc s y/\bc s y<=(300:Int))/\(y=(2:Nat)->(-20000:Int)<=bc s y/\bc s y<=(20000:Int))/\(y=(3:Nat)->(-1300000:Int)<=bc s y/\bc s y<=(1300000:Int))/\(y=(4:Nat)->(-90000000:Int)<=bc s y/\bc s y<=(90000000:Int)))/\bK s-y<bK s-x/\(↑x:Int)+(1:Int)=(↑y:Int)/\bc s x *(64:Int)+(↑(UInt8.toNat (List.getD s (Int.toNat (↑x:Int)) (0:UInt8))):Int)-(128:Int)=bc s y/\(↑(bK s):Int)=(↑(bK s):Int)/\s=s/\(0:Int)=(0:Int)/\(0:Int)=(0:Int)/\false=false/\false=false/\True else if(!ec (bc s x))=true then True/\(0:Int)=(cP s).1/\(0:Int)=(cP s).2/\True else((0:Int)<=bc s x/\bc s x<=(1114111:Int))/\((0:Int)<=(0:Int)/\(0:Int)<=(↑(bK s):Int)/\(↑(bK s):Int)<=(↑(List.length s):Int))/\if(!decide (dh (bc s x)=List.drop (Int.toNat (0:Int)) (List.take (Int.toNat (↑(bK s):Int)) s)))=true then True/\(0:Int)=(cP s).1/\(0:Int)=(cP s).2/\True else True/\bc s x=(cP s).1/\(↑(bK s):Int)=(cP s).2/\True:=by
 have ln:=hs.str;refine ab (fun h=>?_) (fun h=>?_)
 ·have h:=Xo h;subst h;exact⟨trivial,rfl,rfl,trivial⟩
 have hne:s≠[]:=fun e=>h (Xd e);have hpos:=List.length_pos_iff.2 hne;have eb:∀b:UInt8,(b.toNat:Int)=bI b:=fun _=>rfl;simp only[eb,Int.toNat_zero,Int.toNat_natCast];obtain⟨n1,n2⟩:=GF (s.getD 0 0);have i64:∀n:Int,-10000000000<=n->n<=10000000000->inR IntKind.i64 n:=fun n a b=>b8 (by omega) (by omega);have l0:(0:Int)<=0/\(0:Int)<(s.length:Int):=⟨by omega,by omega⟩;have hL:bK s=if 240<=bI (s.getD 0 0)then 4 else if 224<=bI (s.getD 0 0)then 3 else if 192<=bI (s.getD 0 0)then 2 else 1:=rfl
 have h0:fA s=if 240<=bI (s.getD 0 0)then bI (s.getD 0 0)-240 else if 224<=bI (s.getD 0 0)then bI (s.getD 0 0)-224 else if 192<=bI (s.getD 0 0)then bI (s.getD 0 0)-192 else bI (s.getD 0 0):=rfl
 refine⟨l0,i64 _ (by omega) (by omega),⟨l0,ab (fun a=>?_) (fun a=>⟨l0,ab (fun b=>?_) (fun b=>⟨l0,ab (fun c=>?_) (fun c=>?_)⟩)⟩)⟩,?_⟩
 ·have a:=Xo a;rw[if_pos a]at hL h0;refine⟨l0,i64 _ (by omega) (by omega),i64 _ (by omega) (by omega),by rw[hL];rfl,h0.symm,?_⟩;exact Xr
 ·have a:¬240<=bI (s.getD 0 0):=fun e=>a (Xd e);have b:=Xo b;rw[if_neg a,if_pos b]at hL h0;refine⟨l0,i64 _ (by omega) (by omega),i64 _ (by omega) (by omega),by rw[hL];rfl,h0.symm,?_⟩;exact Xr
 ·have a:¬240<=bI (s.getD 0 0):=fun e=>a (Xd e);have b:¬224<=bI (s.getD 0 0):=fun e=>b (Xd e);have c:=Xo c;rw[if_neg a,if_neg b,if_pos c]at hL h0;refine⟨l0,i64 _ (by omega) (by omega),i64 _ (by omega) (by omega),by rw[hL];rfl,h0.symm,?_⟩;exact Xr
 ·have a:¬240<=bI (s.getD 0 0):=fun e=>a (Xd e);have b:¬224<=bI (s.getD 0 0):=fun e=>b (Xd e);have c:¬192<=bI (s.getD 0 0):=fun e=>c (Xd e);rw[if_neg a,if_neg b,if_neg c]at hL h0;refine⟨by rw[hL];rfl,h0.symm,?_⟩;exact Xr
 have hb0:-300<=fA s/\fA s<=300:=by rw[h0];(repeat' split)<;>omega
 have hb1:1<=bK s/\bK s<=4:=by rw[hL];(repeat' split)<;>omega
 clear hL h0 n1 n2;refine ab (fun a=>?_) (fun a=>?_)
 ·have a:=Xo a;have e:cP s=(0,0):=by unfold cP;rw[if_neg hne,if_pos (by omega)]
  rw[e];exact⟨trivial,rfl,rfl,trivial⟩
 have a:¬(s.length:Int)<(bK s:Int):=fun e=>a (Xd e);have hF:cP s=if ec (bc s (bK s))=true/\dh (bc s (bK s))=s.take (bK s)then(bc s (bK s),(bK s:Int))else(0,0):=by unfold cP;rw[if_neg hne,if_neg (by omega)]
 refine⟨⟨1,⟨Nat.le_refl _,hb1.1,fun _=>hb0,fun e=>by omega,fun e=>by omega,fun e=>by omega⟩,?_⟩,?_⟩
 ·exact Xr
 rintro k ⟨k1,k2,k3,k4,k5,k6⟩;refine ab (fun b=>?_) (fun b=>?_)
 ·have b:k<bK s:=by have:=Xo b;omega
  obtain⟨m1,m2⟩:=GF (s.getD k 0);have hf:bc s (k+1)=bc s k *64+bI (s.getD k 0)-128:=by obtain⟨j,rfl⟩:∃j,k=j+1:=⟨k-1,by omega⟩;rfl
  have hk:k=1∨k=2∨k=3:=by omega
  have hb:-1300000<=bc s k/\bc s k<=1300000:=by
   rcases hk with e|e|e
   ·have:=k3 e;omega
   ·have:=k4 e;omega
   ·exact k5 e
  refine⟨i64 _ (by omega) (by omega),⟨by omega,by omega⟩,i64 _ (by omega) (by omega),i64 _ (by omega) (by omega),i64 _ (by omega) (by omega),i64 _ (by omega) (by omega),k+1,⟨by omega,by omega,fun e=>by omega,fun e=>by have:=k3 (by omega);omega,fun e=>by have:=k4 (by omega);omega,fun e=>by have:=k5 (by omega);omega⟩,by omega,by omega,hf.symm,?_⟩;exact Xr
 ·have b:k=bK s:=by have:¬((k:Int)<(bK s:Int)):=fun e=>b (Xd e);omega
  subst b;simp only[List.drop_zero];refine ab (fun c=>?_) (fun c=>?_)
  ·rw[if_neg (fun e=>by rw[e.1]at c;cases c)]at hF;rw[hF];exact⟨trivial,rfl,rfl,trivial⟩
  have c:ec (bc s (bK s))=true:=by simpa using c
  have c':=c;unfold ec at c';simp only[Bool.and_eq_true,decide_eq_true_eq]at c';refine⟨⟨c'.1.1,c'.1.2⟩,⟨by omega,by omega,by omega⟩,ab (fun d=>?_) (fun d=>?_)⟩
  ·have d:¬dh (bc s (bK s))=s.take (bK s):=by simpa using d
   rw[if_neg (fun e=>d e.2)]at hF;rw[hF];exact⟨trivial,rfl,rfl,trivial⟩
  ·have d:dh (bc s (bK s))=s.take (bK s):=by simpa using d
   rw[if_pos ⟨c,d⟩]at hF;rw[hF];exact⟨trivial,rfl,rfl,trivial⟩
theorem CP(ns:List Str)(b:Bool)(hl:Wf (.lst .str) ns) :
  (∃(x:Nat),(x<=List.length ns/\List.all (List.take x ns) aI=true/\(b=true->List.Nodup (List.take x ns)))/\(0:Int)=(↑x:Int)/\ns=ns/\b=b/\True)/\∀(x:Nat),x<=List.length ns/\List.all (List.take x ns) aI=true/\(b=true->List.Nodup (List.take x ns))->if decide ((↑x:Int)<(↑(List.length ns):Int))=true then((0:Int)<=(↑x:Int)/\(↑x:Int)<(↑(List.length ns):Int))/\if(!aI (List.getD ns (Int.toNat (↑x:Int)) (dfl Ty.str)))=true then True/\false=ed ns b/\True else(∃(x_1:Nat),((↑x_1:Int)<=(↑x:Int)/\(b=true->¬List.getD ns (Int.toNat (↑x:Int)) (dfl Ty.str)∈List.take x_1 ns)/\(b=false->x_1=(0:Nat)))/\(0:Int)=(↑x_1:Int)/\(↑x:Int)=(↑x:Int)/\ns=ns/\b=b/\true=true/\false=false/\True)/\∀(x_1:Nat),(↑x_1:Int)<=(↑x:Int)/\(b=true->¬List.getD ns (Int.toNat (↑x:Int)) (dfl Ty.str)∈List.take x_1 ns)/\(b=false->x_1=(0:Nat))->if decide ((↑x_1:Int)<(↑x:Int))=true then if b=true then((0:Int)<=(↑x_1:Int)/\(↑x_1:Int)<(↑(List.length ns):Int))/\((0:Int)<=(↑x:Int)/\(↑x:Int)<(↑(List.length ns):Int))/\if decide (List.getD ns (Int.toNat (↑x_1:Int)) (dfl Ty.str)=List.getD ns (Int.toNat (↑x:Int)) (dfl Ty.str))=true then True/\false=ed ns b/\True else inR IntKind.i64 ((↑x_1:Int)+(1:Int))/\∃(y:Nat),((↑y:Int)<=(↑x:Int)/\(b=true->¬List.getD ns (Int.toNat (↑x:Int)) (dfl Ty.str)∈List.take y ns)/\(b=false->y=(0:Nat)))/\Int.toNat (↑x:Int)-y<Int.toNat (↑x:Int)-x_1/\(↑x_1:Int)+(1:Int)=(↑y:Int)/\(↑x:Int)=(↑x:Int)/\ns=ns/\b=b/\true=true/\false=false/\True else inR IntKind.i64 ((↑x:Int)+(1:Int))/\∃(y:Nat),(y<=List.length ns/\List.all (List.take y ns) aI=true/\(b=true->List.Nodup (List.take y ns)))/\List.length ns-y<List.length ns-x/\(↑x:Int)+(1:Int)=(↑y:Int)/\ns=ns/\b=b/\True else inR IntKind.i64 ((↑x:Int)+(1:Int))/\∃(y:Nat),(y<=List.length ns/\List.all (List.take y ns) aI=true/\(b=true->List.Nodup (List.take y ns)))/\List.length ns-y<List.length ns-x/\(↑x:Int)+(1:Int)=(↑y:Int)/\ns=ns/\b=b/\True else True/\true=ed ns b/\True:=by
 have ln:=hl.len;simp only[Int.toNat_natCast,eq_self,true_and,and_true];refine⟨⟨0,⟨Nat.zero_le _,by simp,by simp⟩,rfl⟩,?_⟩;rintro k ⟨h1,h2,h3⟩;refine ab (fun h=>?_) (fun h=>?_)
 ·replace h:=Xo h;have hk:k<ns.length:=by omega
  have hmem:=getD_mem ns k (dfl .str) hk;have ht:=dR ns k (dfl .str) hk;refine⟨by omega,ab (fun a=>?_) (fun a=>?_)⟩
  ·have a':ns.all aI=false:=by rw[Bool.eq_false_iff];intro e;have:=List.all_eq_true.1 e _ hmem;rw[this]at a;simp at a
   unfold ed;rw[a'];simp
  ·have a':aI (ns.getD k (dfl .str))=true:=by simpa using a
   refine⟨⟨0,⟨by omega,by simp,fun _=>rfl⟩,rfl⟩,?_⟩;rintro j ⟨j1,j2,j3⟩
   have nextk:(b=true->j=k)->inR IntKind.i64 ((k:Int)+1)/\∃y:Nat,(y<=ns.length/\(ns.take y).all aI=true/\(b=true->(ns.take y).Nodup))/\ns.length-y<ns.length-k/\(k:Int)+1=(y:Int):=by
    intro hjk;refine⟨aL hk ln,k+1,⟨by omega,?_,fun hb=>?_⟩,by omega,by omega⟩
    ·rw[ht,List.all_append,h2];simpa using a'
    ·obtain rfl:=hjk hb;rw[ht,List.nodup_append];refine⟨h3 hb,by simp,fun x hx y hy=>?_⟩;rw[List.mem_singleton]at hy;subst hy;intro e;subst e;exact j2 hb hx
   refine ab (fun b1=>?_) (fun b1=>?_)
   ·replace b1:=Xo b1;have hj:j<k:=by omega
    have hjn:j<ns.length:=by omega
    have htj:=dR ns j (dfl .str) hjn;refine ab (fun hb=>?_) (fun hb=>?_)
    ·refine⟨by omega,by omega,ab (fun c=>?_) (fun c=>?_)⟩
     ·replace c:=Xo c;have hnd:¬ns.Nodup:=by intro hn;rw[List.nodup_iff_pairwise_ne]at hn;have:=List.pairwise_iff_getElem.1 hn j k hjn hk hj;rw[List.getD_eq_getElem?_getD,List.getD_eq_getElem?_getD,List.getElem?_eq_getElem hjn,List.getElem?_eq_getElem hk]at c;exact this c
      unfold ed;simp[hnd,hb]
     ·refine⟨aL hjn ln,j+1,⟨by omega,fun _=>?_,fun q=>by rw[hb]at q;cases q⟩,by omega,by omega⟩;rw[htj,List.mem_append,List.mem_singleton,not_or];exact⟨j2 hb,fun e=>c (Xd e.symm)⟩
    ·exact nextk (fun q=>absurd q hb)
   ·refine nextk (fun _=>?_);have:¬((j:Int)<(k:Int)):=fun e=>b1 (Xd e);omega
 ·replace h:¬((k:Int)<(ns.length:Int)):=fun e=>h (Xd e);have e:k=ns.length:=by omega
  subst e;rw[List.take_length]at h2 h3;unfold ed;rw[h2];cases b
  ·simp
  ·simp[h3]
theorem zF(n:Nat)(s:Shape)(hs:Wf (.st .shape) s)(hn:sz s<=n+1) :
  (∃(x:Nat),(x<=List.length s.parts/\allS b9 s=(b9 s&&allL b9 (List.drop x s.parts)))/\(0:Int)=(↑x:Int)/\s=s/\s=s/\True)/\∀(x:Nat),x<=List.length s.parts/\allS b9 s=(b9 s&&allL b9 (List.drop x s.parts))->if decide ((↑x:Int)<(↑(List.length s.parts):Int))=true then((0:Int)<=(↑x:Int)/\(↑x:Int)<(↑(List.length s.parts):Int))/\sz (List.getD s.parts (Int.toNat (↑x:Int)) (dfl (Ty.st SN.shape)))<=n/\if(!allS b9 (List.getD s.parts (Int.toNat (↑x:Int)) (dfl (Ty.st SN.shape))))=true then True/\true=!allS b9 s/\True else inR IntKind.i64 ((↑x:Int)+(1:Int))/\∃(y:Nat),(y<=List.length s.parts/\allS b9 s=(b9 s&&allL b9 (List.drop y s.parts)))/\List.length s.parts-y<List.length s.parts-x/\(↑x:Int)+(1:Int)=(↑y:Int)/\s=s/\s=s/\True else True/\decide (s.kind=(10:Int))=!allS b9 s/\True:=by
 have ln:=hs.parts.len;have hz:=eC s;simp only[Int.toNat_natCast,eq_self,true_and,and_true];refine⟨⟨0,⟨Nat.zero_le _,by rw[ep];rfl⟩,rfl⟩,?_⟩;rintro k ⟨h1,h3⟩;refine ab (fun h=>?_) (fun h=>?_)
 ·replace h:=Xo h;have hk:k<s.parts.length:=by omega
  have hm:=db (getD_mem s.parts k (dfl (.st .shape)) hk);rw[aA s.parts k (dfl (.st .shape)) hk]at h3;simp only[allL]at h3;refine⟨by omega,by omega,ab (fun e=>?_) (fun e=>?_)⟩
  ·have e:allS b9 (s.parts.getD k (dfl (.st .shape)))=false:=by simpa using e
   rw[e]at h3;rw[h3];simp
  ·have e:allS b9 (s.parts.getD k (dfl (.st .shape)))=true:=by simpa using e
   rw[e,Bool.true_and]at h3;exact⟨aL hk ln,k+1,⟨by omega,h3⟩,by omega,by omega⟩
 ·replace h:¬((k:Int)<(s.parts.length:Int)):=fun e=>h (Xd e);have e:k=s.parts.length:=by omega
  subst e;rw[h3,List.drop_length];simp[allL,b9]
theorem zG(l:List Shape)(hl:Wf (.lst (.st .shape)) l) :
  (∃(x:Nat),(x<=List.length l/\List.all l bD=List.all (List.drop x l) bD)/\(0:Int)=(↑x:Int)/\l=l/\True)/\∀(x:Nat),x<=List.length l/\List.all l bD=List.all (List.drop x l) bD->if decide ((↑x:Int)<(↑(List.length l):Int))=true then((0:Int)<=(↑x:Int)/\(↑x:Int)<(↑(List.length l):Int))/\if(!decide (aC (List.getD l (Int.toNat (↑x:Int)) (dfl (Ty.st SN.shape)))=(0:Int)))=true then True/\false=List.all l bD/\True else((0:Int)<=(↑x:Int)/\(↑x:Int)<(↑(List.length l):Int))/\sz (List.getD l (Int.toNat (↑x:Int)) (dfl (Ty.st SN.shape)))<=(400:Nat)/\if(!allS b9 (List.getD l (Int.toNat (↑x:Int)) (dfl (Ty.st SN.shape))))=true then True/\false=List.all l bD/\True else inR IntKind.i64 ((↑x:Int)+(1:Int))/\∃(y:Nat),(y<=List.length l/\List.all l bD=List.all (List.drop y l) bD)/\List.length l-y<List.length l-x/\(↑x:Int)+(1:Int)=(↑y:Int)/\l=l/\True else True/\true=List.all l bD/\True:=by
 have ln:=hl.len;simp only[Int.toNat_natCast,eq_self,true_and,and_true];refine⟨⟨0,⟨Nat.zero_le _,rfl⟩,rfl⟩,?_⟩;rintro k ⟨h1,h3⟩;refine ab (fun h=>?_) (fun h=>?_)
 ·replace h:=Xo h;have hk:k<l.length:=by omega
  rw[aA l k (dfl (.st .shape)) hk,List.all_cons]at h3;have ht:bD (l.getD k (dfl (.st .shape)))=(decide (aC (l.getD k (dfl (.st .shape)))=0)&&allS b9 (l.getD k (dfl (.st .shape)))):=rfl;refine⟨by omega,ab (fun c=>?_) (fun c=>?_)⟩
  ·have c:¬aC (l.getD k (dfl (.st .shape)))=0:=by simpa using c
   rw[ht,Xf c,Bool.false_and,Bool.false_and]at h3;rw[h3]
  ·have c:aC (l.getD k (dfl (.st .shape)))=0:=by simpa using c
   have hz:sz (l.getD k (dfl (.st .shape)))<=400:=by
    unfold aC at c;by_cases q:400<sz (l.getD k (dfl (.st .shape)))
    ·rw[if_pos q]at c;exact absurd c (by decide)
    ·omega
   rw[ht,Xd c,Bool.true_and]at h3;refine⟨by omega,hz,ab (fun e=>?_) (fun e=>?_)⟩
   ·have e:allS b9 (l.getD k (dfl (.st .shape)))=false:=by simpa using e
    rw[e,Bool.false_and]at h3;rw[h3]
   ·have e:allS b9 (l.getD k (dfl (.st .shape)))=true:=by simpa using e
    rw[e,Bool.true_and]at h3;exact⟨aL hk ln,k+1,⟨by omega,h3⟩,by omega,by omega⟩
 ·replace h:¬((k:Int)<(l.length:Int)):=fun e=>h (Xd e);have e:k=l.length:=by omega
  subst e;rw[h3,List.drop_length];rfl
theorem CQ(t:Trm)(n v s p:Int)  :
  if decide ((↑(List.length t.names):Int)=n)=true then if decide ((↑(List.length t.vars):Int)=v)=true then if decide ((↑(List.length t.shapes):Int)=s)=true then True/\decide ((↑(List.length t.parts):Int)=p)=b5 t n v s p/\True else True/\false=b5 t n v s p/\True else True/\false=b5 t n v s p/\True else True/\false=b5 t n v s p/\True:=by
 unfold b5
 repeat' (refine ab (fun _=>?_) (fun _=>?_))
 all_goals simp_all
theorem zH(s:Str)(hs:Wf .str s)(ho:s.length<=2000000) :
  (∃(x:Nat×Nat×List Int),(x.2.1<=List.length s/\List.length s-x.2.1<x.1/\List.length x.2.2<=x.2.1/\jy s x.1 x.2.1 x.2.2=eL s)/\(0:Int)=(↑x.2.1:Int)/\x.2.2=[]/\s=s/\List.length x.2.2=(0:Nat)/\(0:Int)=(0:Int)/\(0:Int)=(0:Int)/\True)/\∀(x:Nat×Nat×List Int),x.2.1<=List.length s/\List.length s-x.2.1<x.1/\List.length x.2.2<=x.2.1/\jy s x.1 x.2.1 x.2.2=eL s->if decide ((↑x.2.1:Int)<(↑(List.length s):Int))=true then((0:Int)<=(↑x.2.1:Int)/\(↑x.2.1:Int)<=(↑(List.length s):Int)/\(↑(List.length s):Int)<=(↑(List.length s):Int))/\if decide ((cP (List.drop (Int.toNat (↑x.2.1:Int)) (List.take (Int.toNat (↑(List.length s):Int)) s))).2=(0:Int))=true then True/\(eL s).1=[]/\(30:Int)=(eL s).2.err/\(↑x.2.1:Int)=(eL s).2.pos/\True else(List.length x.2.2=List.length x.2.2/\(List.length x.2.2+List.length [(cP (List.drop (Int.toNat (↑x.2.1:Int)) (List.take (Int.toNat (↑(List.length s):Int)) s))).1]) *(8:Nat)<=(140737488355328:Nat))/\inR IntKind.i64 ((↑x.2.1:Int)+(cP (List.drop (Int.toNat (↑x.2.1:Int)) (List.take (Int.toNat (↑(List.length s):Int)) s))).2)/\∃(y:Nat×Nat×List Int),(y.2.1<=List.length s/\List.length s-y.2.1<y.1/\List.length y.2.2<=y.2.1/\jy s y.1 y.2.1 y.2.2=eL s)/\List.length s-y.2.1<List.length s-x.2.1/\(↑x.2.1:Int)+(cP (List.drop (Int.toNat (↑x.2.1:Int)) (List.take (Int.toNat (↑(List.length s):Int)) s))).2=(↑y.2.1:Int)/\x.2.2++[(cP (List.drop (Int.toNat (↑x.2.1:Int)) (List.take (Int.toNat (↑(List.length s):Int)) s))).1]=y.2.2/\s=s/\List.length (x.2.2++[(cP (List.drop (Int.toNat (↑x.2.1:Int)) (List.take (Int.toNat (↑(List.length s):Int)) s))).1])=List.length y.2.2/\(0:Int)=(0:Int)/\(0:Int)=(0:Int)/\True else True/\x.2.2=(eL s).1/\(0:Int)=(eL s).2.err/\(0:Int)=(eL s).2.pos/\True:=by
 have ln:=hs.str;simp only[Int.toNat_natCast,eq_self,true_and,and_true,List.take_length,vW];refine⟨⟨(s.length+1,0,[]),⟨Nat.zero_le _,by simp,by simp,rfl⟩,by simp,rfl,rfl⟩,?_⟩;rintro⟨f,i,acc⟩ ⟨h1,h2,h3,h4⟩;simp only at h1 h2 h3 h4⊢;obtain⟨g,rfl⟩:∃g,f=g+1:=⟨f-1,by omega⟩;rw[jy]at h4;refine ab (fun h=>?_) (fun h=>?_)
 ·replace h:=Xo h;have hk:i<s.length:=by omega
  rw[if_pos hk]at h4;refine⟨by omega,ab (fun e=>?_) (fun e=>?_)⟩
  ·have e:ib (s.drop i)=0:=by have:=Xo e;omega
   rw[if_pos e]at h4;rw[<-h4];exact⟨rfl,rfl,rfl⟩
  ·have e:¬ib (s.drop i)=0:=fun q=>e (Xd (by omega));rw[if_neg e]at h4;have hu:=AN (s:=s) (n:=i) h1;refine⟨by simp only[List.length_singleton];omega,b8 (by omega) (by omega),(g,i+ib (s.drop i),acc++[(cP (s.drop i)).1]),⟨hu,by simp only;omega,by simp only[List.length_append,List.length_singleton];omega,h4⟩,by simp only;omega,by simp only;omega,rfl,rfl⟩
 ·have hk:¬i<s.length:=fun e=>h (Xd (by omega));rw[if_neg hk]at h4;rw[<-h4];exact⟨rfl,rfl,rfl⟩
theorem F4(s:Str)(hs:Wf .str s)(ho:s.length<=2000000) :
  (∃(x:Nat),(x<=List.length s/\List.all s cG=List.all (List.drop x s) cG)/\(0:Int)=(↑x:Int)/\s=s/\True)/\∀(x:Nat),x<=List.length s/\List.all s cG=List.all (List.drop x s) cG->if decide ((↑x:Int)<(↑(List.length s):Int))=true then((0:Int)<=(↑x:Int)/\(↑x:Int)<(↑(List.length s):Int))/\if decide ((↑(UInt8.toNat (List.getD s (Int.toNat (↑x:Int)) (0:UInt8))):Int)<(32:Int))=true then((0:Int)<=(↑x:Int)/\(↑x:Int)<(↑(List.length s):Int))/\if(!decide ((↑(UInt8.toNat (List.getD s (Int.toNat (↑x:Int)) (0:UInt8))):Int)=(9:Int)))=true then((0:Int)<=(↑x:Int)/\(↑x:Int)<(↑(List.length s):Int))/\if(!decide ((↑(UInt8.toNat (List.getD s (Int.toNat (↑x:Int)) (0:UInt8))):Int)=(10:Int)))=true then True/\false=fY s/\True else inR IntKind.i64 ((↑x:Int)+(1:Int))/\∃(y:Nat),(y<=List.length s/\List.all s cG=List.all (List.drop y s) cG)/\List.length s-y<List.length s-x/\(↑x:Int)+(1:Int)=(↑y:Int)/\s=s/\True else inR IntKind.i64 ((↑x:Int)+(1:Int))/\∃(y:Nat),(y<=List.length s/\List.all s cG=List.all (List.drop y s) cG)/\List.length s-y<List.length s-x/\(↑x:Int)+(1:Int)=(↑y:Int)/\s=s/\True else inR IntKind.i64 ((↑x:Int)+(1:Int))/\∃(y:Nat),(y<=List.length s/\List.all s cG=List.all (List.drop y s) cG)/\List.length s-y<List.length s-x/\(↑x:Int)+(1:Int)=(↑y:Int)/\s=s/\True else List.length s<=(2000000:Nat)/\True/\decide ((eL s).2.err=(0:Int))=fY s/\True:=by
 have ln:=hs.str;simp only[Int.toNat_natCast,eq_self,true_and,and_true];refine⟨⟨0,⟨Nat.zero_le _,rfl⟩,rfl⟩,?_⟩;rintro k ⟨h1,h3⟩;refine ab (fun h=>?_) (fun h=>?_)
 ·replace h:=Xo h;have hk:k<s.length:=by omega
  rw[aA s k 0 hk,List.all_cons]at h3;have hq:=sF (s.getD k 0);have eb:(UInt8.toNat (s.getD k 0):Int)=bI (s.getD k 0):=rfl;clear eb;have nx:cG (s.getD k 0)=true->inR IntKind.i64 ((k:Int)+1)/\∃y:Nat,(y<=s.length/\s.all cG=(s.drop y).all cG)/\s.length-y<s.length-k/\(k:Int)+1=(y:Int):=by intro q;rw[q,Bool.true_and]at h3;exact⟨aL hk ln,k+1,⟨by omega,h3⟩,by omega,by omega⟩
  have nq:¬(bI (s.getD k 0)<32/\bI (s.getD k 0)≠10/\bI (s.getD k 0)≠9)->cG (s.getD k 0)=true:=fun e=>by
   cases q:cG (s.getD k 0)
   ·exact absurd (hq.1 q) e
   ·rfl
  refine⟨by omega,ab (fun a=>?_) (fun a=>?_)⟩
  ·replace a:=Xo a;refine⟨by omega,ab (fun c=>?_) (fun c=>?_)⟩
   ·have c:¬(UInt8.toNat (s.getD k 0):Int)=9:=by simpa using c
    refine⟨by omega,ab (fun d=>?_) (fun d=>?_)⟩
    ·have d:¬(UInt8.toNat (s.getD k 0):Int)=10:=by simpa using d
     rw[hq.2 ⟨a,d,c⟩,Bool.false_and]at h3;unfold fY;rw[h3];rfl
    ·have d:(UInt8.toNat (s.getD k 0):Int)=10:=by simpa using d
     exact nx (nq (fun e=>e.2.1 d))
   ·have c:(UInt8.toNat (s.getD k 0):Int)=9:=by simpa using c
    exact nx (nq (fun e=>e.2.2 c))
  ·exact nx (nq (fun e=>a (Xd e.1)))
 ·have e:k=s.length:=by have:¬((k:Int)<(s.length:Int)):=fun e=>h (Xd e);omega
  subst e;rw[List.drop_length]at h3;exact⟨ho,yO h3⟩
theorem F5(t:Trm)(ht:Wf (.st .term) t)(ho:t.name.length<=2000000/\t.names.length<=2000000) :
  if decide (t.pos<(0:Int))=true then True/\false=ag t/\True else if(!ed t.names true)=true then True/\false=ag t/\True else if(!ed t.vars false)=true then True/\false=ag t/\True else if(!List.all t.shapes bD)=true then True/\false=ag t/\True else if(!decide (t.kind=(1:Int)))=true then if(!decide (t.n=(0:Int)))=true then True/\false=ag t/\True else if(!decide (t.kind=(5:Int)))=true then if(!decide (t.pkg=[]))=true then True/\false=ag t/\True else if decide (t.kind=(1:Int))=true then if decide (t.name=[])=true then if decide ((0:Int)<=t.n)=true then if decide (t.n<=(999999999999999:Int))=true then True/\b5 t (0:Int) (0:Int) (0:Int) (0:Int)=ag t/\True else True/\false=ag t/\True else True/\false=ag t/\True else True/\false=ag t/\True else if decide (t.kind=(2:Int))=true then List.length t.name<=(2000000:Nat)/\if fY t.name=true then True/\b5 t (0:Int) (0:Int) (0:Int) (0:Int)=ag t/\True else True/\false=ag t/\True else if decide (t.kind=(3:Int))=true then if decide (t.name=[])=true then True/\b5 t (0:Int) (0:Int) (0:Int) (0:Int)=ag t/\True else True/\false=ag t/\True else if decide (t.kind=(4:Int))=true then if decide (t.name=[])=true then True/\b5 t (0:Int) (0:Int) (0:Int) (0:Int)=ag t/\True else True/\false=ag t/\True else if decide (t.kind=(5:Int))=true then if aI t.name=true then if decide (t.pkg=[])=true then True/\b5 t (0:Int) (0:Int) (0:Int) (0:Int)=ag t/\True else if aI t.pkg=true then True/\b5 t (0:Int) (0:Int) (0:Int) (0:Int)=ag t/\True else True/\false=ag t/\True else True/\false=ag t/\True else if decide (t.kind=(6:Int))=true then if decide (t.name=[])=true then if decide ((↑(List.length t.names):Int)<=(4096:Int))=true then True/\b5 t (↑(List.length t.names):Int) (0:Int) (↑(List.length t.names):Int) (1:Int)=ag t/\True else True/\false=ag t/\True else True/\false=ag t/\True else if decide (t.kind=(7:Int))=true then if decide (t.name=[])=true then if decide ((1:Int)<=(↑(List.length t.parts):Int))=true then True/\b5 t (0:Int) (0:Int) (0:Int) (↑(List.length t.parts):Int)=ag t/\True else True/\false=ag t/\True else True/\false=ag t/\True else if decide (t.kind=(8:Int))=true then if decide (t.name=[])=true then True/\b5 t (↑(List.length t.names):Int) (0:Int) (0:Int) (↑(List.length t.names):Int)=ag t/\True else True/\false=ag t/\True else if decide (t.kind=(9:Int))=true then if aI t.name=true then True/\b5 t (0:Int) (0:Int) (0:Int) (1:Int)=ag t/\True else True/\false=ag t/\True else if decide (t.kind=(10:Int))=true then if aI t.name=true then True/\b5 t (0:Int) (0:Int) (0:Int) (1:Int)=ag t/\True else True/\false=ag t/\True else if decide (t.kind=(11:Int))=true then if decide (t.name=[])=true then True/\b5 t (0:Int) (0:Int) (1:Int) (↑(List.length t.parts):Int)=ag t/\True else True/\false=ag t/\True else if decide (t.kind=(12:Int))=true then if decide (t.name=[])=true then True/\b5 t (0:Int) (0:Int) (1:Int) (3:Int)=ag t/\True else True/\false=ag t/\True else if decide (t.kind=(13:Int))=true then if decide (t.name=[])=true then inR IntKind.i64 ((↑(List.length t.names):Int)+(1:Int))/\inR IntKind.i64 ((↑(List.length t.names):Int)+(1:Int))/\True/\b5 t (↑(List.length t.names):Int) (↑(List.length t.names):Int) ((↑(List.length t.names):Int)+(1:Int)) ((↑(List.length t.names):Int)+(1:Int))=ag t/\True else True/\false=ag t/\True else if decide (t.kind=(14:Int))=true
  then if aI t.name=true then True/\b5 t (0:Int) (0:Int) (0:Int) (2:Int)=ag t/\True else True/\false=ag t/\True else if decide (t.kind=(15:Int))=true then if decide (t.name=[])=true then True/\b5 t (0:Int) (0:Int) (1:Int) (1:Int)=ag t/\True else True/\false=ag t/\True else if decide (t.kind=(16:Int))=true then if aY t.name=true then True/\b5 t (0:Int) (0:Int) (0:Int) (1:Int)=ag t/\True else True/\false=ag t/\True else if decide (t.kind=(17:Int))=true then if aY t.name=true then True/\b5 t (0:Int) (0:Int) (0:Int) (1:Int)=ag t/\True else True/\false=ag t/\True else True/\false=ag t/\True else if decide (t.kind=(1:Int))=true then if decide (t.name=[])=true then if decide ((0:Int)<=t.n)=true then if decide (t.n<=(999999999999999:Int))=true then True/\b5 t (0:Int) (0:Int) (0:Int) (0:Int)=ag t/\True else True/\false=ag t/\True else True/\false=ag t/\True else True/\false=ag t/\True else if decide (t.kind=(2:Int))=true then List.length t.name<=(2000000:Nat)/\if fY t.name=true then True/\b5 t (0:Int) (0:Int) (0:Int) (0:Int)=ag t/\True else True/\false=ag t/\True else if decide (t.kind=(3:Int))=true then if decide (t.name=[])=true then True/\b5 t (0:Int) (0:Int) (0:Int) (0:Int)=ag t/\True else True/\false=ag t/\True else if decide (t.kind=(4:Int))=true then if decide (t.name=[])=true then True/\b5 t (0:Int) (0:Int) (0:Int) (0:Int)=ag t/\True else True/\false=ag t/\True else if decide (t.kind=(5:Int))=true then if aI t.name=true then if decide (t.pkg=[])=true then True/\b5 t (0:Int) (0:Int) (0:Int) (0:Int)=ag t/\True else if aI t.pkg=true then True/\b5 t (0:Int) (0:Int) (0:Int) (0:Int)=ag t/\True else True/\false=ag t/\True else True/\false=ag t/\True else if decide (t.kind=(6:Int))=true then if decide (t.name=[])=true then if decide ((↑(List.length t.names):Int)<=(4096:Int))=true then True/\b5 t (↑(List.length t.names):Int) (0:Int) (↑(List.length t.names):Int) (1:Int)=ag t/\True else True/\false=ag t/\True else True/\false=ag t/\True else if decide (t.kind=(7:Int))=true then if decide (t.name=[])=true then if decide ((1:Int)<=(↑(List.length t.parts):Int))=true then True/\b5 t (0:Int) (0:Int) (0:Int) (↑(List.length t.parts):Int)=ag t/\True else True/\false=ag t/\True else True/\false=ag t/\True else if decide (t.kind=(8:Int))=true then if decide (t.name=[])=true then True/\b5 t (↑(List.length t.names):Int) (0:Int) (0:Int) (↑(List.length t.names):Int)=ag t/\True else True/\false=ag t/\True else if decide (t.kind=(9:Int))=true then if aI t.name=true then True/\b5 t (0:Int) (0:Int) (0:Int) (1:Int)=ag t/\True else True/\false=ag t/\True else if decide (t.kind=(10:Int))=true then if aI t.name=true then True/\b5 t (0:Int) (0:Int) (0:Int) (1:Int)=ag t/\True else True/\false=ag t/\True else if decide (t.kind=(11:Int))=true then if decide (t.name=[])=true then True/\b5 t (0:Int) (0:Int) (1:Int) (↑(List.length t.parts):Int)=ag t/\True else True/\false=ag t/\True else if decide (t.kind=(12:Int))=true then if decide (t.name=[])=true then True/\b5 t (0:Int) (0:Int) (1:Int) (3:Int)=ag t/\True else True/\false=ag t/\True else if decide (t.kind=(13:Int))=true then if decide (t.name=[])=true then inR IntKind.i64 ((↑(List.length t.names):Int)+(1:Int))/\inR IntKind.i64 ((↑(List.length t.names):Int)+(1:Int))/\True
  /\b5 t (↑(List.length t.names):Int) (↑(List.length t.names):Int) ((↑(List.length t.names):Int)+(1:Int)) ((↑(List.length t.names):Int)+(1:Int))=ag t/\True else True/\false=ag t/\True else if decide (t.kind=(14:Int))=true then if aI t.name=true then True/\b5 t (0:Int) (0:Int) (0:Int) (2:Int)=ag t/\True else True/\false=ag t/\True else if decide (t.kind=(15:Int))=true then if decide (t.name=[])=true then True/\b5 t (0:Int) (0:Int) (1:Int) (1:Int)=ag t/\True else True/\false=ag t/\True else if decide (t.kind=(16:Int))=true then if aY t.name=true then True/\b5 t (0:Int) (0:Int) (0:Int) (1:Int)=ag t/\True else True/\false=ag t/\True else if decide (t.kind=(17:Int))=true then if aY t.name=true then True/\b5 t (0:Int) (0:Int) (0:Int) (1:Int)=ag t/\True else True/\false=ag t/\True else True/\false=ag t/\True else if(!decide (t.kind=(5:Int)))=true then if(!decide (t.pkg=[]))=true then True/\false=ag t/\True else if decide (t.kind=(1:Int))=true then if decide (t.name=[])=true then if decide ((0:Int)<=t.n)=true then if decide (t.n<=(999999999999999:Int))=true then True/\b5 t (0:Int) (0:Int) (0:Int) (0:Int)=ag t/\True else True/\false=ag t/\True else True/\false=ag t/\True else True/\false=ag t/\True else if decide (t.kind=(2:Int))=true then List.length t.name<=(2000000:Nat)/\if fY t.name=true then True/\b5 t (0:Int) (0:Int) (0:Int) (0:Int)=ag t/\True else True/\false=ag t/\True else if decide (t.kind=(3:Int))=true then if decide (t.name=[])=true then True/\b5 t (0:Int) (0:Int) (0:Int) (0:Int)=ag t/\True else True/\false=ag t/\True else if decide (t.kind=(4:Int))=true then if decide (t.name=[])=true then True/\b5 t (0:Int) (0:Int) (0:Int) (0:Int)=ag t/\True else True/\false=ag t/\True else if decide (t.kind=(5:Int))=true then if aI t.name=true then if decide (t.pkg=[])=true then True/\b5 t (0:Int) (0:Int) (0:Int) (0:Int)=ag t/\True else if aI t.pkg=true then True/\b5 t (0:Int) (0:Int) (0:Int) (0:Int)=ag t/\True else True/\false=ag t/\True else True/\false=ag t/\True else if decide (t.kind=(6:Int))=true then if decide (t.name=[])=true then if decide ((↑(List.length t.names):Int)<=(4096:Int))=true then True/\b5 t (↑(List.length t.names):Int) (0:Int) (↑(List.length t.names):Int) (1:Int)=ag t/\True else True/\false=ag t/\True else True/\false=ag t/\True else if decide (t.kind=(7:Int))=true then if decide (t.name=[])=true then if decide ((1:Int)<=(↑(List.length t.parts):Int))=true then True/\b5 t (0:Int) (0:Int) (0:Int) (↑(List.length t.parts):Int)=ag t/\True else True/\false=ag t/\True else True/\false=ag t/\True else if decide (t.kind=(8:Int))=true then if decide (t.name=[])=true then True/\b5 t (↑(List.length t.names):Int) (0:Int) (0:Int) (↑(List.length t.names):Int)=ag t/\True else True/\false=ag t/\True else if decide (t.kind=(9:Int))=true then if aI t.name=true then True/\b5 t (0:Int) (0:Int) (0:Int) (1:Int)=ag t/\True else True/\false=ag t/\True else if decide (t.kind=(10:Int))=true then if aI t.name=true then True/\b5 t (0:Int) (0:Int) (0:Int) (1:Int)=ag t/\True else True/\false=ag t/\True else if decide (t.kind=(11:Int))=true then if decide (t.name=[])=true then True/\b5 t (0:Int) (0:Int) (1:Int) (↑(List.length t.parts):Int)=ag t/\True else True/\false=ag t/\True else if decide (t.kind=(12:Int))=true then if decide (t.name=[])=true then True
  /\b5 t (0:Int) (0:Int) (1:Int) (3:Int)=ag t/\True else True/\false=ag t/\True else if decide (t.kind=(13:Int))=true then if decide (t.name=[])=true then inR IntKind.i64 ((↑(List.length t.names):Int)+(1:Int))/\inR IntKind.i64 ((↑(List.length t.names):Int)+(1:Int))/\True/\b5 t (↑(List.length t.names):Int) (↑(List.length t.names):Int) ((↑(List.length t.names):Int)+(1:Int)) ((↑(List.length t.names):Int)+(1:Int))=ag t/\True else True/\false=ag t/\True else if decide (t.kind=(14:Int))=true then if aI t.name=true then True/\b5 t (0:Int) (0:Int) (0:Int) (2:Int)=ag t/\True else True/\false=ag t/\True else if decide (t.kind=(15:Int))=true then if decide (t.name=[])=true then True/\b5 t (0:Int) (0:Int) (1:Int) (1:Int)=ag t/\True else True/\false=ag t/\True else if decide (t.kind=(16:Int))=true then if aY t.name=true then True/\b5 t (0:Int) (0:Int) (0:Int) (1:Int)=ag t/\True else True/\false=ag t/\True else if decide (t.kind=(17:Int))=true then if aY t.name=true then True/\b5 t (0:Int) (0:Int) (0:Int) (1:Int)=ag t/\True else True/\false=ag t/\True else True/\false=ag t/\True else if decide (t.kind=(1:Int))=true then if decide (t.name=[])=true then if decide ((0:Int)<=t.n)=true then if decide (t.n<=(999999999999999:Int))=true then True/\b5 t (0:Int) (0:Int) (0:Int) (0:Int)=ag t/\True else True/\false=ag t/\True else True/\false=ag t/\True else True/\false=ag t/\True else if decide (t.kind=(2:Int))=true then List.length t.name<=(2000000:Nat)/\if fY t.name=true then True/\b5 t (0:Int) (0:Int) (0:Int) (0:Int)=ag t/\True else True/\false=ag t/\True else if decide (t.kind=(3:Int))=true then if decide (t.name=[])=true then True/\b5 t (0:Int) (0:Int) (0:Int) (0:Int)=ag t/\True else True/\false=ag t/\True else if decide (t.kind=(4:Int))=true then if decide (t.name=[])=true then True/\b5 t (0:Int) (0:Int) (0:Int) (0:Int)=ag t/\True else True/\false=ag t/\True else if decide (t.kind=(5:Int))=true then if aI t.name=true then if decide (t.pkg=[])=true then True/\b5 t (0:Int) (0:Int) (0:Int) (0:Int)=ag t/\True else if aI t.pkg=true then True/\b5 t (0:Int) (0:Int) (0:Int) (0:Int)=ag t/\True else True/\false=ag t/\True else True/\false=ag t/\True else if decide (t.kind=(6:Int))=true then if decide (t.name=[])=true then if decide ((↑(List.length t.names):Int)<=(4096:Int))=true then True/\b5 t (↑(List.length t.names):Int) (0:Int) (↑(List.length t.names):Int) (1:Int)=ag t/\True else True/\false=ag t/\True else True/\false=ag t/\True else if decide (t.kind=(7:Int))=true then if decide (t.name=[])=true then if decide ((1:Int)<=(↑(List.length t.parts):Int))=true then True/\b5 t (0:Int) (0:Int) (0:Int) (↑(List.length t.parts):Int)=ag t/\True else True/\false=ag t/\True else True/\false=ag t/\True else if decide (t.kind=(8:Int))=true then if decide (t.name=[])=true then True/\b5 t (↑(List.length t.names):Int) (0:Int) (0:Int) (↑(List.length t.names):Int)=ag t/\True else True/\false=ag t/\True else if decide (t.kind=(9:Int))=true then if aI t.name=true then True/\b5 t (0:Int) (0:Int) (0:Int) (1:Int)=ag t/\True else True/\false=ag t/\True else if decide (t.kind=(10:Int))=true then if aI t.name=true then True/\b5 t (0:Int) (0:Int) (0:Int) (1:Int)=ag t/\True else True/\false=ag t/\True else if decide (t.kind=(11:Int))=true then if decide (t.name=[])=true then True
  /\b5 t (0:Int) (0:Int) (1:Int) (↑(List.length t.parts):Int)=ag t/\True else True/\false=ag t/\True else if decide (t.kind=(12:Int))=true then if decide (t.name=[])=true then True/\b5 t (0:Int) (0:Int) (1:Int) (3:Int)=ag t/\True else True/\false=ag t/\True else if decide (t.kind=(13:Int))=true then if decide (t.name=[])=true then inR IntKind.i64 ((↑(List.length t.names):Int)+(1:Int))/\inR IntKind.i64 ((↑(List.length t.names):Int)+(1:Int))/\True/\b5 t (↑(List.length t.names):Int) (↑(List.length t.names):Int) ((↑(List.length t.names):Int)+(1:Int)) ((↑(List.length t.names):Int)+(1:Int))=ag t/\True else True/\false=ag t/\True else if decide (t.kind=(14:Int))=true then if aI t.name=true then True/\b5 t (0:Int) (0:Int) (0:Int) (2:Int)=ag t/\True else True/\false=ag t/\True else if decide (t.kind=(15:Int))=true then if decide (t.name=[])=true then True/\b5 t (0:Int) (0:Int) (1:Int) (1:Int)=ag t/\True else True/\false=ag t/\True else if decide (t.kind=(16:Int))=true then if aY t.name=true then True/\b5 t (0:Int) (0:Int) (0:Int) (1:Int)=ag t/\True else True/\false=ag t/\True else if decide (t.kind=(17:Int))=true then if aY t.name=true then True/\b5 t (0:Int) (0:Int) (0:Int) (1:Int)=ag t/\True else True/\false=ag t/\True else True/\false=ag t/\True:=by
 have dnQ:∀n:Nat,decide ((1:Int)<=(n:Int))=decide (0<n):=fun n=>decide_eq_decide.2 (by omega);have b1:jF t=false->ag t=false:=fun e=>by unfold ag;rw[e,Bool.and_false]
 have b2:eZ t=false->ag t=false:=fun e=>by unfold ag;rw[e,Bool.false_and]
 simp only[eq_self,true_and,and_true];refine ab (fun h=>?_) (fun h1=>?_)
 ·symm;apply b2;unfold eZ;have:=Xo h;rw[Xf (by omega)];rfl
 replace h1:¬t.pos<0:=fun e=>h1 (Xd e);refine ab (fun h=>?_) (fun h2=>?_)
 ·exact(yP (by simpa using h)).symm
 have h2:ed t.names true=true:=by simpa using h2
 refine ab (fun h=>?_) (fun h3=>?_)
 ·exact(BY (by simpa using h)).symm
 have h3:ed t.vars false=true:=by simpa using h3
 have h3:t.vars.all aI=true:=by unfold ed at h3;rw[Bool.and_eq_true]at h3;exact h3.1
 have h2:ku t.names=true:=by unfold ed at h2;unfold ku;simpa using h2
 refine ab (fun h=>?_) (fun h4=>?_)
 ·have h:t.shapes.all bD=false:=by simpa using h
  symm;apply b2;unfold eZ;rw[h,Bool.and_false]
 have h4:t.shapes.all bD=true:=by simpa using h4
 have hd:eZ t=((decide (t.n=0)||decide (t.kind=1))&&(decide (t.pkg=[])||decide (t.kind=5))):=by unfold eZ;rw[Xd (by omega),h4,Bool.true_and,Bool.and_true]
 have hb:eZ t=true->ag t=jF t:=fun e=>by unfold ag;rw[e,Bool.true_and]
 clear h1 h4;have eb:((decide (t.n=0)||decide (t.kind=1))&&(decide (t.pkg=[])||decide (t.kind=5)))=true->ag t=jF t:=fun e=>hb (hd.trans e);have e5:((decide (t.n=0)||decide (t.kind=1))&&(decide (t.pkg=[])||decide (t.kind=5)))=false->ag t=false:=fun e=>b2 (hd.trans e);clear hd hb b1 b2;refine ab (fun k1=>?_) (fun k1=>?_)
 ·have k1:¬t.kind=1:=by simpa using k1
  refine ab (fun k2=>?_) (fun k2=>?_)
  ·have k2:¬t.n=0:=by simpa using k2
   symm;apply e5;rw[Xf k1,Xf k2];rfl
  have k2:t.n=0:=by simpa using k2
  refine ab (fun k3=>?_) (fun k3=>?_)
  ·have k3:¬t.kind=5:=by simpa using k3
   refine ab (fun k4=>?_) (fun k4=>?_)
   ·have k4:¬t.pkg=[]:=by simpa using k4
    symm;apply e5;rw[Xf k3,Xf k4,Bool.or_false,Bool.and_false]
   ·have k4:t.pkg=[]:=by simpa using k4
    rw[eb (by rw[Xd k2,Xd k4];rfl)];clear eb e5;unfold jF b5 eY;rw[h2,h3];simp only[dnZ,dn1,dn2,dn3,dnN,dnS,dnL,dnP,dnQ];clear h2 h3
    repeat' (first|refine ab (fun _=>?_) (fun _=>?_)|refine⟨b8 (by omega) (by have:=ho.2;omega),?_⟩|refine And.intro ho.1 ?_|fail)
    all_goals (first|(simp_all;done)|(simp_all;intros;omega))
  ·have k3:t.kind=5:=by simpa using k3
   rw[eb (by rw[Xd k2,Xd k3,Bool.or_true];rfl)];clear eb e5;unfold jF b5 eY;rw[h2,h3];simp only[dnZ,dn1,dn2,dn3,dnN,dnS,dnL,dnP,dnQ];clear h2 h3
   repeat' (first|refine ab (fun _=>?_) (fun _=>?_)|refine⟨b8 (by omega) (by have:=ho.2;omega),?_⟩|refine And.intro ho.1 ?_|fail)
   all_goals (first|(simp_all;done)|(simp_all;intros;omega))
 ·have k1:t.kind=1:=by simpa using k1
  refine ab (fun k3=>?_) (fun k3=>?_)
  ·have k3:¬t.kind=5:=by simpa using k3
   refine ab (fun k4=>?_) (fun k4=>?_)
   ·have k4:¬t.pkg=[]:=by simpa using k4
    symm;apply e5;rw[Xf k3,Xf k4,Bool.or_false,Bool.and_false]
   ·have k4:t.pkg=[]:=by simpa using k4
    rw[eb (by rw[Xd k1,Xd k4,Bool.or_true];rfl)];clear eb e5;unfold jF b5 eY;rw[h2,h3];simp only[dnZ,dn1,dn2,dn3,dnN,dnS,dnL,dnP,dnQ];clear h2 h3
    repeat' (first|refine ab (fun _=>?_) (fun _=>?_)|refine⟨b8 (by omega) (by have:=ho.2;omega),?_⟩|refine And.intro ho.1 ?_|fail)
    all_goals (first|(simp_all;done)|(simp_all;intros;omega))
  ·have k3:t.kind=5:=by simpa using k3
   rw[k1]at k3;exact absurd k3 (by decide)
theorem CR(n:Nat)(t:Trm)(ht:Wf (.st .term) t)(hn:szT t<=n+1)(ho:di t=true) :
  (List.length t.name<=(2000000:Nat)/\List.length t.names<=(2000000:Nat))/\if(!ag t)=true then True/\false=allT ag t/\True else(∃(x:Nat),(x<=List.length t.parts/\allT ag t=allTL ag (List.drop x t.parts))/\(0:Int)=(↑x:Int)/\t=t/\false=false/\t=t/\True)/\∀(x:Nat),x<=List.length t.parts/\allT ag t=allTL ag (List.drop x t.parts)->if decide ((↑x:Int)<(↑(List.length t.parts):Int))=true then((0:Int)<=(↑x:Int)/\(↑x:Int)<(↑(List.length t.parts):Int))/\(szT (List.getD t.parts (Int.toNat (↑x:Int)) (dfl (Ty.st SN.term)))<=n/\di (List.getD t.parts (Int.toNat (↑x:Int)) (dfl (Ty.st SN.term)))=true)/\if(!allT ag (List.getD t.parts (Int.toNat (↑x:Int)) (dfl (Ty.st SN.term))))=true then True/\false=allT ag t/\True else inR IntKind.i64 ((↑x:Int)+(1:Int))/\∃(y:Nat),(y<=List.length t.parts/\allT ag t=allTL ag (List.drop y t.parts))/\List.length t.parts-y<List.length t.parts-x/\(↑x:Int)+(1:Int)=(↑y:Int)/\t=t/\false=false/\t=t/\True else True/\true=allT ag t/\True:=by
 have ln:=ht.term_parts.len;have hz:=jt t;simp only[Int.toNat_natCast,eq_self,true_and,and_true];refine⟨yR ho,?_⟩;refine ab (fun h=>?_) (fun h=>?_)
 ·have h:ag t=false:=by simpa using h
  rw[allT_eq,h];rfl
 have h:ag t=true:=by simpa using h
 refine⟨⟨0,⟨Nat.zero_le _,by rw[allT_eq,h];rfl⟩,rfl⟩,?_⟩;rintro k ⟨h1,h3⟩;refine ab (fun h=>?_) (fun h=>?_)
 ·replace h:=Xo h;have hk:k<t.parts.length:=by omega
  have hm:=iy (getD_mem t.parts k (dfl (.st .term)) hk);rw[aA t.parts k (dfl (.st .term)) hk]at h3;simp only[allTL]at h3;refine⟨by omega,⟨by omega,yQ ho (getD_mem t.parts k (dfl (.st .term)) hk)⟩,?_⟩;cases e:allT ag (t.parts.getD k (dfl (.st .term)))
  ·rw[e]at h3;rw[h3];simp
  ·simp only[e,Bool.true_and]at h3;exact⟨aL hk ln,k+1,⟨by omega,h3⟩,by omega,by omega⟩
 ·replace h:¬((k:Int)<(t.parts.length:Int)):=fun e=>h (Xd e);have e:k=t.parts.length:=by omega
  subst e;rw[h3,List.drop_length];rfl
theorem F6(n:Nat)(s:Trm)(hs:Wf (.st .term) s)(hn:szT s<=n+1)(hb:n<=1000000) :
  (∃(x:Nat×Int),(x.1<=List.length s.parts/\(0:Int)<=x.2/\max x.2 (↑(maxDT (List.drop x.1 s.parts)):Int)=(↑(maxDT s.parts):Int))/\(0:Int)=x.2/\(0:Int)=(↑x.1:Int)/\s=s/\(0:Int)=(0:Int)/\s=s/\True)/\∀(x:Nat×Int),x.1<=List.length s.parts/\(0:Int)<=x.2/\max x.2 (↑(maxDT (List.drop x.1 s.parts)):Int)=(↑(maxDT s.parts):Int)->if decide ((↑x.1:Int)<(↑(List.length s.parts):Int))=true then((0:Int)<=(↑x.1:Int)/\(↑x.1:Int)<(↑(List.length s.parts):Int))/\szT (List.getD s.parts (Int.toNat (↑x.1:Int)) (dfl (Ty.st SN.term)))<=n/\if decide (x.2<(↑(deepT (List.getD s.parts (Int.toNat (↑x.1:Int)) (dfl (Ty.st SN.term)))):Int))=true then inR IntKind.i64 ((↑x.1:Int)+(1:Int))/\∃(y:Nat×Int),(y.1<=List.length s.parts/\(0:Int)<=y.2/\max y.2 (↑(maxDT (List.drop y.1 s.parts)):Int)=(↑(maxDT s.parts):Int))/\List.length s.parts-y.1<List.length s.parts-x.1/\(↑(deepT (List.getD s.parts (Int.toNat (↑x.1:Int)) (dfl (Ty.st SN.term)))):Int)=y.2/\(↑x.1:Int)+(1:Int)=(↑y.1:Int)/\s=s/\(0:Int)=(0:Int)/\s=s/\True else inR IntKind.i64 ((↑x.1:Int)+(1:Int))/\∃(y:Nat×Int),(y.1<=List.length s.parts/\(0:Int)<=y.2/\max y.2 (↑(maxDT (List.drop y.1 s.parts)):Int)=(↑(maxDT s.parts):Int))/\List.length s.parts-y.1<List.length s.parts-x.1/\x.2=y.2/\(↑x.1:Int)+(1:Int)=(↑y.1:Int)/\s=s/\(0:Int)=(0:Int)/\s=s/\True else inR IntKind.i64 (x.2+(1:Int))/\True/\x.2+(1:Int)=(↑(deepT s):Int)/\True:=by
 have ln:=hs.term_parts.len;have hz:=jt s;have hd:deepT s=maxDT s.parts+1:=by cases s;rw[deepT]
 have hds:=maxDT_sz s.parts;simp only[Int.toNat_natCast,eq_self,true_and,and_true];refine⟨⟨(0,0),⟨Nat.zero_le _,by simp,by simp only[List.drop_zero];omega⟩,rfl,rfl⟩,?_⟩;rintro⟨k,c⟩ ⟨h1,h2,h3⟩;simp only at h1 h2 h3⊢;refine ab (fun h=>?_) (fun h=>?_)
 ·replace h:=Xo h;have hk:k<s.parts.length:=by omega
  have hm:=iy (getD_mem s.parts k (dfl (.st .term)) hk);rw[aA s.parts k (dfl (.st .term)) hk]at h3;simp only[maxDT]at h3;refine⟨by omega,by omega,ab (fun a=>?_) (fun a=>?_)⟩
  ·replace a:=Xo a;exact⟨aL hk ln,(k+1,(deepT (s.parts.getD k (dfl (.st .term))):Int)),⟨by omega,by simp only;omega,by simp only;omega⟩,by simp only;omega,rfl,rfl⟩
  ·replace a:¬c<(deepT (s.parts.getD k (dfl (.st .term))):Int):=fun e=>a (Xd e);exact⟨aL hk ln,(k+1,c),⟨by omega,by simp only;omega,by simp only;omega⟩,by simp only;omega,rfl,rfl⟩
 ·replace h:¬((k:Int)<(s.parts.length:Int)):=fun e=>h (Xd e);have e:k=s.parts.length:=by omega
  subst e;rw[List.drop_length]at h3;simp only[maxDT]at h3;exact⟨b8 (by omega) (by omega),by omega⟩
theorem CS(s:Trm)(hs:Wf (.st .term) s)(ho:di s=true) :
  (szT s<=szT s/\(0:Int)<=(4096:Int)/\(4096:Int)<=(1000000:Int))/\if decide ((4096:Int)<dx s (4096:Int))=true then True/\(3:Int)=cC s/\True else szT s<=(4096:Nat)/\if decide ((40:Int)<(↑(deepT s):Int))=true then True/\(91:Int)=cC s/\True else(szT s<=(4096:Nat)/\di s=true)/\if(!allT ag s)=true then True/\(80:Int)=cC s/\True else True/\(0:Int)=cC s/\True:=by
 simp only[eq_self,true_and,and_true];rw[yK];refine⟨⟨Nat.le_refl _,by omega,by omega⟩,ab (fun h=>?_) (fun h=>?_)⟩
 ·rw[if_pos (Xo h)]
 ·have h':¬(4096:Int)<dx s 4096:=fun e=>h (Xd e);have hs4:szT s<=4096:=by rw[sizeT_eq s 4096 (by omega)]at h';omega
  rw[if_neg h'];refine⟨hs4,ab (fun g=>?_) (fun g=>⟨⟨hs4,ho⟩,?_⟩)⟩
  ·rw[if_pos (Xo g)]
  ·rw[if_neg (fun e=>g (Xd e))];cases allT ag s<;>simp
end Go.AL.Seat
end
section
open Go Go.AL Go.Proofs Go.Shelf Go.Pd
namespace Go.AL.Seat
open Go.Proofs.Tryz
variable [Tabs]
variable [SeatLaid]
theorem qY:ak prog 151 (p1 (.int .u8) fun c=>.ret (.bool (cd c))):=
 bp (ee func151) fun c _ _=>g0 sn a0 func151 (CJ c)
theorem qZ:ak prog 152 (p1 (.int .u8) fun c=>.ret (.bool (cr c))):=
 bp (ee func152) fun c _ _=>g0 sn a0 func152 (CK c)
theorem zI:ak prog 155 (p1 (.int .u8) fun c=>.ret (.bool (fv c))):=
 bp (ee func155) fun c _ _=>g0 sn a0 func155 (CL c)
theorem sY:ak prog 153 (p1 .str fun s=>.ret (.int .i64 (de s:Int))):=
 bp (ee func153) fun s hs _=>g0 (sc qY (sc qZ (sc zI sn))) ⟨[(2,fun S0=>⟨Nat,fun k=>k<=s.length/\de s=k+de (s.drop k),fun k=>[(3,.int .i64 k)],fun _=>[],fun k=>s.length-k⟩)],[],[]⟩ func153 (EV s hs)
theorem CT:ak prog 214 (p2 .str (.lst .str) fun s l=>.ret (.bool (decide (s∈l)))):=
 bR (ee func214) fun s l _ hl _=>g0 sn ⟨[(2,fun S0=>⟨Nat,fun k=>k<=l.length/\decide (s∈l)=decide (s∈l.drop k),fun k=>[(5,.int .i64 k)],fun _=>[],fun k=>l.length-k⟩)],[],[]⟩ func214 (EW s l hl)
theorem CU:ak prog 154 (p1 .str fun s=>.ret (.bool (dA s))):=
 bp (ee func154) fun s _ _=>g0 (sc CT sn) a0 func154 (EX s)
theorem kS:ak prog 116 (p1 .str fun s=>.ret (.bool (aI s))):=
 bp (ee func116) fun s _ _=>g0 (sc qY (sc sY (sc CU sn))) a0 func116 (EY s)
theorem r6:ak prog 119 (p1 .str fun s=>.ret (.bool (aY s))):=
 bp (ee func119) fun s _ _=>g0 (sc qZ (sc sY sn)) a0 func119 (CM s)
theorem zJ:ak prog 211 (p2 (.lst .str) (.int .i64) fun ns n=>.ret (.bool (fy ns n))):=
 bR (ee func211) fun ns n hl _ _=>g0 (sc kS sn) ⟨[(2,fun S0=>⟨Nat,fun k=>k<=ns.length/\(ns.take k).all aI=true/\(ns.take k).Nodup,fun k=>[(5,.int .i64 k)],fun _=>[],fun k=>ns.length-k⟩),(7,fun S0=>Dp S0 5 fun k0=>⟨Nat,fun j=>(j:Int)<=k0/\(ns.getD k0.toNat (dfl .str))∉ns.take j,fun j=>[(6,.int .i64 j)],fun _=>[],fun j=>k0.toNat-j⟩)],[],[]⟩ func211 (CN ns n hl)
theorem CV:ak prog 149 (p1 (.st .shape) fun s=>.ret (.bool (aj s))):=
 bp (ee func149) fun s hs _=>g0 (sc zJ (sc r6 (sc kS sn))) a0 func149 (EZ s hs)
theorem wX:aJ prog 89:=ee func89
theorem wY(n:Nat)(s:AL.Shape)(hs:Wf (.st .shape) s)(hn:sz s<=n+1)(hA:ak prog 89 (p1 (.st .shape) fun s=>⟨some (sz s<=n),none,.bool (allS aj s),[]⟩)):aF prog 89 [.st .shape s] [] (.ret (.bool (allS aj s))):=
 g0 (sc CV (sc (hA) sn)) ⟨[(4,fun S0=>⟨Nat,fun k=>k<=s.parts.length/\allS aj s=allL aj (s.parts.drop k),fun k=>[(3,.int .i64 k)],fun _=>[],fun k=>s.parts.length-k⟩)],[],[]⟩ func89 (F0 n s hs hn)
theorem CW:∀n:Nat,ak prog 89 (p1 (.st .shape) fun s=>⟨some (sz s<=n),none,.bool (allS aj s),[]⟩):=by
 intro n
 induction n with
 |zero=>exact bp wX fun a _ ho=>absurd (ho _ rfl) (by have:=dG a;omega)
 |succ n ih=>exact bp wX fun a hs ho=>wY n a hs (ho _ rfl) ih
theorem AR:aJ prog 88:=ee func88
theorem zK(n:Nat)(s:AL.Shape)(hs:Wf (.st .shape) s)(hn:sz s<=n+1)(hb:n<=1000000)(hA:ak prog 88 (p1 (.st .shape) fun s=>⟨some (sz s<=n),none,.int .i64 (deepF s:Int),[]⟩)):aF prog 88 [.st .shape s] [] (.ret (.int .i64 (deepF s:Int))):=
 g0 (sc (hA) sn) ⟨[(3,fun S0=>⟨Nat×Int,fun x=>x.1<=s.parts.length/\0<=x.2/\max x.2 (maxDeep (s.parts.drop x.1):Int)=maxDeep s.parts,fun x=>[(3,.int .i64 x.2),(4,.int .i64 x.1)],fun _=>[],fun x=>s.parts.length-x.1⟩)],[],[]⟩ func88 (Gr n s hs hn hb)
theorem F7:∀n:Nat,n<=1000000->ak prog 88 (p1 (.st .shape) fun s=>⟨some (sz s<=n),none,.int .i64 (deepF s:Int),[]⟩):=by
 intro n
 induction n with
 |zero=>exact fun _=>bp AR fun a _ ho=>absurd (ho _ rfl) (by have:=dG a;omega)
 |succ n ih=>exact fun hb=>bp AR fun a hs ho=>zK n a hs (ho _ rfl) (by omega) (ih (by omega))
theorem ij:ak prog 51 (p1 (.st .shape) fun s=>.ret (.int .i64 (aC s))):=
 bp (ee func51) fun s hs _=>g0 (sc (wv (sz s)) (sc (F7 400 (by decide)) (sc (CW 400) sn))) a0 func51 (CO s hs)
theorem CX:ak prog 212 (p1 (.int .i64) fun p=>.ret (.bool (ec p))):=
 bp (ee func212) fun p _ _=>g0 sn a0 func212 (F1 p)
theorem CY:ak prog 213 (p1 (.int .i64) fun p=>⟨some (0<=p/\p<=1114111),none,.str (dh p),[]⟩):=
 bp (ee func213) fun p _ ho=>g0 sn a0 func213 (F2 p (ho _ rfl))
theorem CZ:ak prog 150 (p1 .str fun s=>.ret (.tup [.int .i64 (cP s).1,.int .i64 (cP s).2])):=
 bp (ee func150) fun s hs _=>g0 (sc CX (sc CY sn)) ⟨[(16,fun S0=>⟨Nat,fun k=>1<=k/\k<=bK s/\(k=1->-300<=bc s k/\bc s k<=300)/\(k=2->-20000<=bc s k/\bc s k<=20000)/\(k=3->-1300000<=bc s k/\bc s k<=1300000)/\(k=4->-90000000<=bc s k/\bc s k<=90000000),fun k=>[(6,.int .i64 k),(5,.int .i64 (bc s k))],fun _=>[],fun k=>bK s-k⟩)],[],[(100013,fun S0=>⟨[(4,.int .i64 (bK s:Int)),(5,.int .i64 (fA s))],[]⟩)]⟩ func150 (F3 s hs)
theorem zL:ak prog 114 (p2 (.lst .str) .bool fun ns b=>.ret (.bool (ed ns b))):=
 bR (ee func114) fun ns b hl _ _=>g0 (sc kS sn) ⟨[(2,fun S0=>⟨Nat,fun k=>k<=ns.length/\(ns.take k).all aI=true/\(b=true->(ns.take k).Nodup),fun k=>[(5,.int .i64 k)],fun _=>[],fun k=>ns.length-k⟩),(7,fun S0=>Dp S0 5 fun k0=>⟨Nat,fun j=>(j:Int)<=k0/\(b=true->(ns.getD k0.toNat (dfl .str))∉ns.take j)/\(b=false->j=0),fun j=>[(6,.int .i64 j)],fun _=>[],fun j=>k0.toNat-j⟩)],[],[]⟩ func114 (CP ns b hl)
theorem r8:aJ prog 184:=ee func184
theorem s8(n:Nat)(s:AL.Shape)(hs:Wf (.st .shape) s)(hn:sz s<=n+1)(hA:ak prog 184 (p1 (.st .shape) fun s=>⟨some (sz s<=n),none,.bool (!allS b9 s),[]⟩)):aF prog 184 [.st .shape s] [] (.ret (.bool (!allS b9 s))):=
 g0 (sc (hA) sn) ⟨[(2,fun S0=>⟨Nat,fun k=>k<=s.parts.length/\allS b9 s=(b9 s&&allL b9 (s.parts.drop k)),fun k=>[(3,.int .i64 k)],fun _=>[],fun k=>s.parts.length-k⟩)],[],[]⟩ func184 (zF n s hs hn)
theorem wZ:∀n:Nat,ak prog 184 (p1 (.st .shape) fun s=>⟨some (sz s<=n),none,.bool (!allS b9 s),[]⟩):=by
 intro n
 induction n with
 |zero=>exact bp r8 fun a _ ho=>absurd (ho _ rfl) (by have:=dG a;omega)
 |succ n ih=>exact bp r8 fun a hs ho=>s8 n a hs (ho _ rfl) ih
theorem x9:ak prog 115 (p1 (.lst (.st .shape)) fun l=>.ret (.bool (l.all bD))):=
 bp (ee func115) fun l hl _=>g0 (sc ij (sc (wZ 400) sn)) ⟨[(2,fun S0=>⟨Nat,fun k=>k<=l.length/\l.all bD=(l.drop k).all bD,fun k=>[(3,.int .i64 k)],fun _=>[],fun k=>l.length-k⟩)],[],[]⟩ func115 (zG l hl)
theorem zM:ak prog 117 (p5 (.st .term) (.int .i64) (.int .i64) (.int .i64) (.int .i64) fun t n v s p=>.ret (.bool (b5 t n v s p))):=
 HH (ee func117) fun t n v s p _ _ _ _=>g0 sn a0 func117 (CQ t n v s p)
theorem xa:ak prog 185 (p1 .str fun s=>⟨some (s.length<=2000000),none,.tup [.lst (.int .i64) (eL s).1 none,.st .fault (eL s).2],[]⟩):=
 bp (ee func185) fun s hs ho=>g0 (sc CZ sn) ⟨[(3,fun S0=>⟨Nat×Nat×List Int,fun y=>y.2.1<=s.length/\s.length-y.2.1<y.1/\y.2.2.length<=y.2.1/\jy s y.1 y.2.1 y.2.2=eL s,fun y=>[(5,.int .i64 (y.2.1:Int)),(4,.lst (.int .i64) y.2.2 (some 701))],fun y=>[(701,.tail (.int .i64) y.2.2.length)],fun y=>s.length-y.2.1⟩)],[],[]⟩ func185 (zH s hs (ho _ rfl))
theorem D0:ak prog 118 (p1 .str fun s=>⟨some (s.length<=2000000),none,.bool (fY s),[]⟩):=
 bp (ee func118) fun s hs ho=>g0 (sc xa sn) ⟨[(2,fun S0=>⟨Nat,fun k=>k<=s.length/\s.all cG=(s.drop k).all cG,fun k=>[(3,.int .i64 k)],fun _=>[],fun k=>s.length-k⟩)],[],[]⟩ func118 (F4 s hs (ho _ rfl))
theorem D1:ak prog 66 (p1 (.st .term) fun t=>⟨some (t.name.length<=2000000/\t.names.length<=2000000),none,.bool (ag t),[]⟩):=
 bp (ee func66) fun t ht ho=>g0 (sc zL (sc x9 (sc kS (sc r6 (sc zM (sc D0 sn)))))) a0 func66 (F5 t ht (ho _ rfl))
theorem sZ:aJ prog 45:=ee func45
theorem uJ(n:Nat)(t:Trm)(ht:Wf (.st .term) t)(hn:szT t<=n+1)(ho:di t=true)(hA:ak prog 45 (p1 (.st .term) fun t=>⟨some (szT t<=n/\di t=true),none,.bool (allT ag t),[]⟩)):aF prog 45 [.st .term t] [] (.ret (.bool (allT ag t))):=
 g0 (sc D1 (sc (hA) sn)) ⟨[(4,fun S0=>⟨Nat,fun k=>k<=t.parts.length/\allT ag t=allTL ag (t.parts.drop k),fun k=>[(3,.int .i64 k)],fun _=>[],fun k=>t.parts.length-k⟩)],[],[]⟩ func45 (CR n t ht hn ho)
theorem zN:∀n:Nat,ak prog 45 (p1 (.st .term) fun t=>⟨some (szT t<=n/\di t=true),none,.bool (allT ag t),[]⟩):=by
 intro n
 induction n with
 |zero=>exact bp sZ fun a _ ho=>absurd (ho _ rfl).1 (by have:=fw a;omega)
 |succ n ih=>exact bp sZ fun a hs ho=>uJ n a hs (ho _ rfl).1 (ho _ rfl).2 ih
theorem xb:aJ prog 44:=ee func44
theorem xc(n:Nat)(s:Trm)(hs:Wf (.st .term) s)(hn:szT s<=n+1)(hb:n<=1000000)(hA:ak prog 44 (p1 (.st .term) fun s=>⟨some (szT s<=n),none,.int .i64 (deepT s:Int),[]⟩)):aF prog 44 [.st .term s] [] (.ret (.int .i64 (deepT s:Int))):=
 g0 (sc (hA) sn) ⟨[(3,fun S0=>⟨Nat×Int,fun x=>x.1<=s.parts.length/\0<=x.2/\max x.2 (maxDT (s.parts.drop x.1):Int)=maxDT s.parts,fun x=>[(3,.int .i64 x.2),(4,.int .i64 x.1)],fun _=>[],fun x=>s.parts.length-x.1⟩)],[],[]⟩ func44 (F6 n s hs hn hb)
theorem D2:∀n:Nat,n<=1000000->ak prog 44 (p1 (.st .term) fun s=>⟨some (szT s<=n),none,.int .i64 (deepT s:Int),[]⟩):=by
 intro n
 induction n with
 |zero=>exact fun _=>bp xb fun a _ ho=>absurd (ho _ rfl) (by have:=fw a;omega)
 |succ n ih=>exact fun hb=>bp xb fun a hs ho=>xc n a hs (ho _ rfl) (by omega) (ih (by omega))
theorem zO:ak prog 26 (p1 (.st .term) fun s=>⟨some (di s=true),none,.int .i64 (cC s),[]⟩):=
 bp (ee func26) fun s hs ho=>g0 (sc (sT (szT s)) (sc (D2 4096 (by decide)) (sc (zN 4096) sn))) a0 func26 (CS s hs (ho _ rfl))
end Go.AL.Seat
end
section
namespace Go.Pd
open Go.AL
theorem iA(m:Str):∀(ns:List Str)(ps:List Shape),dS ns ps m=((ns.zip ps).find? (fun x=>decide (x.1=m))).map (·.2)
 |[],ps=>by cases ps<;>rfl
 |_::_,[]=>rfl
 |a::r,p::q=>by
  rw[List.zip_cons_cons,List.find?_cons,dS,iA m r q];by_cases h:a=m
  ·rw[if_pos h,show decide ((a,p).1=m)=true from Xd h];rfl
  ·rw[if_neg h,show decide ((a,p).1=m)=false from Xf h]
theorem rf{l:List (Str×Shape)}(hn:(l.map (·.1)).Nodup){m:Str}{p:Shape}:l.find? (fun x=>decide (x.1=m))=some (m,p)↔(m,p)∈l:=by
 constructor
 ·exact List.mem_of_find?_eq_some
 ·intro h
  induction l with
  |nil=>cases h
  |cons a r ih=>
   rw[List.map_cons,List.nodup_cons]at hn;rw[List.find?_cons];rcases List.mem_cons.1 h with e|h
   ·rw[<-e,show decide ((m,p).1=m)=true from Xd rfl]
   ·have:¬a.1=m:=fun e=>hn.1 (List.mem_map.2 ⟨_,h,e.symm⟩);rw[Xf this];exact ih hn.2 h
theorem D3{l l':List (Str×Shape)}(h:l.Perm l')(hn:(l.map (·.1)).Nodup)(m:Str):l.find? (fun x=>decide (x.1=m))=l'.find? (fun x=>decide (x.1=m)):=by
 have hn':(l'.map (·.1)).Nodup:=(h.map (·.1)).nodup_iff.1 hn
 cases g:l.find? (fun x=>decide (x.1=m))with
 |some x=>have e:x.1=m:=Xo (List.find?_some (p:=fun x:Str×Shape=>decide (x.1=m)) g);obtain⟨a,p⟩:=x;have e:a=m:=e;subst e;exact((rf hn').2 (h.mem_iff.1 ((rf hn).1 g))).symm
 |none=>symm;rw[List.find?_eq_none]at g⊢;exact fun x hx=>g x (h.mem_iff.2 hx)
theorem kB:∀(ns:List Str)(ps:List Shape),ns.length=ps.length->(ns.zip ps).map (·.1)=ns
 |[],ps,h=>by cases ps<;>rfl
 |a::r,[],h=>by cases h
 |a::r,p::q,h=>by rw[List.zip_cons_cons,List.map_cons,kB r q (by simpa using h)]
theorem rh{s:Shape}(h:s.names.length=s.parts.length):((sortedS s).names.zip (sortedS s).parts).Perm (s.names.zip (s.parts.map sortedS)):=by
 obtain⟨k,p,n,ns,ps⟩:=s;have h:ns.length=ps.length:=h;simp only[sortedS];by_cases e:ns=[]
 ·rw[if_pos e,e];have:ps=[]:=List.eq_nil_of_length_eq_zero (by rw[<-h,e];rfl);rw[this];exact .refl _
 ·rw[if_neg e,<-gd]
  have hz:∀(l:List Int),(l.map (bH ns)).zip (l.map fun i=>(sortedL ps).getD i.toNat da)=l.map fun i=>(bH ns i,(sortedL ps).getD i.toNat da):=fun l=>by
   induction l with
   |nil=>rfl
   |cons a r ih=>rw[List.map_cons,List.map_cons,List.zip_cons_cons,ih,List.map_cons]
  rw[hz];have hp:=(fX ⟨k,p,n,ns,ps⟩).map fun i:Int=>(bH ns i,(sortedL ps).getD i.toNat da);refine hp.trans ?_;rw[<-hz];have e1:=cO ns ([]:Str);have e2:=cO (sortedL ps) da;rw[dZ]at e2;rw[h]at e1;rw[show(bP (⟨k,p,n,ns,ps⟩:Shape).parts.length).map (bH ns)=ns from e1,show(bP (⟨k,p,n,ns,ps⟩:Shape).parts.length).map (fun i=>(sortedL ps).getD i.toNat da)=sortedL ps from e2]
theorem xe(m:Str):∀(ns:List Str)(ps:List Shape),(ns.zip (ps.map sortedS)).find? (fun x=>decide (x.1=m))=((ns.zip ps).find? (fun x=>decide (x.1=m))).map fun x=>(x.1,sortedS x.2)
 |[],ps=>by cases ps<;>rfl
 |_::_,[]=>rfl
 |a::r,p::q=>by
  rw[List.map_cons,List.zip_cons_cons,List.zip_cons_cons,List.find?_cons,List.find?_cons,xe m r q];by_cases h:a=m
  ·rw[show decide ((a,p).1=m)=true from Xd h];rfl
  ·rw[show decide ((a,p).1=m)=false from Xf h]
theorem lq{s:Shape}(h:s.names=[]∨s.names.length=s.parts.length/\s.names.Nodup)(m:Str):aH (sortedS s) m=(aH s m).map sortedS:=by
 unfold aH;rcases h with h|⟨h,hn⟩
 ·rw[ej h,h];cases (sortedS s).parts<;>cases s.parts<;>rfl
 ·rw[iA,iA];have hz:=rh h;have hl:(sortedS s).names.length=(sortedS s).parts.length:=by rw[(gx h).length_eq,ig,h]
  have hN:(((sortedS s).names.zip (sortedS s).parts).map (·.1)).Nodup:=by rw[kB _ _ hl];exact(gx h).nodup_iff.2 hn
  rw[D3 hz hN,xe];cases (s.names.zip s.parts).find? (fun x=>decide (x.1=m))<;>rfl
theorem gM(F:Shape->Shape->Bool)(must:Bool)(b:Shape):∀(ns:List Str)(ps:List Shape),cz F must b ns ps=(ns.zip ps).all fun x=>match aH b x.1 with|none=>!must|some y=>F x.2 y
 |[],ps=>by cases ps<;>simp only[cz,List.zip_nil_left,List.all_nil]
 |_::_,[]=>by simp only[cz,List.zip_nil_right,List.all_nil]
 |a::r,p::q=>by rw[cz,List.zip_cons_cons,List.all_cons,gM F must b r q];rfl
theorem mA{s:Shape}(h:s.names=[]):(sortedS s).parts=s.parts.map sortedS:=by obtain⟨k,p,n,ns,ps⟩:=s;have h:ns=[]:=h;subst h;simp only[sortedS];rw[<-gd];have e:=cO (sortedL ps) da;rw[dZ]at e;exact e
theorem ot{s:Shape}(h:aj s=true)(h6:¬s.kind=6)(h7:¬s.kind=7):s.names=[]:=by
 unfold aj at h;simp only at h
 have sp:∀{c:Prop} [Decidable c] {a b:Bool} {P:Prop},(if c then a else b)=true->(c->a=true->P)->(¬c->b=true->P)->P:=fun{c} _ {a b P} h h1 h2=>by
  by_cases k:c
  ·rw[if_pos k]at h;exact h1 k h
  ·rw[if_neg k]at h;exact h2 k h
 refine sp h (fun _ h=>?_) fun _ h=>sp h (fun _ h=>?_) fun _ h=>sp h (fun k _=>absurd k (by omega)) fun _ h=>sp h (fun _ h=>?_) fun _ h=>sp h (fun _ h=>?_) fun _ h=>sp h (fun _ h=>?_) fun _ h=>(by cases h)
 all_goals simp only[Bool.and_eq_true,decide_eq_true_eq]at h
 ·exact h.1.2
 ·exact h.1.2
 ·exact h.1.2
 ·exact h.1.2
 ·exact h.1.2
theorem kT{α:Type}{f g:α->Bool}:∀{l:List α},(∀x∈l,f x=g x)->l.all f=l.all g
 |[],_=>rfl
 |a::r,h=>by rw[List.all_cons,List.all_cons,h a (.head _),kT fun x hx=>h x (.tail _ hx)]
theorem ou(f:Str×Shape->Bool):∀(ns:List Str)(ps:List Shape),(ns.zip (ps.map sortedS)).all f=(ns.zip ps).all fun x=>f (x.1,sortedS x.2)
 |[],ps=>by cases ps<;>rfl
 |_::_,[]=>rfl
 |a::r,p::q=>by rw[List.map_cons,List.zip_cons_cons,List.zip_cons_cons,List.all_cons,List.all_cons,ou f r q]
theorem uK{x:Str×Shape}:∀{ns:List Str} {ps:List Shape},x∈ns.zip ps->x.2∈ps
 |[],ps,h=>by cases ps<;>cases h
 |_::_,[],h=>by cases h
 |a::r,p::q,h=>by
  rw[List.zip_cons_cons]at h;rcases List.mem_cons.1 h with rfl|h
  ·exact .head _
  ·exact .tail _ (uK h)
section Near
variable {F:Shape->Shape->Bool} {a b:Shape}
theorem ri(must:Bool)(ha:aj a=true)(h:∀p∈a.parts,∀q∈b.parts,F (sortedS p) q=F p q):cz F must b (sortedS a).names (sortedS a).parts=cz F must b a.names a.parts:=by
 rw[gM,gM];rcases eh ha with e|⟨e,_⟩
 ·rw[ej e,e];cases (sortedS a).parts<;>cases a.parts<;>rfl
 ·rw[qE (rh e),ou];refine kT fun x hx=>?_;dsimp only
  cases g:aH b x.1 with
  |none=>rfl
  |some y=>exact h _ (uK hx) _ (iX g).2
theorem ow(must:Bool)(hb:aj b=true)(h:∀p∈a.parts,∀q∈b.parts,F p (sortedS q)=F p q):cz F must (sortedS b) a.names a.parts=cz F must b a.names a.parts:=by
 rw[gM,gM];refine kT fun x hx=>?_;rw[lq (eh hb)]
 cases g:aH b x.1 with
 |none=>rfl
 |some y=>exact h _ (uK hx) _ (iX g).2
theorem F8(ha:aj a=true)(l:List Str):l.all (fun m=>(aH (sortedS a) m).isSome)=l.all fun m=>(aH a m).isSome:=
 kT fun m _=>by rw[lq (eh ha)];cases aH a m<;>rfl
theorem D4(hb:aj b=true)(f:Str->Bool):(sortedS b).names.all f=b.names.all f:=by
 rcases eh hb with e|⟨e,_⟩
 ·rw[ej e,e]
 ·exact qE (gx e)
theorem rl(fn:Bool):∀(l m:List Shape),(∀p∈l,∀q∈m,F (sortedS p) q=F p q/\F q (sortedS p)=F q p)->dH F fn (l.map sortedS) m=dH F fn l m
 |[],_,_=>by simp only[dH,List.map_nil]
 |_::_,[],_=>by simp only[dH,List.map_cons]
 |p::r,q::s,h=>by rw[List.map_cons];simp only[dH];obtain⟨h1,h2⟩:=h p (.head _) q (.head _);rw[h1,h2,rl fn r s fun x hx y hy=>h x (.tail _ hx) y (.tail _ hy)];cases r<;>rfl
theorem ox(fn:Bool):∀(l m:List Shape),(∀p∈l,∀q∈m,F p (sortedS q)=F p q/\F (sortedS q) p=F q p)->dH F fn l (m.map sortedS)=dH F fn l m
 |[],_,_=>by simp only[dH]
 |_::_,[],_=>by simp only[dH,List.map_nil]
 |p::r,q::s,h=>by rw[List.map_cons];simp only[dH];obtain⟨h1,h2⟩:=h p (.head _) q (.head _);rw[h1,h2,ox fn r s fun x hx y hy=>h x (.tail _ hx) y (.tail _ hy)]
end Near
theorem nu:∀(n:Nat)(a b:Shape),allS aj a=true->allS aj b=true->aD n (sortedS a) b=aD n a b/\aD n a (sortedS b)=aD n a b
 |0,_,_,_,_=>⟨rfl,rfl⟩
 |n+1,a,b,ha,hb=>by
  have fa:=ha;have fb:=hb;rw[ep,Bool.and_eq_true]at fa fb;obtain⟨a1,a2,a3⟩:=ky a;obtain⟨b1,b2,b3⟩:=ky b;have ih:∀p∈a.parts,∀q∈b.parts,aD n (sortedS p) q=aD n p q/\aD n p (sortedS q)=aD n p q:=fun p hp q hq=>nu n p q (cN fa.2 hp) (cN fb.2 hq);have ih':∀p∈a.parts,∀q∈b.parts,aD n (sortedS q) p=aD n q p/\aD n q (sortedS p)=aD n q p:=fun p hp q hq=>nu n q p (cN fb.2 hq) (cN fa.2 hp);simp only[aD,a1,a2,a3,b1,b2,b3,ig];by_cases k4:decide (a.kind=4)=true
  ·rw[k4];exact⟨rfl,rfl⟩
  by_cases k4':decide (b.kind=4)=true
  ·rw[k4',Bool.or_true];exact⟨rfl,rfl⟩
  by_cases kk:a.kind=b.kind
  ·by_cases k6:a.kind=6
   ·simp only[if_pos k6];rw[ri false fa.1 fun p hp q hq=>(ih p hp q hq).1,F8 fa.1,ow false fb.1 fun p hp q hq=>(ih p hp q hq).2,D4 fb.1];exact⟨rfl,rfl⟩
   ·by_cases k7:a.kind=7
    ·simp only[if_neg k6,if_pos k7];rw[ri true fa.1 fun p hp q hq=>(ih p hp q hq).1,ow true fb.1 fun p hp q hq=>(ih p hp q hq).2];exact⟨rfl,rfl⟩
    ·simp only[if_neg k6,if_neg k7];rw[mA (ot fa.1 k6 k7),mA (ot fb.1 (by omega) (by omega)),rl _ _ _ fun p hp q hq=>⟨(ih p hp q hq).1,(ih' p hp q hq).2⟩,ox _ _ _ fun p hp q hq=>⟨(ih p hp q hq).2,(ih' p hp q hq).1⟩];exact⟨rfl,rfl⟩
  ·rw[Xf kk];simp
theorem zP(a b:Shape):fc a (aM b)=fc a b:=by
 by_cases hb:aC b=0
 ·unfold fc;rw[Xd (kz hb),Xd hb];by_cases ha:aC a=0
  ·rw[aM,if_pos hb,(nu 800 a b (bX ha).2.2 (bX hb).2.2).2]
  ·rw[Xf ha];rfl
 ·rw[aM,if_neg hb]
def j0(F:Shape->Shape->Bool)(a:Shape):List Str->List Shape->Bool
 |m::r,q::s=>(match aH a m with|none=>false|some p=>F p q)&&j0 F a r s
 |_,_=>true
def jG(F:Shape->Shape->Bool):List Shape->List Shape->Bool
 | p::r,q::s=>r.isEmpty||(F q p&&jG F r s)
 |_,_=>true
theorem ta(F:Shape->Shape->Bool)(a:Shape):∀(ns:List Str)(ps:List Shape),j0 F a ns ps=(ns.zip ps).all fun x=>match aH a x.1 with|none=>false|some y=>F y x.2
 |[],ps=>by cases ps<;>simp only[j0,List.zip_nil_left,List.all_nil]
 |_::_,[]=>by simp only[j0,List.zip_nil_right,List.all_nil]
 |a'::r,p::q=>by rw[j0,List.zip_cons_cons,List.all_cons,ta F a r q]
theorem xf{s:Shape}(h:s.names=[]∨s.names.length=s.parts.length/\s.names.Nodup){m:Str}{p:Shape}:aH s m=some p↔(m,p)∈s.names.zip s.parts:=by
 unfold aH;rcases h with h|⟨h,hn⟩
 ·rw[h];cases s.parts<;>simp[dS]
 ·have hN:((s.names.zip s.parts).map (·.1)).Nodup:=by rw[kB _ _ h];exact hn
  rw[iA,<-rf hN]
  cases g:(s.names.zip s.parts).find? (fun x=>decide (x.1=m))with
  |none=>simp
  |some x=>have e:x.1=m:=Xo (List.find?_some (p:=fun x:Str×Shape=>decide (x.1=m)) g);obtain⟨c,y⟩:=x;have e:c=m:=e;subst e;simp
theorem oy{m:Str}:∀{ns:List Str} {ps:List Shape},ns.length=ps.length->m∈ns->∃p,(m,p)∈ns.zip ps
 |a::r,p::q,h,hm=>by
  rcases List.mem_cons.1 hm with rfl|hm
  ·exact⟨p,.head _⟩
  ·obtain⟨x,hx⟩:=oy (by simpa using h) hm;exact⟨x,.tail _ hx⟩
theorem F9{F:Shape->Shape->Bool}{a b:Shape}(ha:aj a=true)(hb:aj b=true):j0 F a b.names b.parts=(cz F false b a.names a.parts&&b.names.all fun m=>(aH a m).isSome):=by
 have pa:=@xf a (eh ha);have pb:=@xf b (eh hb);rw[ta,gM,Bool.eq_iff_iff,Bool.and_eq_true,List.all_eq_true,List.all_eq_true,List.all_eq_true];constructor
 ·intro h;refine⟨fun x hx=>?_,fun m hm=>?_⟩
  ·cases g:aH b x.1 with
   |none=>rfl
   |some y=>have:=h (x.1,y) (pb.1 g);dsimp only at this;rw[pa.2 (show(x.1,x.2)∈a.names.zip a.parts from hx)]at this;exact this
  ·rcases eh hb with e|⟨e,_⟩
   ·rw[e]at hm;cases hm
   ·obtain⟨q,hq⟩:=oy e hm;have:=h (m,q) hq;dsimp only at this
    cases g:aH a m with
    |none=>rw[g]at this;cases this
    |some y=>rfl
 ·rintro⟨h1,h2⟩ x hx;have hm:x.1∈b.names:=(List.of_mem_zip (show(x.1,x.2)∈b.names.zip b.parts from hx)).1;have:=h2 x.1 hm
  cases g:aH a x.1 with
  |none=>rw[g]at this;cases this
  |some y=>have:=h1 (x.1,y) (pa.1 g);dsimp only at this;rw[pb.2 (show(x.1,x.2)∈b.names.zip b.parts from hx)]at this;exact this
theorem xg{F:Shape->Shape->Bool}(d:Shape):∀(l m:List Shape),l.length=m.length->l≠[]->dH F true l m=(F (l.getD (l.length-1) d) (m.getD (m.length-1) d)&&jG F l m)
 |[],_,_,h=>absurd rfl h
 |_::_,[],h,_=>by cases h
 |[p],[q],_,_=>by simp[dH,jG]
 |[_],_::_::_,h,_=>by simp at h
 |p::p'::r,[q],h,_=>by simp at h
 |p::p'::r,q::q'::s,h,_=>by
  have ih:=xg (F:=F) d (p'::r) (q'::s) (by simpa using h) (by simp);rw[dH,ih,show jG F (p::p'::r) (q::q'::s)=(F q p&&jG F (p'::r) (q'::s))from rfl];simp only[List.isEmpty_cons,Bool.not_false,Bool.and_self,if_true];have e1:(p::p'::r).getD ((p::p'::r).length-1) d=(p'::r).getD ((p'::r).length-1) d:=by simp[List.getD_eq_getElem?_getD]
  have e2:(q::q'::s).getD ((q::q'::s).length-1) d=(q'::s).getD ((q'::s).length-1) d:=by simp[List.getD_eq_getElem?_getD]
  rw[e1,e2];cases F q p<;>cases F ((p'::r).getD ((p'::r).length-1) d) ((q'::s).getD ((q'::s).length-1) d)<;>cases jG F (p'::r) (q'::s)<;>rfl
theorem kU{s:Shape}(h:aj s=true)(h5:s.kind=5):s.parts.length=1:=by unfold aj at h;simp[h5]at h;exact h.2
theorem rn{s:Shape}(h:aj s=true)(h8:s.kind=8):s.parts≠[]:=by unfold aj at h;simp[h8]at h;exact h.2
theorem tc{s:Shape}(h:aj s=true)(h5:¬s.kind=5)(h6:¬s.kind=6)(h7:¬s.kind=7)(h8:¬s.kind=8):s.parts=[]:=by
 unfold aj at h;simp only at h
 have sp:∀{c:Prop} [Decidable c] {a b:Bool} {P:Prop},(if c then a else b)=true->(c->a=true->P)->(¬c->b=true->P)->P:=fun{c} _ {a b P} h h1 h2=>by
  by_cases k:c
  ·rw[if_pos k]at h;exact h1 k h
  ·rw[if_neg k]at h;exact h2 k h
 refine sp h (fun _ h=>?_) fun _ h=>sp h (fun k h=>absurd k h5) fun _ h=>sp h (fun k _=>absurd k (by omega)) fun _ h=>sp h (fun k h=>absurd k h8) fun _ h=>sp h (fun _ h=>?_) fun _ h=>sp h (fun _ h=>?_) fun _ h=>(by cases h)
 all_goals simp only[Bool.and_eq_true,decide_eq_true_eq]at h
 ·exact h.2
 ·exact h.2
 ·exact h.2
theorem Fa{n:Nat}{a b:Shape}(ha:aj a=true)(hb:aj b=true):aD (n+1) a b=
  if a.kind=4∨b.kind=4 then true
  else if a.kind=b.kind/\a.pkg=b.pkg/\a.name=b.name then
   (if a.kind=6 then j0 (aD n) a b.names b.parts
   else if a.kind=7 then cz (aD n) true b a.names a.parts
   else if a.kind=8 then decide (b.parts.length=a.parts.length)&&aD n (a.parts.getD (a.parts.length-1) al) (b.parts.getD (b.parts.length-1) al)&&jG (aD n) a.parts b.parts
   else if a.kind=5 then aD n (a.parts.getD 0 al) (b.parts.getD 0 al)
   else true)
  else false:=by
 rw[aD];by_cases k4:a.kind=4∨b.kind=4
 ·rw[if_pos k4];rcases k4 with k|k<;>simp[k]
 rw[if_neg k4,Xf (fun h=>k4 (.inl h)),Xf (fun h=>k4 (.inr h)),Bool.false_or,Bool.false_or];by_cases kk:a.kind=b.kind/\a.pkg=b.pkg/\a.name=b.name
 ·rw[if_pos kk,Xd kk.1,Xd kk.2.1,Xd kk.2.2,Bool.true_and,Bool.true_and,Bool.true_and];refine ite_congr rfl (fun k=>(F9 ha hb).symm) fun k6=>ite_congr rfl (fun k=>rfl) fun k7=>?_;by_cases k8:a.kind=8
  ·rw[if_pos k8,Xd k8];by_cases hl:a.parts.length=b.parts.length
   ·rw[Xd hl,Xd hl.symm,xg al _ _ hl (rn ha k8)];simp
   ·rw[Xf hl,Xf (fun e=>hl e.symm)];simp
  ·rw[if_neg k8];by_cases k5:a.kind=5
   ·rw[if_pos k5];have la:=kU ha k5;have lb:=kU hb (by omega)
    match hp:a.parts,hq:b.parts,la,lb with
    |[p],[q],_,_=>simp[dH]
   ·rw[if_neg k5,tc ha k5 k6 k7 k8,tc hb (by omega) (by omega) (by omega) (by omega)];simp[dH]
 ·rw[if_neg kk];by_cases k1:a.kind=b.kind
  ·by_cases k2:a.pkg=b.pkg
   ·rw[Xf (fun h=>kk ⟨k1,k2,h⟩)];simp
   ·rw[Xf k2];simp
  ·rw[Xf k1];simp
end Go.Pd
end
section
namespace Go.Pd
open Go.AL
def cI(T:Trm->Envt->Shape×Flt)(t:Trm)(env:Envt):Shape×Flt:=
 match ck env.own t.name with
 |none=>(fQ env.self t.name,⟨110,t.pos⟩)
 |some s=>if t.kind=16 then(fQ env.self t.name,au T (t.parts.getD 0 ao) s env)else(s,au T (t.parts.getD 0 ao) (fQ env.self t.name) env)
theorem rq{T:Trm->Envt->Shape×Flt}{t:Trm}{env:Envt}(h:ck env.own t.name=none):cI T t env=(fQ env.self t.name,⟨110,t.pos⟩):=by unfold cI;rw[h]
theorem rr{T:Trm->Envt->Shape×Flt}{t:Trm}{env:Envt}{s:Shape}(h:ck env.own t.name=some s):cI T t env=if t.kind=16 then(fQ env.self t.name,au T (t.parts.getD 0 ao) s env)else(s,au T (t.parts.getD 0 ao) (fQ env.self t.name) env):=by unfold cI;rw[h]
def aB(T:Trm->Envt->Shape×Flt)(t:Trm)(env:Envt):Shape×Flt:=
 if t.kind=5 then((az env.values t.pkg t.name).getD al,if(az env.values t.pkg t.name).isSome=true then cb else⟨110,t.pos⟩)
 else if t.kind=10 then(if(T (t.parts.getD 0 ao) env).2.err=0 then(⟨7,[],[],[t.name],[(T (t.parts.getD 0 ao) env).1]⟩,cb)else T (t.parts.getD 0 ao) env)
 else if t.kind=16∨t.kind=17 then cI T t env
 else ax T t env
theorem nv{t:Trm}{s s':Shape}{f:Flt}(h:¬f.err=0):ea t (s,f)=ea t (s',f):=by unfold ea;rw[if_neg (show ¬(s,f).2.err=0 from h),if_neg (show ¬(s',f).2.err=0 from h)]
theorem ru{t:Trm}{s:Shape}{f:Flt}:ea t (aM s,f)=ea t (s,f):=by
 by_cases h:f.err=0
 ·by_cases c:aC s=0
  ·unfold ea;rw[if_pos (show(aM s,f).2.err=0 from h),if_pos (show(s,f).2.err=0 from h),if_pos (show aC (aM s,f).1=0 from kz c),if_pos (show aC (s,f).1=0 from c),yN c]
  ·rw[aM,if_neg c]
 ·exact nv h
theorem zQ{T:Trm->Envt->Shape×Flt}{p:Trm}{s:Shape}{e:Envt}:au T p (aM s) e=au T p s e:=by unfold au;rw[zP]
theorem zR{n:Nat}{t:Trm}{e:Envt}:ea t (aB (aa n) t e)=ea t (ax (aa n) t e):=by
 unfold aB;by_cases k5:t.kind=5
 ·rw[if_pos k5];have hN:az e.values t.pkg t.name=none->ax (aa n) t e=(al,⟨110,t.pos⟩):=fun g=>by unfold ax;simp[k5,g]
  have hS:∀s,az e.values t.pkg t.name=some s->ax (aa n) t e=(aM s,cb):=fun s g=>by unfold ax;simp[k5,g]
  cases g:az e.values t.pkg t.name with
  |none=>rw[hN g];rfl
  |some s=>rw[hS s g];exact(ru (t:=t) (s:=s) (f:=cb)).symm
 rw[if_neg k5];by_cases k10:t.kind=10
 ·rw[if_pos k10];have hP:ax (aa n) t e=(⟨7,[],[],[t.name],[(aa n (t.parts.getD 0 ao) e).1]⟩,(aa n (t.parts.getD 0 ao) e).2):=by unfold ax;simp[k10]
  rw[hP];by_cases h:(aa n (t.parts.getD 0 ao) e).2.err=0
  ·rw[if_pos h,nf h]
  ·rw[if_neg h];exact nv h
 rw[if_neg k10];by_cases ko:t.kind=16∨t.kind=17
 ·rw[if_pos ko];have hP:ax (aa n) t e=dq (aa n) t e:=by unfold ax;rcases ko with k|k<;>simp[k]
  rw[hP]
  cases g:ck e.own t.name with
  |none=>rw[rq g,nc g];exact nv (show ¬(110:Int)=0 by decide)
  |some s=>
   rw[rr g,nd g];by_cases k:t.kind=16
   ·rw[if_pos k,if_neg (by omega),zQ]
   ·rw[if_neg k,if_pos (by omega),ru]
 ·rw[if_neg ko]
theorem zS(n:Nat)(t:Trm)(e:Envt):aa (n+1) t e=ea t (aB (aa n) t e):=by rw[zR];rfl
end Go.Pd
namespace Go.Pd
open Go.AL
theorem xh{s:Shape}{l:List Bndg}(h:¬(aq s l).2=0):(aq s l).1=al:=by
 unfold aq at h⊢;by_cases c:aC s=0
 ·rw[if_pos c]at h⊢
  cases g:fillS (az l) s with
  |none=>rfl
  |some q=>
   rw[g]at h;dsimp only at h⊢;by_cases d:aC q=0
   ·rw[if_pos d]at h;exact absurd rfl h
   ·rw[if_neg d]
 ·rw[if_neg c]
theorem AT{α:Type}{l:List α}(d:α)(h:l.length=1):l=[l.getD 0 d]:=by
 match l,h with
 |[a],_=>rfl
theorem D5{α:Type}{l:List α}(d:α)(h:l.length=3):l.drop 1=[l.getD 1 d,l.getD 2 d]:=by
 match l,h with
 |[a,b,c],_=>rfl
theorem td{n:Nat}{e:Envt}{w:Shape}(p:Trm):b6 (aa n) e w [p]=au (aa n) p w e:=by
 simp only[b6];by_cases h:(au (aa n) p w e).err=0
 ·rw[if_pos h,gK h]
 ·rw[if_neg h]
end Go.Pd
end
section
open Go Go.AL Go.Pd
namespace Go.AL.Seat
theorem xi(n:Nat)(s:Shape)(hs:Wf (.st .shape) s)(hn:sz s<=n+1)(ho:allS bN s=true)(hb:n<=1000000)(h0:s.names=[]) :
  (∃(x:Nat),x<=List.length s.parts/\(0:Int)=(↑x:Int)/\s=s/\s.kind=s.kind/\s.pkg=s.pkg/\s.name=s.name/\List.map sortedS (List.take x s.parts)=[]/\x=(0:Nat)/\s=s/\(0:Int)=(0:Int)/\an UInt8=an UInt8/\an UInt8=an UInt8/\True)/\∀(x:Nat),x<=List.length s.parts->if decide ((↑x:Int)<(↑(List.length s.parts):Int))=true then((0:Int)<=(↑x:Int)/\(↑x:Int)<(↑(List.length s.parts):Int))/\(sz (List.getD s.parts (Int.toNat (↑x:Int)) (dfl (Ty.st SN.shape)))<=n/\allS bN (List.getD s.parts (Int.toNat (↑x:Int)) (dfl (Ty.st SN.shape)))=true)/\if decide ((↑(List.length s.names):Int)=(0:Int))=true then(List.length (List.map sortedS (List.take x s.parts))=x/\(List.length (List.map sortedS (List.take x s.parts))+List.length [sortedS (List.getD s.parts (Int.toNat (↑x:Int)) (dfl (Ty.st SN.shape)))]) *(88:Nat)<=(140737488355328:Nat))/\inR IntKind.i64 ((↑x:Int)+(1:Int))/\∃(y:Nat),y<=List.length s.parts/\List.length s.parts-y<List.length s.parts-x/\(↑x:Int)+(1:Int)=(↑y:Int)/\s=s/\s.kind=s.kind/\s.pkg=s.pkg/\s.name=s.name/\List.map sortedS (List.take x s.parts)++[sortedS (List.getD s.parts (Int.toNat (↑x:Int)) (dfl (Ty.st SN.shape)))]=List.map sortedS (List.take y s.parts)/\List.length (List.map sortedS (List.take x s.parts)++[sortedS (List.getD s.parts (Int.toNat (↑x:Int)) (dfl (Ty.st SN.shape)))])=y/\s=s/\(0:Int)=(0:Int)/\an UInt8=an UInt8/\an UInt8=an UInt8/\True else(∃(x_1:Nat),False/\(↑x:Int)=(↑x:Int)/\s=s/\true=true/\false=false/\s.kind=s.kind/\s.pkg=s.pkg/\s.name=s.name/\List.map sortedS (List.take x s.parts)=List.map sortedS (List.take x s.parts)/\x=x/\s=s/\(0:Int)=(0:Int)/\an UInt8=an UInt8/\an UInt8=an UInt8/\sortedS (List.getD s.parts (Int.toNat (↑x:Int)) (dfl (Ty.st SN.shape)))=sortedS (List.getD s.parts (Int.toNat (↑x:Int)) (dfl (Ty.st SN.shape)))/\True)/\∀(x:Nat),False->False else True/\s.kind=(sortedS s).kind/\s.pkg=(sortedS s).pkg/\s.name=(sortedS s).name/\(sortedS s).names=[]/\List.map sortedS (List.take x s.parts)=(sortedS s).parts/\True:=by
 have ln:=hs.parts.len;have hz:=eC s;have hl:=ix s.parts;have hor:allL bN s.parts=true:=by rw[ep]at ho;simp only[Bool.and_eq_true]at ho;exact ho.2
 have hlen:∀k,k<=s.parts.length->(List.map sortedS (s.parts.take k)).length=k:=fun k hk=>by rw[List.length_map,List.length_take];omega
 simp only[Int.toNat_natCast,eq_self,true_and,and_true,List.length_singleton];refine⟨⟨0,Nat.zero_le _,rfl,rfl,rfl⟩,?_⟩;rintro k hk0;refine ab (fun h=>?_) (fun h=>?_)
 ·replace h:=Xo h;have hk:k<s.parts.length:=by omega
  have hm:=getD_mem s.parts k (dfl (.st .shape)) hk;have hm2:=db hm;refine⟨by omega,⟨by omega,cN hor hm⟩,?_⟩;have e0:s.names.length=0:=by rw[h0];rfl
  rw[if_pos (Xd (show(s.names.length:Int)=0 by omega))];have ht:List.map sortedS (s.parts.take k)++[sortedS (s.parts.getD k (dfl (.st .shape)))]=List.map sortedS (s.parts.take (k+1)):=by rw[dR s.parts k (dfl (.st .shape)) hk,List.map_append];rfl
  have hl1:=hlen k hk0;refine⟨⟨hl1,by omega⟩,aL hk ln,k+1,by omega,by omega,by omega,ht,?_⟩;rw[ht];exact hlen (k+1) hk
 ·replace h:¬((k:Int)<(s.parts.length:Int)):=fun e=>h (Xd e);have e:k=s.parts.length:=by omega
  subst e;rw[List.take_length];have hpl:aw s=bP s.parts.length:=by unfold aw;rw[if_pos h0]
  have hml:∀l:List Shape,List.map sortedS l=sortedL l:=fun l=>by
   induction l with
   |nil=>rfl
   |cons a r ih=>simp only[List.map_cons,sortedL,ih]
  have e2:=cO (sortedL s.parts) da;rw[dZ]at e2;obtain⟨k,p,m,ns,ps⟩:=s;simp only at h0;subst h0;simp only[sortedS,if_true]at hpl⊢;refine⟨trivial,trivial,trivial,trivial,?_⟩;rw[hpl,hml];exact e2.symm
end Go.AL.Seat
end
