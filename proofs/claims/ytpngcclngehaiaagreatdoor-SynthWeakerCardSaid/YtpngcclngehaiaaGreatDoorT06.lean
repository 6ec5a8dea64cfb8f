/- What the functions' conditions say, proved. Plain facts. The layer: Go code as conditions, and that they are sound. No condition. -/
import Derived.Test.YtpngcclngehaiaaGreatDoorT05
import Derived.LoopN
set_option linter.all false
set_option maxRecDepth 100000
section
open Go Go.AL Go.Pd
namespace Go.AL.Seat
theorem Br (n:Nat) (t:Trm) (e:Envt) (ht:Wf (.st .term) t) (he:Wf (.st .env) e) (hk:t.kind=6∨t.kind=11∨t.kind=12∨t.kind=13∨t.kind=15) (hz:szT t<=n+1) (hf:allT ak t=true) (hv:e.values.length+4096 *szT t<=100000000) :
  List.length t.shapes<=(1000000:Nat)/\if (!decide ((ae e.types t.pos t.shapes).2.err=(0:Int)))=true then True/\(0:Int)=(aJ (aa n) t e).1.kind/\[]=(aJ (aa n) t e).1.pkg/\[]=(aJ (aa n) t e).1.name/\(aJ (aa n) t e).1.names=[]/\(aJ (aa n) t e).1.parts=[]/\(ae e.types t.pos t.shapes).2.err=(aJ (aa n) t e).2.err/\(ae e.types t.pos t.shapes).2.pos=(aJ (aa n) t e).2.pos/\True else inR IntKind.i64 ((↑(List.length (ae e.types t.pos t.shapes).1):Int) - (1:Int))/\if decide (t.kind=(6:Int))=true then (∃(x:Nat × Envt),(x.1<=List.length t.names/\List.length x.2.values=List.length e.values+x.1/\bL x.2 (eB (List.drop x.1 t.names) (List.drop x.1 (ae e.types t.pos t.shapes).1))=bL e (eB t.names (ae e.types t.pos t.shapes).1))/\(0:Int)=(↑x.1:Int)/\t=t/\e=e/\(ae e.types t.pos t.shapes).1=(ae e.types t.pos t.shapes).1/\false=false/\(↑(List.length (ae e.types t.pos t.shapes).1):Int) - (1:Int)=(↑(List.length (ae e.types t.pos t.shapes).1):Int) - (1:Int)/\t.kind=t.kind/\true=true/\t.names=t.names/\(↑(List.length t.names):Int)=(↑(List.length t.names):Int)/\e=x.2/\t=t/\(0:Int)=(0:Int)/\aK UInt8=aK UInt8/\aK UInt8=aK UInt8/\(0:Int)=(0:Int)/\(0:Int)=(0:Int)/\List.length (ae e.types t.pos t.shapes).1=List.length (ae e.types t.pos t.shapes).1/\(ae e.types t.pos t.shapes).2.err=(ae e.types t.pos t.shapes).2.err/\(ae e.types t.pos t.shapes).2.pos=(ae e.types t.pos t.shapes).2.pos/\True)/\∀(x:Nat × Envt),x.1<=List.length t.names/\List.length x.2.values=List.length e.values+x.1/\bL x.2 (eB (List.drop x.1 t.names) (List.drop x.1 (ae e.types t.pos t.shapes).1))=bL e (eB t.names (ae e.types t.pos t.shapes).1)→if decide ((↑x.1:Int) < (↑(List.length t.names):Int))=true then ((0:Int)<=(↑x.1:Int)/\(↑x.1:Int) < (↑(List.length t.names):Int))/\((0:Int)<=(↑x.1:Int)/\(↑x.1:Int) < (↑(List.length (ae e.types t.pos t.shapes).1):Int))/\(List.length x.2.values<=(1000000000:Nat)/\List.length [{pkg:=[],name:=List.getD t.names (Int.toNat (↑x.1:Int)) (dfl Ty.str),shape:=AL.Shape.mk ((List.getD (ae e.types t.pos t.shapes).1 (Int.toNat (↑x.1:Int)) (dfl (Ty.st SN.shape))).kind) ((List.getD (ae e.types t.pos t.shapes).1 (Int.toNat (↑x.1:Int)) (dfl (Ty.st SN.shape))).pkg) ((List.getD (ae e.types t.pos t.shapes).1 (Int.toNat (↑x.1:Int)) (dfl (Ty.st SN.shape))).name) ((List.getD (ae e.types t.pos t.shapes).1 (Int.toNat (↑x.1:Int)) (dfl (Ty.st SN.shape))).names) ((List.getD (ae e.types t.pos t.shapes).1 (Int.toNat (↑x.1:Int)) (dfl (Ty.st SN.shape))).parts):Bndg}]<=(1000:Nat))/\inR IntKind.i64 ((↑x.1:Int)+(1:Int))/\∃(y:Nat × Envt),(y.1<=List.length t.names/\List.length y.2.values=List.length e.values+y.1/\bL y.2 (eB (List.drop y.1 t.names) (List.drop y.1 (ae e.types t.pos t.shapes).1))=bL e (eB t.names (ae e.types t.pos t.shapes).1))/\List.length t.names - y.1 < List.length t.names - x.1/\(↑x.1:Int)+(1:Int)=(↑y.1:Int)/\t=t/\e=e/\(ae e.types t.pos t.shapes).1=(ae e.types t.pos t.shapes).1/\false=false/\(↑(List.length (ae e.types t.pos t.shapes).1):Int) - (1:Int)=(↑(List.length (ae e.types t.pos t.shapes).1):Int) - (1:Int)/\t.kind=t.kind/\true=true/\t.names=t.names/\(↑(List.length t.names):Int)=(↑(List.length t.names):Int)
  /\bL x.2 [{pkg:=[],name:=List.getD t.names (Int.toNat (↑x.1:Int)) (dfl Ty.str),shape:=AL.Shape.mk ((List.getD (ae e.types t.pos t.shapes).1 (Int.toNat (↑x.1:Int)) (dfl (Ty.st SN.shape))).kind) ((List.getD (ae e.types t.pos t.shapes).1 (Int.toNat (↑x.1:Int)) (dfl (Ty.st SN.shape))).pkg) ((List.getD (ae e.types t.pos t.shapes).1 (Int.toNat (↑x.1:Int)) (dfl (Ty.st SN.shape))).name) ((List.getD (ae e.types t.pos t.shapes).1 (Int.toNat (↑x.1:Int)) (dfl (Ty.st SN.shape))).names) ((List.getD (ae e.types t.pos t.shapes).1 (Int.toNat (↑x.1:Int)) (dfl (Ty.st SN.shape))).parts):Bndg}]=y.2/\t=t/\(0:Int)=(0:Int)/\aK UInt8=aK UInt8/\aK UInt8=aK UInt8/\(0:Int)=(0:Int)/\(0:Int)=(0:Int)/\List.length (ae e.types t.pos t.shapes).1=List.length (ae e.types t.pos t.shapes).1/\(ae e.types t.pos t.shapes).2.err=(ae e.types t.pos t.shapes).2.err/\(ae e.types t.pos t.shapes).2.pos=(ae e.types t.pos t.shapes).2.pos/\True else ((0:Int)<=(0:Int)/\(0:Int) < (↑(List.length t.parts):Int))/\(szT (List.getD t.parts (Int.toNat (0:Int)) (dfl (Ty.st SN.term)))<=n/\allT ak (List.getD t.parts (Int.toNat (0:Int)) (dfl (Ty.st SN.term)))=true/\List.length x.2.values+(4096:Nat) *szT (List.getD t.parts (Int.toNat (0:Int)) (dfl (Ty.st SN.term)))<=(100000000:Nat))/\(List.length (ae e.types t.pos t.shapes).1=List.length (ae e.types t.pos t.shapes).1/\(List.length (ae e.types t.pos t.shapes).1+List.length [(aa n (List.getD t.parts (Int.toNat (0:Int)) (dfl (Ty.st SN.term))) x.2).1]) *(88:Nat)<=(140737488355328:Nat))/\True/\(8:Int)=(aJ (aa n) t e).1.kind/\[]=(aJ (aa n) t e).1.pkg/\[]=(aJ (aa n) t e).1.name/\(aJ (aa n) t e).1.names=[]/\(ae e.types t.pos t.shapes).1++[(aa n (List.getD t.parts (Int.toNat (0:Int)) (dfl (Ty.st SN.term))) x.2).1]=(aJ (aa n) t e).1.parts/\(aa n (List.getD t.parts (Int.toNat (0:Int)) (dfl (Ty.st SN.term))) x.2).2.err=(aJ (aa n) t e).2.err/\(aa n (List.getD t.parts (Int.toNat (0:Int)) (dfl (Ty.st SN.term))) x.2).2.pos=(aJ (aa n) t e).2.pos/\True else if decide (t.kind=(11:Int))=true then (∃(x:Nat),(x<=List.length t.parts/\cE (aa n) e (List.getD (ae e.types t.pos t.shapes).1 (0:Nat) an) (List.drop x t.parts)=cE (aa n) e (List.getD (ae e.types t.pos t.shapes).1 (0:Nat) an) t.parts)/\(0:Int)=(↑x:Int)/\t=t/\e=e/\(ae e.types t.pos t.shapes).1=(ae e.types t.pos t.shapes).1/\false=false/\(↑(List.length (ae e.types t.pos t.shapes).1):Int) - (1:Int)=(↑(List.length (ae e.types t.pos t.shapes).1):Int) - (1:Int)/\t.kind=t.kind/\false=false/\true=true/\t.parts=t.parts/\(↑(List.length t.parts):Int)=(↑(List.length t.parts):Int)/\t=t/\e=e/\(0:Int)=(0:Int)/\aK UInt8=aK UInt8/\aK UInt8=aK UInt8/\(0:Int)=(0:Int)/\(0:Int)=(0:Int)/\List.length (ae e.types t.pos t.shapes).1=List.length (ae e.types t.pos t.shapes).1/\(ae e.types t.pos t.shapes).2.err=(ae e.types t.pos t.shapes).2.err/\(ae e.types t.pos t.shapes).2.pos=(ae e.types t.pos t.shapes).2.pos/\True)/\∀(x:Nat),x<=List.length t.parts/\cE (aa n) e (List.getD (ae e.types t.pos t.shapes).1 (0:Nat) an) (List.drop x t.parts)=cE (aa n) e (List.getD (ae e.types t.pos t.shapes).1 (0:Nat) an) t.parts→if decide ((↑x:Int) < (↑(List.length t.parts):Int))=true then ((0:Int)<=(↑x:Int)/\(↑x:Int) < (↑(List.length t.parts):Int))/\((0:Int)<=(0:Int)/\(0:Int) < (↑(List.length (ae e.types t.pos t.shapes).1):Int))/\(szT (List.getD t.parts (Int.toNat (↑x:Int)) (dfl (Ty.st SN.term)))<=n
  /\allT ak (List.getD t.parts (Int.toNat (↑x:Int)) (dfl (Ty.st SN.term)))=true/\List.length e.values+(4096:Nat) *szT (List.getD t.parts (Int.toNat (↑x:Int)) (dfl (Ty.st SN.term)))<=(100000000:Nat))/\if (!decide ((aA (aa n) (List.getD t.parts (Int.toNat (↑x:Int)) (dfl (Ty.st SN.term))) (List.getD (ae e.types t.pos t.shapes).1 (Int.toNat (0:Int)) (dfl (Ty.st SN.shape))) e).err=(0:Int)))=true then ((0:Int)<=(0:Int)/\(0:Int) < (↑(List.length (ae e.types t.pos t.shapes).1):Int))/\True/\List.getD (ae e.types t.pos t.shapes).1 (Int.toNat (0:Int)) (dfl (Ty.st SN.shape))=(aJ (aa n) t e).1/\(aA (aa n) (List.getD t.parts (Int.toNat (↑x:Int)) (dfl (Ty.st SN.term))) (List.getD (ae e.types t.pos t.shapes).1 (Int.toNat (0:Int)) (dfl (Ty.st SN.shape))) e).err=(aJ (aa n) t e).2.err/\(aA (aa n) (List.getD t.parts (Int.toNat (↑x:Int)) (dfl (Ty.st SN.term))) (List.getD (ae e.types t.pos t.shapes).1 (Int.toNat (0:Int)) (dfl (Ty.st SN.shape))) e).pos=(aJ (aa n) t e).2.pos/\True else inR IntKind.i64 ((↑x:Int)+(1:Int))/\∃(y:Nat),(y<=List.length t.parts/\cE (aa n) e (List.getD (ae e.types t.pos t.shapes).1 (0:Nat) an) (List.drop y t.parts)=cE (aa n) e (List.getD (ae e.types t.pos t.shapes).1 (0:Nat) an) t.parts)/\List.length t.parts - y < List.length t.parts - x/\(↑x:Int)+(1:Int)=(↑y:Int)/\t=t/\e=e/\(ae e.types t.pos t.shapes).1=(ae e.types t.pos t.shapes).1/\false=false/\(↑(List.length (ae e.types t.pos t.shapes).1):Int) - (1:Int)=(↑(List.length (ae e.types t.pos t.shapes).1):Int) - (1:Int)/\t.kind=t.kind/\false=false/\true=true/\t.parts=t.parts/\(↑(List.length t.parts):Int)=(↑(List.length t.parts):Int)/\t=t/\e=e/\(0:Int)=(0:Int)/\aK UInt8=aK UInt8/\aK UInt8=aK UInt8/\(0:Int)=(0:Int)/\(0:Int)=(0:Int)/\List.length (ae e.types t.pos t.shapes).1=List.length (ae e.types t.pos t.shapes).1/\(ae e.types t.pos t.shapes).2.err=(ae e.types t.pos t.shapes).2.err/\(ae e.types t.pos t.shapes).2.pos=(ae e.types t.pos t.shapes).2.pos/\True else True/\(5:Int)=(aJ (aa n) t e).1.kind/\[]=(aJ (aa n) t e).1.pkg/\[]=(aJ (aa n) t e).1.name/\(aJ (aa n) t e).1.names=[]/\(ae e.types t.pos t.shapes).1=(aJ (aa n) t e).1.parts/\(0:Int)=(aJ (aa n) t e).2.err/\(0:Int)=(aJ (aa n) t e).2.pos/\True else if decide (t.kind=(15:Int))=true then ((0:Int)<=(0:Int)/\(0:Int) < (↑(List.length (ae e.types t.pos t.shapes).1):Int))/\((0:Int)<=(0:Int)/\(0:Int) < (↑(List.length t.parts):Int))/\((0:Int)<=(0:Int)/\(0:Int) < (↑(List.length (ae e.types t.pos t.shapes).1):Int))/\(szT (List.getD t.parts (Int.toNat (0:Int)) (dfl (Ty.st SN.term)))<=n/\allT ak (List.getD t.parts (Int.toNat (0:Int)) (dfl (Ty.st SN.term)))=true/\List.length e.values+(4096:Nat) *szT (List.getD t.parts (Int.toNat (0:Int)) (dfl (Ty.st SN.term)))<=(100000000:Nat))/\True/\List.getD (ae e.types t.pos t.shapes).1 (Int.toNat (0:Int)) (dfl (Ty.st SN.shape))=(aJ (aa n) t e).1/\(aA (aa n) (List.getD t.parts (Int.toNat (0:Int)) (dfl (Ty.st SN.term))) (List.getD (ae e.types t.pos t.shapes).1 (Int.toNat (0:Int)) (dfl (Ty.st SN.shape))) e).err=(aJ (aa n) t e).2.err/\(aA (aa n) (List.getD t.parts (Int.toNat (0:Int)) (dfl (Ty.st SN.term))) (List.getD (ae e.types t.pos t.shapes).1 (Int.toNat (0:Int)) (dfl (Ty.st SN.shape))) e).pos=(aJ (aa n) t e).2.pos/\True else if decide (t.kind=(12:Int))=true then ((0:Int)<=(0:Int)/\(0:Int) < (↑(List.length t.parts):Int))
  /\(szT (List.getD t.parts (Int.toNat (0:Int)) (dfl (Ty.st SN.term)))<=n/\allT ak (List.getD t.parts (Int.toNat (0:Int)) (dfl (Ty.st SN.term)))=true/\List.length e.values+(4096:Nat) *szT (List.getD t.parts (Int.toNat (0:Int)) (dfl (Ty.st SN.term)))<=(100000000:Nat))/\if (!decide ((aA (aa n) (List.getD t.parts (Int.toNat (0:Int)) (dfl (Ty.st SN.term))) (ofK (2:Int)) e).err=(0:Int)))=true then ((0:Int)<=(0:Int)/\(0:Int) < (↑(List.length (ae e.types t.pos t.shapes).1):Int))/\True/\List.getD (ae e.types t.pos t.shapes).1 (Int.toNat (0:Int)) (dfl (Ty.st SN.shape))=(aJ (aa n) t e).1/\(aA (aa n) (List.getD t.parts (Int.toNat (0:Int)) (dfl (Ty.st SN.term))) (ofK (2:Int)) e).err=(aJ (aa n) t e).2.err/\(aA (aa n) (List.getD t.parts (Int.toNat (0:Int)) (dfl (Ty.st SN.term))) (ofK (2:Int)) e).pos=(aJ (aa n) t e).2.pos/\True else ((0:Int)<=(1:Int)/\(1:Int) < (↑(List.length t.parts):Int))/\((0:Int)<=(0:Int)/\(0:Int) < (↑(List.length (ae e.types t.pos t.shapes).1):Int))/\(szT (List.getD t.parts (Int.toNat (1:Int)) (dfl (Ty.st SN.term)))<=n/\allT ak (List.getD t.parts (Int.toNat (1:Int)) (dfl (Ty.st SN.term)))=true/\List.length e.values+(4096:Nat) *szT (List.getD t.parts (Int.toNat (1:Int)) (dfl (Ty.st SN.term)))<=(100000000:Nat))/\if (!decide ((aA (aa n) (List.getD t.parts (Int.toNat (1:Int)) (dfl (Ty.st SN.term))) (List.getD (ae e.types t.pos t.shapes).1 (Int.toNat (0:Int)) (dfl (Ty.st SN.shape))) e).err=(0:Int)))=true then ((0:Int)<=(0:Int)/\(0:Int) < (↑(List.length (ae e.types t.pos t.shapes).1):Int))/\True/\List.getD (ae e.types t.pos t.shapes).1 (Int.toNat (0:Int)) (dfl (Ty.st SN.shape))=(aJ (aa n) t e).1/\(aA (aa n) (List.getD t.parts (Int.toNat (1:Int)) (dfl (Ty.st SN.term))) (List.getD (ae e.types t.pos t.shapes).1 (Int.toNat (0:Int)) (dfl (Ty.st SN.shape))) e).err=(aJ (aa n) t e).2.err/\(aA (aa n) (List.getD t.parts (Int.toNat (1:Int)) (dfl (Ty.st SN.term))) (List.getD (ae e.types t.pos t.shapes).1 (Int.toNat (0:Int)) (dfl (Ty.st SN.shape))) e).pos=(aJ (aa n) t e).2.pos/\True else ((0:Int)<=(0:Int)/\(0:Int) < (↑(List.length (ae e.types t.pos t.shapes).1):Int))/\((0:Int)<=(2:Int)/\(2:Int) < (↑(List.length t.parts):Int))/\((0:Int)<=(0:Int)/\(0:Int) < (↑(List.length (ae e.types t.pos t.shapes).1):Int))/\(szT (List.getD t.parts (Int.toNat (2:Int)) (dfl (Ty.st SN.term)))<=n/\allT ak (List.getD t.parts (Int.toNat (2:Int)) (dfl (Ty.st SN.term)))=true/\List.length e.values+(4096:Nat) *szT (List.getD t.parts (Int.toNat (2:Int)) (dfl (Ty.st SN.term)))<=(100000000:Nat))/\True/\List.getD (ae e.types t.pos t.shapes).1 (Int.toNat (0:Int)) (dfl (Ty.st SN.shape))=(aJ (aa n) t e).1/\(aA (aa n) (List.getD t.parts (Int.toNat (2:Int)) (dfl (Ty.st SN.term))) (List.getD (ae e.types t.pos t.shapes).1 (Int.toNat (0:Int)) (dfl (Ty.st SN.shape))) e).err=(aJ (aa n) t e).2.err/\(aA (aa n) (List.getD t.parts (Int.toNat (2:Int)) (dfl (Ty.st SN.term))) (List.getD (ae e.types t.pos t.shapes).1 (Int.toNat (0:Int)) (dfl (Ty.st SN.shape))) e).pos=(aJ (aa n) t e).2.pos/\True else ((0:Int)<=(0:Int)/\(0:Int) < (↑(List.length t.parts):Int))/\((0:Int)<=(0:Int)/\(0:Int)<=(↑(List.length (ae e.types t.pos t.shapes).1):Int) - (1:Int)/\(↑(List.length (ae e.types t.pos t.shapes).1):Int) - (1:Int)<=(↑(List.length (ae e.types t.pos t.shapes).1):Int))/\(szT (List.getD t.parts (Int.toNat (0:Int)) (dfl (Ty.st SN.term)))<=n/\allT ak (List.getD t.parts (Int.toNat (0:Int)) (dfl (Ty.st SN.term)))=true
  /\List.length e.values+(4096:Nat) *szT (List.getD t.parts (Int.toNat (0:Int)) (dfl (Ty.st SN.term)))<=(100000000:Nat))/\if (!decide ((aA (aa n) (List.getD t.parts (Int.toNat (0:Int)) (dfl (Ty.st SN.term))) {kind:=(7:Int),pkg:=[],name:=[],names:=t.names,parts:=List.drop (Int.toNat (0:Int)) (List.take (Int.toNat ((↑(List.length (ae e.types t.pos t.shapes).1):Int) - (1:Int))) (ae e.types t.pos t.shapes).1):Shape} e).err=(0:Int)))=true then ((0:Int)<=(↑(List.length (ae e.types t.pos t.shapes).1):Int) - (1:Int)/\(↑(List.length (ae e.types t.pos t.shapes).1):Int) - (1:Int) < (↑(List.length (ae e.types t.pos t.shapes).1):Int))/\True/\List.getD (ae e.types t.pos t.shapes).1 (Int.toNat ((↑(List.length (ae e.types t.pos t.shapes).1):Int) - (1:Int))) (dfl (Ty.st SN.shape))=(aJ (aa n) t e).1/\(aA (aa n) (List.getD t.parts (Int.toNat (0:Int)) (dfl (Ty.st SN.term))) {kind:=(7:Int),pkg:=[],name:=[],names:=t.names,parts:=List.drop (Int.toNat (0:Int)) (List.take (Int.toNat ((↑(List.length (ae e.types t.pos t.shapes).1):Int) - (1:Int))) (ae e.types t.pos t.shapes).1):Shape} e).err=(aJ (aa n) t e).2.err/\(aA (aa n) (List.getD t.parts (Int.toNat (0:Int)) (dfl (Ty.st SN.term))) {kind:=(7:Int),pkg:=[],name:=[],names:=t.names,parts:=List.drop (Int.toNat (0:Int)) (List.take (Int.toNat ((↑(List.length (ae e.types t.pos t.shapes).1):Int) - (1:Int))) (ae e.types t.pos t.shapes).1):Shape} e).pos=(aJ (aa n) t e).2.pos/\True else ((0:Int)<=(1:Int)/\(1:Int)<=(↑(List.length t.parts):Int)/\(↑(List.length t.parts):Int)<=(↑(List.length t.parts):Int))/\(∃(x:Nat × Flt),(x.1+(1:Nat)<=List.length t.parts/\x.2.err=(0:Int)/\x.2.pos=(0:Int)/\fj (aa n) e (List.getD (ae e.types t.pos t.shapes).1 (List.length (ae e.types t.pos t.shapes).1 - (1:Nat)) an) (List.drop (x.1+(1:Nat)) t.parts) (List.drop x.1 t.vars) (List.drop x.1 (ae e.types t.pos t.shapes).1)=fj (aa n) e (List.getD (ae e.types t.pos t.shapes).1 (List.length (ae e.types t.pos t.shapes).1 - (1:Nat)) an) (List.drop (1:Nat) t.parts) t.vars (ae e.types t.pos t.shapes).1)/\(0:Int)=(↑x.1:Int)/\t=t/\e=e/\(ae e.types t.pos t.shapes).1=(ae e.types t.pos t.shapes).1/\false=false/\(↑(List.length (ae e.types t.pos t.shapes).1):Int) - (1:Int)=(↑(List.length (ae e.types t.pos t.shapes).1):Int) - (1:Int)/\t.kind=t.kind/\false=false/\false=false/\false=false/\false=false/\false=false/\List.drop (Int.toNat (1:Int)) (List.take (Int.toNat (↑(List.length t.parts):Int)) t.parts)=List.drop (Int.toNat (1:Int)) (List.take (Int.toNat (↑(List.length t.parts):Int)) t.parts)/\(↑(List.length (List.drop (Int.toNat (1:Int)) (List.take (Int.toNat (↑(List.length t.parts):Int)) t.parts))):Int)=(↑(List.length (List.drop (Int.toNat (1:Int)) (List.take (Int.toNat (↑(List.length t.parts):Int)) t.parts))):Int)/\(ae e.types t.pos t.shapes).2.err=x.2.err/\(ae e.types t.pos t.shapes).2.pos=x.2.pos/\t=t/\e=e/\(0:Int)=(0:Int)/\aK UInt8=aK UInt8/\aK UInt8=aK UInt8/\(0:Int)=(0:Int)/\(0:Int)=(0:Int)/\List.length (ae e.types t.pos t.shapes).1=List.length (ae e.types t.pos t.shapes).1
  /\(aA (aa n) (List.getD t.parts (Int.toNat (0:Int)) (dfl (Ty.st SN.term))) {kind:=(7:Int),pkg:=[],name:=[],names:=t.names,parts:=List.drop (Int.toNat (0:Int)) (List.take (Int.toNat ((↑(List.length (ae e.types t.pos t.shapes).1):Int) - (1:Int))) (ae e.types t.pos t.shapes).1):Shape} e).err=(aA (aa n) (List.getD t.parts (Int.toNat (0:Int)) (dfl (Ty.st SN.term))) {kind:=(7:Int),pkg:=[],name:=[],names:=t.names,parts:=List.drop (Int.toNat (0:Int)) (List.take (Int.toNat ((↑(List.length (ae e.types t.pos t.shapes).1):Int) - (1:Int))) (ae e.types t.pos t.shapes).1):Shape} e).err/\(aA (aa n) (List.getD t.parts (Int.toNat (0:Int)) (dfl (Ty.st SN.term))) {kind:=(7:Int),pkg:=[],name:=[],names:=t.names,parts:=List.drop (Int.toNat (0:Int)) (List.take (Int.toNat ((↑(List.length (ae e.types t.pos t.shapes).1):Int) - (1:Int))) (ae e.types t.pos t.shapes).1):Shape} e).pos=(aA (aa n) (List.getD t.parts (Int.toNat (0:Int)) (dfl (Ty.st SN.term))) {kind:=(7:Int),pkg:=[],name:=[],names:=t.names,parts:=List.drop (Int.toNat (0:Int)) (List.take (Int.toNat ((↑(List.length (ae e.types t.pos t.shapes).1):Int) - (1:Int))) (ae e.types t.pos t.shapes).1):Shape} e).pos/\True)/\∀(x:Nat × Flt),x.1+(1:Nat)<=List.length t.parts/\x.2.err=(0:Int)/\x.2.pos=(0:Int)/\fj (aa n) e (List.getD (ae e.types t.pos t.shapes).1 (List.length (ae e.types t.pos t.shapes).1 - (1:Nat)) an) (List.drop (x.1+(1:Nat)) t.parts) (List.drop x.1 t.vars) (List.drop x.1 (ae e.types t.pos t.shapes).1)=fj (aa n) e (List.getD (ae e.types t.pos t.shapes).1 (List.length (ae e.types t.pos t.shapes).1 - (1:Nat)) an) (List.drop (1:Nat) t.parts) t.vars (ae e.types t.pos t.shapes).1→if decide ((↑x.1:Int) < (↑(List.length (List.drop (Int.toNat (1:Int)) (List.take (Int.toNat (↑(List.length t.parts):Int)) t.parts))):Int))=true then ((0:Int)<=(↑x.1:Int)/\(↑x.1:Int) < (↑(List.length (List.drop (Int.toNat (1:Int)) (List.take (Int.toNat (↑(List.length t.parts):Int)) t.parts))):Int))/\((0:Int)<=(↑(List.length (ae e.types t.pos t.shapes).1):Int) - (1:Int)/\(↑(List.length (ae e.types t.pos t.shapes).1):Int) - (1:Int) < (↑(List.length (ae e.types t.pos t.shapes).1):Int))/\((0:Int)<=(↑x.1:Int)/\(↑x.1:Int) < (↑(List.length t.vars):Int))/\((0:Int)<=(↑x.1:Int)/\(↑x.1:Int) < (↑(List.length (ae e.types t.pos t.shapes).1):Int))/\(List.length e.values<=(1000000000:Nat)/\List.length [{pkg:=[],name:=List.getD t.vars (Int.toNat (↑x.1:Int)) (dfl Ty.str),shape:=AL.Shape.mk ((List.getD (ae e.types t.pos t.shapes).1 (Int.toNat (↑x.1:Int)) (dfl (Ty.st SN.shape))).kind) ((List.getD (ae e.types t.pos t.shapes).1 (Int.toNat (↑x.1:Int)) (dfl (Ty.st SN.shape))).pkg) ((List.getD (ae e.types t.pos t.shapes).1 (Int.toNat (↑x.1:Int)) (dfl (Ty.st SN.shape))).name) ((List.getD (ae e.types t.pos t.shapes).1 (Int.toNat (↑x.1:Int)) (dfl (Ty.st SN.shape))).names) ((List.getD (ae e.types t.pos t.shapes).1 (Int.toNat (↑x.1:Int)) (dfl (Ty.st SN.shape))).parts):Bndg}]<=(1000:Nat))/\(szT (List.getD (List.drop (Int.toNat (1:Int)) (List.take (Int.toNat (↑(List.length t.parts):Int)) t.parts)) (Int.toNat (↑x.1:Int)) (dfl (Ty.st SN.term)))<=n/\allT ak (List.getD (List.drop (Int.toNat (1:Int)) (List.take (Int.toNat (↑(List.length t.parts):Int)) t.parts)) (Int.toNat (↑x.1:Int)) (dfl (Ty.st SN.term)))=true
  /\List.length (e.values++[{pkg:=[],name:=List.getD t.vars (Int.toNat (↑x.1:Int)) (dfl Ty.str),shape:=AL.Shape.mk ((List.getD (ae e.types t.pos t.shapes).1 (Int.toNat (↑x.1:Int)) (dfl (Ty.st SN.shape))).kind) ((List.getD (ae e.types t.pos t.shapes).1 (Int.toNat (↑x.1:Int)) (dfl (Ty.st SN.shape))).pkg) ((List.getD (ae e.types t.pos t.shapes).1 (Int.toNat (↑x.1:Int)) (dfl (Ty.st SN.shape))).name) ((List.getD (ae e.types t.pos t.shapes).1 (Int.toNat (↑x.1:Int)) (dfl (Ty.st SN.shape))).names) ((List.getD (ae e.types t.pos t.shapes).1 (Int.toNat (↑x.1:Int)) (dfl (Ty.st SN.shape))).parts):Bndg}])+(4096:Nat) *szT (List.getD (List.drop (Int.toNat (1:Int)) (List.take (Int.toNat (↑(List.length t.parts):Int)) t.parts)) (Int.toNat (↑x.1:Int)) (dfl (Ty.st SN.term)))<=(100000000:Nat))/\if (!decide ((aA (aa n) (List.getD (List.drop (Int.toNat (1:Int)) (List.take (Int.toNat (↑(List.length t.parts):Int)) t.parts)) (Int.toNat (↑x.1:Int)) (dfl (Ty.st SN.term))) (List.getD (ae e.types t.pos t.shapes).1 (Int.toNat ((↑(List.length (ae e.types t.pos t.shapes).1):Int) - (1:Int))) (dfl (Ty.st SN.shape))) (bL e [{pkg:=[],name:=List.getD t.vars (Int.toNat (↑x.1:Int)) (dfl Ty.str),shape:=AL.Shape.mk ((List.getD (ae e.types t.pos t.shapes).1 (Int.toNat (↑x.1:Int)) (dfl (Ty.st SN.shape))).kind) ((List.getD (ae e.types t.pos t.shapes).1 (Int.toNat (↑x.1:Int)) (dfl (Ty.st SN.shape))).pkg) ((List.getD (ae e.types t.pos t.shapes).1 (Int.toNat (↑x.1:Int)) (dfl (Ty.st SN.shape))).name) ((List.getD (ae e.types t.pos t.shapes).1 (Int.toNat (↑x.1:Int)) (dfl (Ty.st SN.shape))).names) ((List.getD (ae e.types t.pos t.shapes).1 (Int.toNat (↑x.1:Int)) (dfl (Ty.st SN.shape))).parts):Bndg}])).err=(0:Int)))=true then ((0:Int)<=(↑(List.length (ae e.types t.pos t.shapes).1):Int) - (1:Int)/\(↑(List.length (ae e.types t.pos t.shapes).1):Int) - (1:Int) < (↑(List.length (ae e.types t.pos t.shapes).1):Int))/\True/\List.getD (ae e.types t.pos t.shapes).1 (Int.toNat ((↑(List.length (ae e.types t.pos t.shapes).1):Int) - (1:Int))) (dfl (Ty.st SN.shape))=(aJ (aa n) t e).1/\(aA (aa n) (List.getD (List.drop (Int.toNat (1:Int)) (List.take (Int.toNat (↑(List.length t.parts):Int)) t.parts)) (Int.toNat (↑x.1:Int)) (dfl (Ty.st SN.term))) (List.getD (ae e.types t.pos t.shapes).1 (Int.toNat ((↑(List.length (ae e.types t.pos t.shapes).1):Int) - (1:Int))) (dfl (Ty.st SN.shape))) (bL e [{pkg:=[],name:=List.getD t.vars (Int.toNat (↑x.1:Int)) (dfl Ty.str),shape:=AL.Shape.mk ((List.getD (ae e.types t.pos t.shapes).1 (Int.toNat (↑x.1:Int)) (dfl (Ty.st SN.shape))).kind) ((List.getD (ae e.types t.pos t.shapes).1 (Int.toNat (↑x.1:Int)) (dfl (Ty.st SN.shape))).pkg) ((List.getD (ae e.types t.pos t.shapes).1 (Int.toNat (↑x.1:Int)) (dfl (Ty.st SN.shape))).name) ((List.getD (ae e.types t.pos t.shapes).1 (Int.toNat (↑x.1:Int)) (dfl (Ty.st SN.shape))).names) ((List.getD (ae e.types t.pos t.shapes).1 (Int.toNat (↑x.1:Int)) (dfl (Ty.st SN.shape))).parts):Bndg}])).err=(aJ (aa n) t e).2.err
  /\(aA (aa n) (List.getD (List.drop (Int.toNat (1:Int)) (List.take (Int.toNat (↑(List.length t.parts):Int)) t.parts)) (Int.toNat (↑x.1:Int)) (dfl (Ty.st SN.term))) (List.getD (ae e.types t.pos t.shapes).1 (Int.toNat ((↑(List.length (ae e.types t.pos t.shapes).1):Int) - (1:Int))) (dfl (Ty.st SN.shape))) (bL e [{pkg:=[],name:=List.getD t.vars (Int.toNat (↑x.1:Int)) (dfl Ty.str),shape:=AL.Shape.mk ((List.getD (ae e.types t.pos t.shapes).1 (Int.toNat (↑x.1:Int)) (dfl (Ty.st SN.shape))).kind) ((List.getD (ae e.types t.pos t.shapes).1 (Int.toNat (↑x.1:Int)) (dfl (Ty.st SN.shape))).pkg) ((List.getD (ae e.types t.pos t.shapes).1 (Int.toNat (↑x.1:Int)) (dfl (Ty.st SN.shape))).name) ((List.getD (ae e.types t.pos t.shapes).1 (Int.toNat (↑x.1:Int)) (dfl (Ty.st SN.shape))).names) ((List.getD (ae e.types t.pos t.shapes).1 (Int.toNat (↑x.1:Int)) (dfl (Ty.st SN.shape))).parts):Bndg}])).pos=(aJ (aa n) t e).2.pos/\True else inR IntKind.i64 ((↑x.1:Int)+(1:Int))/\∃(y:Nat × Flt),(y.1+(1:Nat)<=List.length t.parts/\y.2.err=(0:Int)/\y.2.pos=(0:Int)/\fj (aa n) e (List.getD (ae e.types t.pos t.shapes).1 (List.length (ae e.types t.pos t.shapes).1 - (1:Nat)) an) (List.drop (y.1+(1:Nat)) t.parts) (List.drop y.1 t.vars) (List.drop y.1 (ae e.types t.pos t.shapes).1)=fj (aa n) e (List.getD (ae e.types t.pos t.shapes).1 (List.length (ae e.types t.pos t.shapes).1 - (1:Nat)) an) (List.drop (1:Nat) t.parts) t.vars (ae e.types t.pos t.shapes).1)/\List.length t.parts - y.1 < List.length t.parts - x.1/\(↑x.1:Int)+(1:Int)=(↑y.1:Int)/\t=t/\e=e/\(ae e.types t.pos t.shapes).1=(ae e.types t.pos t.shapes).1/\false=false/\(↑(List.length (ae e.types t.pos t.shapes).1):Int) - (1:Int)=(↑(List.length (ae e.types t.pos t.shapes).1):Int) - (1:Int)/\t.kind=t.kind/\false=false/\false=false/\false=false/\false=false/\false=false/\List.drop (Int.toNat (1:Int)) (List.take (Int.toNat (↑(List.length t.parts):Int)) t.parts)=List.drop (Int.toNat (1:Int)) (List.take (Int.toNat (↑(List.length t.parts):Int)) t.parts)/\(↑(List.length (List.drop (Int.toNat (1:Int)) (List.take (Int.toNat (↑(List.length t.parts):Int)) t.parts))):Int)=(↑(List.length (List.drop (Int.toNat (1:Int)) (List.take (Int.toNat (↑(List.length t.parts):Int)) t.parts))):Int)/\(aA (aa n) (List.getD (List.drop (Int.toNat (1:Int)) (List.take (Int.toNat (↑(List.length t.parts):Int)) t.parts)) (Int.toNat (↑x.1:Int)) (dfl (Ty.st SN.term))) (List.getD (ae e.types t.pos t.shapes).1 (Int.toNat ((↑(List.length (ae e.types t.pos t.shapes).1):Int) - (1:Int))) (dfl (Ty.st SN.shape))) (bL e [{pkg:=[],name:=List.getD t.vars (Int.toNat (↑x.1:Int)) (dfl Ty.str),shape:=AL.Shape.mk ((List.getD (ae e.types t.pos t.shapes).1 (Int.toNat (↑x.1:Int)) (dfl (Ty.st SN.shape))).kind) ((List.getD (ae e.types t.pos t.shapes).1 (Int.toNat (↑x.1:Int)) (dfl (Ty.st SN.shape))).pkg) ((List.getD (ae e.types t.pos t.shapes).1 (Int.toNat (↑x.1:Int)) (dfl (Ty.st SN.shape))).name) ((List.getD (ae e.types t.pos t.shapes).1 (Int.toNat (↑x.1:Int)) (dfl (Ty.st SN.shape))).names) ((List.getD (ae e.types t.pos t.shapes).1 (Int.toNat (↑x.1:Int)) (dfl (Ty.st SN.shape))).parts):Bndg}])).err=y.2.err
  /\(aA (aa n) (List.getD (List.drop (Int.toNat (1:Int)) (List.take (Int.toNat (↑(List.length t.parts):Int)) t.parts)) (Int.toNat (↑x.1:Int)) (dfl (Ty.st SN.term))) (List.getD (ae e.types t.pos t.shapes).1 (Int.toNat ((↑(List.length (ae e.types t.pos t.shapes).1):Int) - (1:Int))) (dfl (Ty.st SN.shape))) (bL e [{pkg:=[],name:=List.getD t.vars (Int.toNat (↑x.1:Int)) (dfl Ty.str),shape:=AL.Shape.mk ((List.getD (ae e.types t.pos t.shapes).1 (Int.toNat (↑x.1:Int)) (dfl (Ty.st SN.shape))).kind) ((List.getD (ae e.types t.pos t.shapes).1 (Int.toNat (↑x.1:Int)) (dfl (Ty.st SN.shape))).pkg) ((List.getD (ae e.types t.pos t.shapes).1 (Int.toNat (↑x.1:Int)) (dfl (Ty.st SN.shape))).name) ((List.getD (ae e.types t.pos t.shapes).1 (Int.toNat (↑x.1:Int)) (dfl (Ty.st SN.shape))).names) ((List.getD (ae e.types t.pos t.shapes).1 (Int.toNat (↑x.1:Int)) (dfl (Ty.st SN.shape))).parts):Bndg}])).pos=y.2.pos/\t=t/\e=e/\(0:Int)=(0:Int)/\aK UInt8=aK UInt8/\aK UInt8=aK UInt8/\(0:Int)=(0:Int)/\(0:Int)=(0:Int)/\List.length (ae e.types t.pos t.shapes).1=List.length (ae e.types t.pos t.shapes).1/\(aA (aa n) (List.getD t.parts (Int.toNat (0:Int)) (dfl (Ty.st SN.term))) {kind:=(7:Int),pkg:=[],name:=[],names:=t.names,parts:=List.drop (Int.toNat (0:Int)) (List.take (Int.toNat ((↑(List.length (ae e.types t.pos t.shapes).1):Int) - (1:Int))) (ae e.types t.pos t.shapes).1):Shape} e).err=(aA (aa n) (List.getD t.parts (Int.toNat (0:Int)) (dfl (Ty.st SN.term))) {kind:=(7:Int),pkg:=[],name:=[],names:=t.names,parts:=List.drop (Int.toNat (0:Int)) (List.take (Int.toNat ((↑(List.length (ae e.types t.pos t.shapes).1):Int) - (1:Int))) (ae e.types t.pos t.shapes).1):Shape} e).err/\(aA (aa n) (List.getD t.parts (Int.toNat (0:Int)) (dfl (Ty.st SN.term))) {kind:=(7:Int),pkg:=[],name:=[],names:=t.names,parts:=List.drop (Int.toNat (0:Int)) (List.take (Int.toNat ((↑(List.length (ae e.types t.pos t.shapes).1):Int) - (1:Int))) (ae e.types t.pos t.shapes).1):Shape} e).pos=(aA (aa n) (List.getD t.parts (Int.toNat (0:Int)) (dfl (Ty.st SN.term))) {kind:=(7:Int),pkg:=[],name:=[],names:=t.names,parts:=List.drop (Int.toNat (0:Int)) (List.take (Int.toNat ((↑(List.length (ae e.types t.pos t.shapes).1):Int) - (1:Int))) (ae e.types t.pos t.shapes).1):Shape} e).pos/\True else ((0:Int)<=(↑(List.length (ae e.types t.pos t.shapes).1):Int) - (1:Int)/\(↑(List.length (ae e.types t.pos t.shapes).1):Int) - (1:Int) < (↑(List.length (ae e.types t.pos t.shapes).1):Int))/\True/\List.getD (ae e.types t.pos t.shapes).1 (Int.toNat ((↑(List.length (ae e.types t.pos t.shapes).1):Int) - (1:Int))) (dfl (Ty.st SN.shape))=(aJ (aa n) t e).1/\x.2.err=(aJ (aa n) t e).2.err/\x.2.pos=(aJ (aa n) t e).2.pos/\True:=by
 have rm:=zx hf
 have ln:=ht.term_parts.len
 have ps:=vt t
 have hds:List.drop (Int.toNat 1) (List.take t.parts.length t.parts)=t.parts.drop 1:=by rw [List.take_length];rfl
 have hdg:∀k:Nat,(t.parts.drop 1).getD k (dfl (.st .term))=t.parts.getD (k+1) (dfl (.st .term)):=fun k=>by
  rw [List.getD_eq_getElem?_getD,List.getD_eq_getElem?_getD,List.getElem?_drop,Nat.add_comm]
 have e0:Int.toNat 0=0:=rfl
 have e1:Int.toNat 1=1:=rfl
 have e2:Int.toNat 2=2:=rfl
 have et:∀s:Shape,AL.Shape.mk s.kind s.pkg s.name s.names s.parts=s:=fun s=>by cases s;rfl
 simp only [hds,et,Int.toNat_natCast,eq_self,true_and,and_true]
 simp only [hdg,e0,e1,e2,List.length_drop,List.drop_zero]
 have hsh:t.shapes.length<=1000000:=by
  rcases hk with k | k | k | k | k
  ·have:=rm.k6 k;omega
  ·have:=rm.k11 k;omega
  ·have:=rm.k12 k;omega
  ·have:=rm.k13 k;omega
  ·have:=rm.k15 k;omega
 have hl:=@qa e.types t.pos t.shapes
 have hok:=@rM e.types t.pos t.shapes
 have hA0:¬(ae e.types t.pos t.shapes).2.err=0→aJ (aa n) t e=(an,(ae e.types t.pos t.shapes).2):=fun h=>by simp only [aJ,if_neg h]
 have hA6:(ae e.types t.pos t.shapes).2.err=0→t.kind=6→aJ (aa n) t e=(⟨8,[],[],[],(ae e.types t.pos t.shapes).1++[(aa n (t.parts.getD 0 az) (bL e (eB t.names (ae e.types t.pos t.shapes).1))).1]⟩,(aa n (t.parts.getD 0 az) (bL e (eB t.names (ae e.types t.pos t.shapes).1))).2):=fun h k=>by simp only [aJ,if_pos h,if_pos k]
 have hA11:(ae e.types t.pos t.shapes).2.err=0→t.kind=11→aJ (aa n) t e=if (cE (aa n) e ((ae e.types t.pos t.shapes).1.getD 0 an) t.parts).err=0 then (⟨5,[],[],[],(ae e.types t.pos t.shapes).1⟩,cW) else ((ae e.types t.pos t.shapes).1.getD 0 an,cE (aa n) e ((ae e.types t.pos t.shapes).1.getD 0 an) t.parts):=fun h k=>by
  simp only [aJ,if_pos h,if_neg (show ¬t.kind=6 by omega),if_pos k]
 have hA15:(ae e.types t.pos t.shapes).2.err=0→t.kind=15→aJ (aa n) t e=((ae e.types t.pos t.shapes).1.getD 0 an,aA (aa n) (t.parts.getD 0 az) ((ae e.types t.pos t.shapes).1.getD 0 an) e):=fun h k=>by
  simp only [aJ,if_pos h,if_neg (show ¬t.kind=6 by omega),if_neg (show ¬t.kind=11 by omega),if_pos k]
 have hA12:(ae e.types t.pos t.shapes).2.err=0→t.kind=12→aJ (aa n) t e=((ae e.types t.pos t.shapes).1.getD 0 an,if (aA (aa n) (t.parts.getD 0 az) (ofK 2) e).err=0 then (if (aA (aa n) (t.parts.getD 1 az) ((ae e.types t.pos t.shapes).1.getD 0 an) e).err=0 then aA (aa n) (t.parts.getD 2 az) ((ae e.types t.pos t.shapes).1.getD 0 an) e else aA (aa n) (t.parts.getD 1 az) ((ae e.types t.pos t.shapes).1.getD 0 an) e) else aA (aa n) (t.parts.getD 0 az) (ofK 2) e):=fun h k=>by
  simp only [aJ,if_pos h,if_neg (show ¬t.kind=6 by omega),if_neg (show ¬t.kind=11 by omega),if_neg (show ¬t.kind=15 by omega),if_pos k]
 have hA13:(ae e.types t.pos t.shapes).2.err=0→t.kind=13→aJ (aa n) t e=((ae e.types t.pos t.shapes).1.getD ((ae e.types t.pos t.shapes).1.length - 1) an,if (aA (aa n) (t.parts.getD 0 az) ⟨7,[],[],t.names,(ae e.types t.pos t.shapes).1.take ((ae e.types t.pos t.shapes).1.length - 1)⟩ e).err=0 then fj (aa n) e ((ae e.types t.pos t.shapes).1.getD ((ae e.types t.pos t.shapes).1.length - 1) an) (t.parts.drop 1) t.vars (ae e.types t.pos t.shapes).1 else aA (aa n) (t.parts.getD 0 az) ⟨7,[],[],t.names,(ae e.types t.pos t.shapes).1.take ((ae e.types t.pos t.shapes).1.length - 1)⟩ e):=fun h k=>by
  simp only [aJ,if_pos h,if_neg (show ¬t.kind=6 by omega),if_neg (show ¬t.kind=11 by omega),if_neg (show ¬t.kind=15 by omega),if_neg (show ¬t.kind=12 by omega)]
 revert hl hok hA0 hA6 hA11 hA15 hA12 hA13
 generalize aJ (aa n) t e=R
 generalize ae e.types t.pos t.shapes=L
 intro hl hok hA0 hA6 hA11 hA15 hA12 hA13
 refine ⟨hsh,ab (fun h=>?_) (fun h=>?_)⟩
 ·rw [hA0 (ndF h)];exact ⟨rfl,rfl,rfl,rfl,rfl,rfl,rfl⟩
 have h:L.2.err=0:=ndT h
 have hl:=hl h
 have hok:L.2=cW:=by rw [hok h]
 have nx:∀{j w:Nat},j < t.parts.length→w<=e.values.length+4096→szT (t.parts.getD j (dfl (.st .term)))<=n/\allT ak (t.parts.getD j (dfl (.st .term)))=true/\w+4096 *szT (t.parts.getD j (dfl (.st .term)))<=100000000:=fun hj hw=>tA hz hf hv _ hj hw
 refine ⟨bN (by omega) (by omega),ab (fun k=>?_) (fun k6=>?_)⟩
 ·have k:=Xo k
  obtain ⟨n1,n2,n3⟩:=rm.k6 k
  refine ⟨⟨(0,e),⟨Nat.zero_le _,rfl,by rw [List.drop_zero,List.drop_zero]⟩,rfl,rfl⟩,?_⟩
  rintro ⟨j,f⟩ ⟨h1,h2,h3⟩
  dsimp only at h1 h2 h3 ⊢
  refine ab (fun c=>?_) (fun c=>?_)
  ·have c:=Xo c
   have hj:j < t.names.length:=by omega
   rw [aC t.names j (dfl .str) hj,aC L.1 j (dfl (.st .shape)) (by omega)] at h3
   simp only [eB] at h3
   refine ⟨by omega,by omega,⟨by omega,by simp⟩,bN (by omega) (by omega),(j+1,_),⟨by dsimp only;omega,?_,?_⟩,by dsimp only;omega,by dsimp only;omega,rfl⟩
   ·dsimp only;rw [List.length_append,h2];simp only [List.length_cons,List.length_nil];omega
   ·show bL (bL f [ec (t.names.getD j (dfl .str)) (L.1.getD j (dfl (.st .shape)))]) _=_
    rw [vr];exact h3
  ·have c:¬((j:Int) < (t.names.length:Int)):=fun q=>c (Xd q)
   have hj:j=t.names.length:=by omega
   have hf':f=bL e (eB t.names L.1):=by
    rw [hj,List.drop_length] at h3
    simp only [eB] at h3
    rw [AJ] at h3
    exact h3
   have ob:=nx (j:=0) (w:=f.values.length) (by omega) (by omega)
   rw [hA6 h k]
   refine ⟨by omega,ob,?_,rfl,rfl,rfl,rfl,?_,?_,?_⟩
   ·simp only [List.length_cons,List.length_nil];omega
   ·rw [hf'];rfl
   ·rw [hf'];rfl
   ·rw [hf'];rfl
 have k6:¬t.kind=6:=fun q=>k6 (Xd q)
 refine ab (fun k=>?_) (fun k11=>?_)
 ·have k:=Xo k
  have n1:=rm.k11 k
  refine ⟨⟨0,⟨Nat.zero_le _,by rw [List.drop_zero]⟩,rfl⟩,?_⟩
  rintro j ⟨h1,h2⟩
  refine ab (fun c=>?_) (fun c=>?_)
  ·have c:=Xo c
   have hj:j < t.parts.length:=by omega
   rw [aC t.parts j (dfl (.st .term)) hj] at h2
   simp only [cE] at h2
   refine ⟨by omega,by omega,nx hj (Nat.le_add_right _ _),ab (fun f=>?_) (fun f=>?_)⟩
   ·have f:¬(aA (aa n) (t.parts.getD j (dfl (.st .term))) (L.1.getD 0 an) e).err=0:=ndF f
    rw [if_neg f] at h2
    rw [hA11 h k,←h2,if_neg f]
    exact ⟨by omega,rfl,rfl,rfl⟩
   ·have f:(aA (aa n) (t.parts.getD j (dfl (.st .term))) (L.1.getD 0 an) e).err=0:=ndT f
    rw [if_pos f] at h2
    exact ⟨bc hj ln,j+1,⟨by omega,h2⟩,by omega,by omega⟩
  ·have c:¬((j:Int) < (t.parts.length:Int)):=fun q=>c (Xd q)
   have hj:j=t.parts.length:=by omega
   rw [hj,List.drop_length] at h2
   rw [hA11 h k,←h2]
   exact ⟨rfl,rfl,rfl,rfl,rfl,rfl,rfl⟩
 have k11:¬t.kind=11:=fun q=>k11 (Xd q)
 refine ab (fun k=>?_) (fun k15=>?_)
 ·have k:=Xo k
  obtain ⟨n1,n2⟩:=rm.k15 k
  rw [hA15 h k]
  exact ⟨by omega,by omega,by omega,nx (by omega) (Nat.le_add_right _ _),rfl,rfl,rfl⟩
 have k15:¬t.kind=15:=fun q=>k15 (Xd q)
 refine ab (fun k=>?_) (fun k12=>?_)
 ·have k:=Xo k
  obtain ⟨n1,n2⟩:=rm.k12 k
  rw [hA12 h k]
  refine ⟨by omega,nx (by omega) (Nat.le_add_right _ _),ab (fun f=>?_) (fun f=>?_)⟩
  ·rw [if_neg (show ¬(aA (aa n) (t.parts.getD 0 az) (ofK 2) e).err=0 from ndF f)]
   exact ⟨by omega,rfl,rfl,rfl⟩
  rw [if_pos (show (aA (aa n) (t.parts.getD 0 az) (ofK 2) e).err=0 from ndT f)]
  refine ⟨by omega,by omega,nx (by omega) (Nat.le_add_right _ _),ab (fun f=>?_) (fun f=>?_)⟩
  ·rw [if_neg (show ¬(aA (aa n) (t.parts.getD 1 az) (L.1.getD 0 an) e).err=0 from ndF f)]
   exact ⟨by omega,rfl,rfl,rfl⟩
  rw [if_pos (show (aA (aa n) (t.parts.getD 1 az) (L.1.getD 0 an) e).err=0 from ndT f)]
  exact ⟨by omega,by omega,by omega,nx (by omega) (Nat.le_add_right _ _),rfl,rfl,rfl⟩
 have k12:¬t.kind=12:=fun q=>k12 (Xd q)
 have k:t.kind=13:=by omega
 obtain ⟨n1,n2,n3⟩:=rm.k13 k
 have el:((L.1.length:Int) - 1).toNat=L.1.length - 1:=by omega
 rw [el,hA13 h k]
 refine ⟨by omega,by omega,nx (by omega) (Nat.le_add_right _ _),ab (fun f=>?_) (fun f=>?_)⟩
 ·rw [if_neg (show ¬(aA (aa n) (t.parts.getD 0 az) ⟨7,[],[],t.names,L.1.take (L.1.length - 1)⟩ e).err=0 from ndF f)]
  exact ⟨by omega,rfl,rfl,rfl⟩
 rw [if_pos (show (aA (aa n) (t.parts.getD 0 az) ⟨7,[],[],t.names,L.1.take (L.1.length - 1)⟩ e).err=0 from ndT f)]
 refine ⟨by omega,⟨(0,cW),⟨by dsimp only;omega,rfl,rfl,by rw [List.drop_zero,List.drop_zero]⟩,rfl,by rw [hok],by rw [hok]⟩,?_⟩
 rintro ⟨j,f⟩ ⟨h1,h2,h3,h4⟩
 dsimp only at h1 h2 h3 h4 ⊢
 refine ab (fun c=>?_) (fun c=>?_)
 ·have c:=Xo c
  have hj:j+1 < t.parts.length:=by omega
  rw [aC t.parts (j+1) (dfl (.st .term)) hj,aC t.vars j (dfl .str) (by omega),aC L.1 j (dfl (.st .shape)) (by omega)] at h4
  simp only [fj] at h4
  have ob:=nx (j:=j+1) (w:=e.values.length+1) hj (by omega)
  refine ⟨by omega,by omega,by omega,by omega,⟨by omega,by simp⟩,?_,ab (fun f=>?_) (fun f=>?_)⟩
  ·rw [List.length_append];exact ob
  ·have f:=ndF f
   rw [←h4,if_neg (show ¬(aA (aa n) (t.parts.getD (j+1) (dfl (.st .term))) (L.1.getD (L.1.length - 1) an) (bL e [ec (t.vars.getD j (dfl .str)) (L.1.getD j (dfl (.st .shape)))])).err=0 from f)]
   exact ⟨by omega,rfl,rfl,rfl⟩
  ·have f:=ndT f
   rw [if_pos (show (aA (aa n) (t.parts.getD (j+1) (dfl (.st .term))) (L.1.getD (L.1.length - 1) an) (bL e [ec (t.vars.getD j (dfl .str)) (L.1.getD j (dfl (.st .shape)))])).err=0 from f)] at h4
   exact ⟨bc (by omega) ln,(j+1,cW),⟨by dsimp only;omega,rfl,rfl,h4⟩,by dsimp only;omega,by dsimp only;omega,f,by rw [AM f]⟩
 ·have c:¬((j:Int) < ((t.parts.length - 1:Nat):Int)):=fun q=>c (Xd q)
  have hj:j+1=t.parts.length:=by omega
  rw [hj,List.drop_length] at h4
  simp only [fj] at h4
  rw [←h4]
  exact ⟨by omega,rfl,h2,h3⟩
theorem Bt (n:Nat) (t:Trm) (e:Envt) (ht:Wf (.st .term) t) (he:Wf (.st .env) e) (hz:szT t<=n+1) (hf:allT ak t=true) (hv:e.values.length+4096 *szT t<=100000000) :
  if decide (t.kind=(1:Int))=true then True/\ofK (1:Int)=(ao (aa n) t e).1/\(0:Int)=(ao (aa n) t e).2.err/\(0:Int)=(ao (aa n) t e).2.pos/\True else if decide (t.kind=(2:Int))=true then True/\ofK (3:Int)=(ao (aa n) t e).1/\(0:Int)=(ao (aa n) t e).2.err/\(0:Int)=(ao (aa n) t e).2.pos/\True else if decide (t.kind=(3:Int))=true then True/\ofK (2:Int)=(ao (aa n) t e).1/\(0:Int)=(ao (aa n) t e).2.err/\(0:Int)=(ao (aa n) t e).2.pos/\True else (decide (t.kind=(4:Int))=(decide (t.kind=(3:Int)) || decide (t.kind=(4:Int)))/\t=t/\e=e/\t.kind=t.kind/\false=false/\false=false/\t=t/\e=e/\(0:Int)=(0:Int)/\aK UInt8=aK UInt8/\aK UInt8=aK UInt8/\(0:Int)=(0:Int)/\(0:Int)=(0:Int)/\True)/\if (decide (t.kind=(3:Int)) || decide (t.kind=(4:Int)))=true then True/\ofK (2:Int)=(ao (aa n) t e).1/\(0:Int)=(ao (aa n) t e).2.err/\(0:Int)=(ao (aa n) t e).2.pos/\True else if decide (t.kind=(5:Int))=true then if (!Option.isSome (aI e.values t.pkg t.name))=true then True/\Option.elim (aI e.values t.pkg t.name) an aO=(ao (aa n) t e).1/\(110:Int)=(ao (aa n) t e).2.err/\t.pos=(ao (aa n) t e).2.pos/\True else True/\Option.elim (aI e.values t.pkg t.name) an aO=(ao (aa n) t e).1/\(0:Int)=(ao (aa n) t e).2.err/\(0:Int)=(ao (aa n) t e).2.pos/\True else if decide (t.kind=(7:Int))=true then ((0:Nat) < List.length t.parts/\szT t<=n+(1:Nat)/\allT ak t=true/\List.length e.values+(4096:Nat) *szT t<=(100000000:Nat))/\True/\(bU (aa n) t e).1=(ao (aa n) t e).1/\(bU (aa n) t e).2.err=(ao (aa n) t e).2.err/\(bU (aa n) t e).2.pos=(ao (aa n) t e).2.pos/\True else if decide (t.kind=(8:Int))=true then (∃(x:Nat × List Shape),(x.1<=List.length t.parts/\List.length x.2=x.1/\bV (aa n) e t.parts=(x.2++(bV (aa n) e (List.drop x.1 t.parts)).1,(bV (aa n) e (List.drop x.1 t.parts)).2))/\(0:Int)=(↑x.1:Int)/\false=false/\t=t/\e=e/\t.kind=t.kind/\false=false/\false=false/\false=false/\false=false/\true=true/\t.parts=t.parts/\(↑(List.length t.parts):Int)=(↑(List.length t.parts):Int)/\(6:Int)=(6:Int)/\aK UInt8=aK UInt8/\aK UInt8=aK UInt8/\t.names=t.names/\x.2=[]/\List.length x.2=(0:Nat)/\t=t/\e=e/\(0:Int)=(0:Int)/\aK UInt8=aK UInt8/\aK UInt8=aK UInt8/\(0:Int)=(0:Int)/\(0:Int)=(0:Int)/\True)/\∀(x:Nat × List Shape),x.1<=List.length t.parts/\List.length x.2=x.1/\bV (aa n) e t.parts=(x.2++(bV (aa n) e (List.drop x.1 t.parts)).1,(bV (aa n) e (List.drop x.1 t.parts)).2)→if decide ((↑x.1:Int) < (↑(List.length t.parts):Int))=true then ((0:Int)<=(↑x.1:Int)/\(↑x.1:Int) < (↑(List.length t.parts):Int))/\(szT (List.getD t.parts (Int.toNat (↑x.1:Int)) (dfl (Ty.st SN.term)))<=n/\allT ak (List.getD t.parts (Int.toNat (↑x.1:Int)) (dfl (Ty.st SN.term)))=true/\List.length e.values+(4096:Nat) *szT (List.getD t.parts (Int.toNat (↑x.1:Int)) (dfl (Ty.st SN.term)))<=(100000000:Nat))/\if (!decide ((aa n (List.getD t.parts (Int.toNat (↑x.1:Int)) (dfl (Ty.st SN.term))) e).2.err=(0:Int)))=true then True/\(aa n (List.getD t.parts (Int.toNat (↑x.1:Int)) (dfl (Ty.st SN.term))) e).1=(ao (aa n) t e).1/\(aa n (List.getD t.parts (Int.toNat (↑x.1:Int)) (dfl (Ty.st SN.term))) e).2.err=(ao (aa n) t e).2.err
  /\(aa n (List.getD t.parts (Int.toNat (↑x.1:Int)) (dfl (Ty.st SN.term))) e).2.pos=(ao (aa n) t e).2.pos/\True else (List.length x.2=List.length x.2/\(List.length x.2+List.length [(aa n (List.getD t.parts (Int.toNat (↑x.1:Int)) (dfl (Ty.st SN.term))) e).1]) *(88:Nat)<=(140737488355328:Nat))/\inR IntKind.i64 ((↑x.1:Int)+(1:Int))/\∃(y:Nat × List Shape),(y.1<=List.length t.parts/\List.length y.2=y.1/\bV (aa n) e t.parts=(y.2++(bV (aa n) e (List.drop y.1 t.parts)).1,(bV (aa n) e (List.drop y.1 t.parts)).2))/\List.length t.parts - y.1 < List.length t.parts - x.1/\(↑x.1:Int)+(1:Int)=(↑y.1:Int)/\false=false/\t=t/\e=e/\t.kind=t.kind/\false=false/\false=false/\false=false/\false=false/\true=true/\t.parts=t.parts/\(↑(List.length t.parts):Int)=(↑(List.length t.parts):Int)/\(6:Int)=(6:Int)/\aK UInt8=aK UInt8/\aK UInt8=aK UInt8/\t.names=t.names/\x.2++[(aa n (List.getD t.parts (Int.toNat (↑x.1:Int)) (dfl (Ty.st SN.term))) e).1]=y.2/\List.length (x.2++[(aa n (List.getD t.parts (Int.toNat (↑x.1:Int)) (dfl (Ty.st SN.term))) e).1])=List.length y.2/\t=t/\e=e/\(0:Int)=(0:Int)/\aK UInt8=aK UInt8/\aK UInt8=aK UInt8/\(0:Int)=(0:Int)/\(0:Int)=(0:Int)/\True else True/\(6:Int)=(ao (aa n) t e).1.kind/\[]=(ao (aa n) t e).1.pkg/\[]=(ao (aa n) t e).1.name/\t.names=(ao (aa n) t e).1.names/\x.2=(ao (aa n) t e).1.parts/\(0:Int)=(ao (aa n) t e).2.err/\(0:Int)=(ao (aa n) t e).2.pos/\True else if decide (t.kind=(9:Int))=true then ((0:Nat) < List.length t.parts/\szT t<=n+(1:Nat)/\allT ak t=true/\List.length e.values+(4096:Nat) *szT t<=(100000000:Nat))/\True/\(bW (aa n) t e).1=(ao (aa n) t e).1/\(bW (aa n) t e).2.err=(ao (aa n) t e).2.err/\(bW (aa n) t e).2.pos=(ao (aa n) t e).2.pos/\True else if decide (t.kind=(10:Int))=true then ((0:Int)<=(0:Int)/\(0:Int) < (↑(List.length t.parts):Int))/\(szT (List.getD t.parts (Int.toNat (0:Int)) (dfl (Ty.st SN.term)))<=n/\allT ak (List.getD t.parts (Int.toNat (0:Int)) (dfl (Ty.st SN.term)))=true/\List.length e.values+(4096:Nat) *szT (List.getD t.parts (Int.toNat (0:Int)) (dfl (Ty.st SN.term)))<=(100000000:Nat))/\True/\(7:Int)=(ao (aa n) t e).1.kind/\[]=(ao (aa n) t e).1.pkg/\[]=(ao (aa n) t e).1.name/\[t.name]=(ao (aa n) t e).1.names/\[(aa n (List.getD t.parts (Int.toNat (0:Int)) (dfl (Ty.st SN.term))) e).1]=(ao (aa n) t e).1.parts/\(aa n (List.getD t.parts (Int.toNat (0:Int)) (dfl (Ty.st SN.term))) e).2.err=(ao (aa n) t e).2.err/\(aa n (List.getD t.parts (Int.toNat (0:Int)) (dfl (Ty.st SN.term))) e).2.pos=(ao (aa n) t e).2.pos/\True else if decide (t.kind=(14:Int))=true then ((0:Int)<=(0:Int)/\(0:Int) < (↑(List.length t.parts):Int))/\(szT (List.getD t.parts (Int.toNat (0:Int)) (dfl (Ty.st SN.term)))<=n/\allT ak (List.getD t.parts (Int.toNat (0:Int)) (dfl (Ty.st SN.term)))=true/\List.length e.values+(4096:Nat) *szT (List.getD t.parts (Int.toNat (0:Int)) (dfl (Ty.st SN.term)))<=(100000000:Nat))/\if (!decide ((aa n (List.getD t.parts (Int.toNat (0:Int)) (dfl (Ty.st SN.term))) e).2.err=(0:Int)))=true then True/\(aa n (List.getD t.parts (Int.toNat (0:Int)) (dfl (Ty.st SN.term))) e).1=(ao (aa n) t e).1/\(aa n (List.getD t.parts (Int.toNat (0:Int)) (dfl (Ty.st SN.term))) e).2.err=(ao (aa n) t e).2.err
  /\(aa n (List.getD t.parts (Int.toNat (0:Int)) (dfl (Ty.st SN.term))) e).2.pos=(ao (aa n) t e).2.pos/\True else ((0:Int)<=(1:Int)/\(1:Int) < (↑(List.length t.parts):Int))/\(List.length e.values<=(1000000000:Nat)/\List.length [{pkg:=[],name:=t.name,shape:=AL.Shape.mk ((aa n (List.getD t.parts (Int.toNat (0:Int)) (dfl (Ty.st SN.term))) e).1.kind) ((aa n (List.getD t.parts (Int.toNat (0:Int)) (dfl (Ty.st SN.term))) e).1.pkg) ((aa n (List.getD t.parts (Int.toNat (0:Int)) (dfl (Ty.st SN.term))) e).1.name) ((aa n (List.getD t.parts (Int.toNat (0:Int)) (dfl (Ty.st SN.term))) e).1.names) ((aa n (List.getD t.parts (Int.toNat (0:Int)) (dfl (Ty.st SN.term))) e).1.parts):Bndg}]<=(1000:Nat))/\(szT (List.getD t.parts (Int.toNat (1:Int)) (dfl (Ty.st SN.term)))<=n/\allT ak (List.getD t.parts (Int.toNat (1:Int)) (dfl (Ty.st SN.term)))=true/\List.length (e.values++[{pkg:=[],name:=t.name,shape:=AL.Shape.mk ((aa n (List.getD t.parts (Int.toNat (0:Int)) (dfl (Ty.st SN.term))) e).1.kind) ((aa n (List.getD t.parts (Int.toNat (0:Int)) (dfl (Ty.st SN.term))) e).1.pkg) ((aa n (List.getD t.parts (Int.toNat (0:Int)) (dfl (Ty.st SN.term))) e).1.name) ((aa n (List.getD t.parts (Int.toNat (0:Int)) (dfl (Ty.st SN.term))) e).1.names) ((aa n (List.getD t.parts (Int.toNat (0:Int)) (dfl (Ty.st SN.term))) e).1.parts):Bndg}])+(4096:Nat) *szT (List.getD t.parts (Int.toNat (1:Int)) (dfl (Ty.st SN.term)))<=(100000000:Nat))/\True/\(aa n (List.getD t.parts (Int.toNat (1:Int)) (dfl (Ty.st SN.term))) (bL e [{pkg:=[],name:=t.name,shape:=AL.Shape.mk ((aa n (List.getD t.parts (Int.toNat (0:Int)) (dfl (Ty.st SN.term))) e).1.kind) ((aa n (List.getD t.parts (Int.toNat (0:Int)) (dfl (Ty.st SN.term))) e).1.pkg) ((aa n (List.getD t.parts (Int.toNat (0:Int)) (dfl (Ty.st SN.term))) e).1.name) ((aa n (List.getD t.parts (Int.toNat (0:Int)) (dfl (Ty.st SN.term))) e).1.names) ((aa n (List.getD t.parts (Int.toNat (0:Int)) (dfl (Ty.st SN.term))) e).1.parts):Bndg}])).1=(ao (aa n) t e).1/\(aa n (List.getD t.parts (Int.toNat (1:Int)) (dfl (Ty.st SN.term))) (bL e [{pkg:=[],name:=t.name,shape:=AL.Shape.mk ((aa n (List.getD t.parts (Int.toNat (0:Int)) (dfl (Ty.st SN.term))) e).1.kind) ((aa n (List.getD t.parts (Int.toNat (0:Int)) (dfl (Ty.st SN.term))) e).1.pkg) ((aa n (List.getD t.parts (Int.toNat (0:Int)) (dfl (Ty.st SN.term))) e).1.name) ((aa n (List.getD t.parts (Int.toNat (0:Int)) (dfl (Ty.st SN.term))) e).1.names) ((aa n (List.getD t.parts (Int.toNat (0:Int)) (dfl (Ty.st SN.term))) e).1.parts):Bndg}])).2.err=(ao (aa n) t e).2.err/\(aa n (List.getD t.parts (Int.toNat (1:Int)) (dfl (Ty.st SN.term))) (bL e [{pkg:=[],name:=t.name,shape:=AL.Shape.mk ((aa n (List.getD t.parts (Int.toNat (0:Int)) (dfl (Ty.st SN.term))) e).1.kind) ((aa n (List.getD t.parts (Int.toNat (0:Int)) (dfl (Ty.st SN.term))) e).1.pkg) ((aa n (List.getD t.parts (Int.toNat (0:Int)) (dfl (Ty.st SN.term))) e).1.name) ((aa n (List.getD t.parts (Int.toNat (0:Int)) (dfl (Ty.st SN.term))) e).1.names) ((aa n (List.getD t.parts (Int.toNat (0:Int)) (dfl (Ty.st SN.term))) e).1.parts):Bndg}])).2.pos=(ao (aa n) t e).2.pos/\True else if decide (t.kind=(16:Int))=true then ((0:Nat) < List.length t.parts/\szT t<=n+(1:Nat)/\allT ak t=true/\List.length e.values+(4096:Nat) *szT t<=(100000000:Nat))/\True/\(cX (aa n) t e).1=(ao (aa n) t e).1/\(cX (aa n) t e).2.err=(ao (aa n) t e).2.err/\(cX (aa n) t e).2.pos=(ao (aa n) t e).2.pos/\True else if decide (t.kind=(17:Int))=true then ((0:Nat) < List.length t.parts/\szT t<=n+(1:Nat)
  /\allT ak t=true/\List.length e.values+(4096:Nat) *szT t<=(100000000:Nat))/\True/\(cX (aa n) t e).1=(ao (aa n) t e).1/\(cX (aa n) t e).2.err=(ao (aa n) t e).2.err/\(cX (aa n) t e).2.pos=(ao (aa n) t e).2.pos/\True else ((t.kind=(6:Int)∨t.kind=(11:Int)∨t.kind=(12:Int)∨t.kind=(13:Int)∨t.kind=(15:Int))/\szT t<=n+(1:Nat)/\allT ak t=true/\List.length e.values+(4096:Nat) *szT t<=(100000000:Nat))/\True/\(aJ (aa n) t e).1=(ao (aa n) t e).1/\(aJ (aa n) t e).2.err=(ao (aa n) t e).2.err/\(aJ (aa n) t e).2.pos=(ao (aa n) t e).2.pos/\True:=by
 have rm:=zx hf
 have ln:=ht.term_parts.len
 have ps:=vt t
 have e0:Int.toNat 0=0:=rfl
 have e1:Int.toNat 1=1:=rfl
 have et:∀s:Shape,AL.Shape.mk s.kind s.pkg s.name s.names s.parts=s:=fun s=>by cases s;rfl
 simp only [e0,e1,et,Int.toNat_natCast,eq_self,true_and,and_true]
 have nx:∀{j w:Nat},j < t.parts.length→w<=e.values.length+4096→szT (t.parts.getD j (dfl (.st .term)))<=n/\allT ak (t.parts.getD j (dfl (.st .term)))=true/\w+4096 *szT (t.parts.getD j (dfl (.st .term)))<=100000000:=fun hj hw=>tA hz hf hv _ hj hw
 refine ab (fun k=>?_) (fun k1=>?_)
 ·have k:=Xo k
  rw [show ao (aa n) t e=(ofK 1,cW) by unfold ao;simp [k]]
  exact ⟨rfl,rfl,rfl⟩
 have k1:¬t.kind=1:=fun q=>k1 (Xd q)
 refine ab (fun k=>?_) (fun k2=>?_)
 ·have k:=Xo k
  rw [show ao (aa n) t e=(ofK 3,cW) by unfold ao;simp [k]]
  exact ⟨rfl,rfl,rfl⟩
 have k2:¬t.kind=2:=fun q=>k2 (Xd q)
 refine ab (fun k=>?_) (fun k3=>?_)
 ·have k:=Xo k
  rw [show ao (aa n) t e=(ofK 2,cW) by unfold ao;simp [k]]
  exact ⟨rfl,rfl,rfl⟩
 have k3:¬t.kind=3:=fun q=>k3 (Xd q)
 refine ⟨by rw [Xf k3,Bool.false_or],ab (fun k=>?_) (fun k4=>?_)⟩
 ·have k:t.kind=4:=by rw [Xf k3,Bool.false_or] at k;exact Xo k
  rw [show ao (aa n) t e=(ofK 2,cW) by unfold ao;simp [k]]
  exact ⟨rfl,rfl,rfl⟩
 have k4:¬t.kind=4:=fun q=>k4 (by rw [Xd q,Bool.or_true])
 refine ab (fun k=>?_) (fun k5=>?_)
 ·have k:=Xo k
  have hN:aI e.values t.pkg t.name=none→ao (aa n) t e=(an,⟨110,t.pos⟩):=fun g=>by unfold ao;simp [k,g]
  have hS:∀s,aI e.values t.pkg t.name=some s→ao (aa n) t e=(aO s,cW):=fun s g=>by unfold ao;simp [k,g]
  cases g:aI e.values t.pkg t.name with
  | none=>rw [hN g];exact ab (fun _=>⟨rfl,rfl,rfl⟩) (fun q=>absurd rfl q)
  | some s=>rw [hS s g];exact ab (fun q=>absurd q Bool.false_ne_true) (fun _=>⟨rfl,rfl,rfl⟩)
 have k5:¬t.kind=5:=fun q=>k5 (Xd q)
 refine ab (fun k=>?_) (fun k7=>?_)
 ·have k:=Xo k
  rw [show ao (aa n) t e=bU (aa n) t e by unfold ao;simp [k]]
  exact ⟨⟨rm.k7 k,hz,hf,hv⟩,rfl,rfl,rfl⟩
 have k7:¬t.kind=7:=fun q=>k7 (Xd q)
 refine ab (fun k=>?_) (fun k8=>?_)
 ·have k:=Xo k
  have hP:ao (aa n) t e=if (bV (aa n) e t.parts).2.2.err=0 then (⟨6,[],[],t.names,(bV (aa n) e t.parts).1⟩,cW) else (bV (aa n) e t.parts).2:=by unfold ao;simp [k]
  refine ⟨⟨(0,[]),⟨Nat.zero_le _,rfl,by rw [List.drop_zero];rfl⟩,rfl,rfl,rfl⟩,?_⟩
  rintro ⟨j,q⟩ ⟨h1,h2,h3⟩
  dsimp only at h1 h2 h3 ⊢
  refine ab (fun c=>?_) (fun c=>?_)
  ·have c:=Xo c
   have hj:j < t.parts.length:=by omega
   rw [aC t.parts j (dfl (.st .term)) hj] at h3
   simp only [bV] at h3
   refine ⟨by omega,nx hj (Nat.le_add_right _ _),ab (fun f=>?_) (fun f=>?_)⟩
   ·have f:=ndF f
    rw [if_neg f] at h3
    rw [hP,h3,if_neg (show ¬(q++[],aa n (t.parts.getD j (dfl (.st .term))) e).2.2.err=0 from f)]
    exact ⟨rfl,rfl,rfl⟩
   ·have f:=ndT f
    rw [if_pos f] at h3
    refine ⟨by simp only [List.length_cons,List.length_nil];omega,bc hj ln,(j+1,q++[_]),⟨by dsimp only;omega,by simp [h2],?_⟩,by dsimp only;omega,by dsimp only;omega,rfl,rfl⟩
    dsimp only
    rw [h3,List.append_assoc]
    rfl
  ·have c:¬((j:Int) < (t.parts.length:Int)):=fun q=>c (Xd q)
   have hj:j=t.parts.length:=by omega
   rw [hj,List.drop_length] at h3
   simp only [bV,List.append_nil] at h3
   rw [hP,h3]
   exact ⟨rfl,rfl,rfl,rfl,rfl,rfl,rfl⟩
 have k8:¬t.kind=8:=fun q=>k8 (Xd q)
 refine ab (fun k=>?_) (fun k9=>?_)
 ·have k:=Xo k
  rw [show ao (aa n) t e=bW (aa n) t e by unfold ao;simp [k]]
  have:=rm.k1 (by omega)
  exact ⟨⟨by omega,hz,hf,hv⟩,rfl,rfl,rfl⟩
 have k9:¬t.kind=9:=fun q=>k9 (Xd q)
 refine ab (fun k=>?_) (fun k10=>?_)
 ·have k:=Xo k
  rw [show ao (aa n) t e=(⟨7,[],[],[t.name],[(aa n (t.parts.getD 0 az) e).1]⟩,(aa n (t.parts.getD 0 az) e).2) by unfold ao;simp [k]]
  have:=rm.k1 (by omega)
  exact ⟨by omega,nx (by omega) (Nat.le_add_right _ _),rfl,rfl,rfl,rfl,rfl,rfl,rfl⟩
 have k10:¬t.kind=10:=fun q=>k10 (Xd q)
 refine ab (fun k=>?_) (fun k14=>?_)
 ·have k:=Xo k
  rw [show ao (aa n) t e=(if (aa n (t.parts.getD 0 az) e).2.err=0 then aa n (t.parts.getD 1 az) (bL e [ec t.name (aa n (t.parts.getD 0 az) e).1]) else aa n (t.parts.getD 0 az) e) by unfold ao;simp [k]]
  have:=rm.k14 k
  refine ⟨by omega,nx (by omega) (Nat.le_add_right _ _),ab (fun f=>?_) (fun f=>?_)⟩
  ·rw [if_neg (show ¬(aa n (t.parts.getD 0 az) e).2.err=0 from ndF f)]
   exact ⟨rfl,rfl,rfl⟩
  ·rw [if_pos (show (aa n (t.parts.getD 0 az) e).2.err=0 from ndT f)]
   refine ⟨by omega,⟨by omega,by simp⟩,?_,rfl,rfl,rfl⟩
   rw [List.length_append]
   exact nx (by omega) (by simp)
 have k14:¬t.kind=14:=fun q=>k14 (Xd q)
 refine ab (fun k=>?_) (fun k16=>?_)
 ·have k:=Xo k
  rw [show ao (aa n) t e=cX (aa n) t e by unfold ao;simp [k]]
  have:=rm.k1 (by omega)
  exact ⟨⟨by omega,hz,hf,hv⟩,rfl,rfl,rfl⟩
 have k16:¬t.kind=16:=fun q=>k16 (Xd q)
 refine ab (fun k=>?_) (fun k17=>?_)
 ·have k:=Xo k
  rw [show ao (aa n) t e=cX (aa n) t e by unfold ao;simp [k]]
  have:=rm.k1 (by omega)
  exact ⟨⟨by omega,hz,hf,hv⟩,rfl,rfl,rfl⟩
 have k17:¬t.kind=17:=fun q=>k17 (Xd q)
 have ka:=rm.all
 rw [show ao (aa n) t e=aJ (aa n) t e by unfold ao;simp [k1,k2,k3,k4,k5,k7,k8,k9,k10,k14,k16,k17]]
 exact ⟨⟨by omega,hz,hf,hv⟩,rfl,rfl,rfl⟩
theorem Dr (t:Trm) (e:Envt) (ht:Wf (.st .term) t) (he:Wf (.st .env) e) (ho:fewT t=true/\e.values.length<=1000000) :
  fewT t=true/\if (!decide (dA t=(0:Int)))=true then True/\(0:Int)=(bK t e).1.kind/\[]=(bK t e).1.pkg/\[]=(bK t e).1.name/\(bK t e).1.names=[]/\(bK t e).1.parts=[]/\dA t=(bK t e).2.err/\(0:Int)=(bK t e).2.pos/\True else (szT t<=szT t/\allT ak t=true/\List.length e.values+(4096:Nat) *szT t<=(100000000:Nat))/\True/\(aa (szT t) t e).1=(bK t e).1/\(aa (szT t) t e).2.err=(bK t e).2.err/\(aa (szT t) t e).2.pos=(bK t e).2.pos/\True:=by
 obtain ⟨h1,h2⟩:=ho
 refine ⟨h1,ab (fun h=>?_) (fun h=>?_)⟩
 ·have h:=ndF h
  rw [show bK t e=(an,⟨dA t,0⟩) by unfold bK;rw [if_neg h]]
  exact ⟨trivial,rfl,rfl,rfl,rfl,rfl,rfl,rfl,trivial⟩
 ·have h:=ndT h
  rw [show bK t e=aa (szT t) t e by unfold bK;rw [if_pos h]]
  have:=(xM h).1
  exact ⟨⟨Nat.le_refl _,xL h,by omega⟩,trivial,rfl,rfl,rfl,trivial⟩
theorem yk (t:Trm) (ht:Wf (.st .term) t) :
  (szT t<=szT t/\(0:Int)<=(300:Int)/\(300:Int)<=(1000000:Int))/\True/\decide (dJ t (300:Int)<=(300:Int))=decide (dJ t (300:Int)<=(300:Int))/\True:=by
 exact ⟨⟨Nat.le_refl _,by decide,by decide⟩,trivial,rfl,trivial⟩
theorem mS (G:Trm→Envt→Shape × Flt) (N:Nat) (t:Trm) (e:Envt) (l:List Shape) (ht:Wf (.st .term) t) (he:Wf (.st .env) e) (hl:Wf (.lst (.st .shape)) l) (hf:fewT t=true) (hN:sz (G t e).1<=N) (hB:¬(G t e).2.err=0→(G t e).1=an) (hw:(G t e).2.err=0→((G t (lj e l)).2.err=3∨(G t (lj e l)).2.err=91)∨((G t (lj e l)).2.err=0/\bH (G t (lj e l)).1 (G t e).1=true)) :
  if (!jj e)=true then True/\true=true/\True else if (!decide (dJ t (300:Int)<=(300:Int)))=true then True/\true=true/\True else if decide ((60:Int) < (↑(List.length l):Int))=true then True/\true=true/\True else (fewT t=true/\List.length e.values<=(1000000:Nat))/\if (!decide ((G t e).2.err=(0:Int)))=true then sz (G t e).1<=N/\if eqS (G t e).1 {kind:=(0:Int),pkg:=[],name:=[],names:=[],parts:=[]:Shape}=true then True/\true=true/\True else True/\false=true/\True else (∃(x:Nat × List Bndg),(x.1<=List.length e.values/\List.length x.2=x.1/\im e.values l=x.2++im (List.drop x.1 e.values) (List.drop x.1 l))/\(0:Int)=(↑x.1:Int)/\t=t/\e=e/\l=l/\false=false/\false=false/\false=false/\e.self=e.self/\e.types=e.types/\x.2=[]/\e.own=e.own/\List.length x.2=(0:Nat)/\t=t/\e=e/\(G t e).1=(G t e).1/\(G t e).2.err=(G t e).2.err/\(G t e).2.pos=(G t e).2.pos/\True)/\∀(x:Nat × List Bndg),x.1<=List.length e.values/\List.length x.2=x.1/\im e.values l=x.2++im (List.drop x.1 e.values) (List.drop x.1 l)→if decide ((↑x.1:Int) < (↑(List.length e.values):Int))=true then ((0:Int)<=(↑x.1:Int)/\(↑x.1:Int) < (↑(List.length e.values):Int))/\if decide ((↑x.1:Int) < (↑(List.length l):Int))=true then ((0:Int)<=(↑x.1:Int)/\(↑x.1:Int) < (↑(List.length l):Int))/\if bH (List.getD l (Int.toNat (↑x.1:Int)) (dfl (Ty.st SN.shape))) (List.getD e.values (Int.toNat (↑x.1:Int)) (dfl (Ty.st SN.bind))).shape=true then ((0:Int)<=(↑x.1:Int)/\(↑x.1:Int) < (↑(List.length l):Int))/\(List.length x.2=List.length x.2/\(List.length x.2+List.length [{pkg:=(List.getD e.values (Int.toNat (↑x.1:Int)) (dfl (Ty.st SN.bind))).pkg,name:=(List.getD e.values (Int.toNat (↑x.1:Int)) (dfl (Ty.st SN.bind))).name,shape:=AL.Shape.mk ((List.getD l (Int.toNat (↑x.1:Int)) (dfl (Ty.st SN.shape))).kind) ((List.getD l (Int.toNat (↑x.1:Int)) (dfl (Ty.st SN.shape))).pkg) ((List.getD l (Int.toNat (↑x.1:Int)) (dfl (Ty.st SN.shape))).name) ((List.getD l (Int.toNat (↑x.1:Int)) (dfl (Ty.st SN.shape))).names) ((List.getD l (Int.toNat (↑x.1:Int)) (dfl (Ty.st SN.shape))).parts):Bndg}]) *(120:Nat)<=(140737488355328:Nat))/\inR IntKind.i64 ((↑x.1:Int)+(1:Int))/\∃(y:Nat × List Bndg),(y.1<=List.length e.values/\List.length y.2=y.1/\im e.values l=y.2++im (List.drop y.1 e.values) (List.drop y.1 l))/\List.length e.values - y.1 < List.length e.values - x.1/\(↑x.1:Int)+(1:Int)=(↑y.1:Int)/\t=t/\e=e/\l=l/\false=false/\false=false/\false=false/\e.self=e.self/\e.types=e.types/\x.2++[{pkg:=(List.getD e.values (Int.toNat (↑x.1:Int)) (dfl (Ty.st SN.bind))).pkg,name:=(List.getD e.values (Int.toNat (↑x.1:Int)) (dfl (Ty.st SN.bind))).name,shape:=AL.Shape.mk ((List.getD l (Int.toNat (↑x.1:Int)) (dfl (Ty.st SN.shape))).kind) ((List.getD l (Int.toNat (↑x.1:Int)) (dfl (Ty.st SN.shape))).pkg) ((List.getD l (Int.toNat (↑x.1:Int)) (dfl (Ty.st SN.shape))).name) ((List.getD l (Int.toNat (↑x.1:Int)) (dfl (Ty.st SN.shape))).names) ((List.getD l (Int.toNat (↑x.1:Int)) (dfl (Ty.st SN.shape))).parts):Bndg}]=y.2/\e.own=e.own
  /\List.length (x.2++[{pkg:=(List.getD e.values (Int.toNat (↑x.1:Int)) (dfl (Ty.st SN.bind))).pkg,name:=(List.getD e.values (Int.toNat (↑x.1:Int)) (dfl (Ty.st SN.bind))).name,shape:=AL.Shape.mk ((List.getD l (Int.toNat (↑x.1:Int)) (dfl (Ty.st SN.shape))).kind) ((List.getD l (Int.toNat (↑x.1:Int)) (dfl (Ty.st SN.shape))).pkg) ((List.getD l (Int.toNat (↑x.1:Int)) (dfl (Ty.st SN.shape))).name) ((List.getD l (Int.toNat (↑x.1:Int)) (dfl (Ty.st SN.shape))).names) ((List.getD l (Int.toNat (↑x.1:Int)) (dfl (Ty.st SN.shape))).parts):Bndg}])=List.length y.2/\t=t/\e=e/\(G t e).1=(G t e).1/\(G t e).2.err=(G t e).2.err/\(G t e).2.pos=(G t e).2.pos/\True else (List.length x.2=List.length x.2/\(List.length x.2+List.length [List.getD e.values (Int.toNat (↑x.1:Int)) (dfl (Ty.st SN.bind))]) *(120:Nat)<=(140737488355328:Nat))/\inR IntKind.i64 ((↑x.1:Int)+(1:Int))/\∃(y:Nat × List Bndg),(y.1<=List.length e.values/\List.length y.2=y.1/\im e.values l=y.2++im (List.drop y.1 e.values) (List.drop y.1 l))/\List.length e.values - y.1 < List.length e.values - x.1/\(↑x.1:Int)+(1:Int)=(↑y.1:Int)/\t=t/\e=e/\l=l/\false=false/\false=false/\false=false/\e.self=e.self/\e.types=e.types/\x.2++[List.getD e.values (Int.toNat (↑x.1:Int)) (dfl (Ty.st SN.bind))]=y.2/\e.own=e.own/\List.length (x.2++[List.getD e.values (Int.toNat (↑x.1:Int)) (dfl (Ty.st SN.bind))])=List.length y.2/\t=t/\e=e/\(G t e).1=(G t e).1/\(G t e).2.err=(G t e).2.err/\(G t e).2.pos=(G t e).2.pos/\True else (List.length x.2=List.length x.2/\(List.length x.2+List.length [List.getD e.values (Int.toNat (↑x.1:Int)) (dfl (Ty.st SN.bind))]) *(120:Nat)<=(140737488355328:Nat))/\inR IntKind.i64 ((↑x.1:Int)+(1:Int))/\∃(y:Nat × List Bndg),(y.1<=List.length e.values/\List.length y.2=y.1/\im e.values l=y.2++im (List.drop y.1 e.values) (List.drop y.1 l))/\List.length e.values - y.1 < List.length e.values - x.1/\(↑x.1:Int)+(1:Int)=(↑y.1:Int)/\t=t/\e=e/\l=l/\false=false/\false=false/\false=false/\e.self=e.self/\e.types=e.types/\x.2++[List.getD e.values (Int.toNat (↑x.1:Int)) (dfl (Ty.st SN.bind))]=y.2/\e.own=e.own/\List.length (x.2++[List.getD e.values (Int.toNat (↑x.1:Int)) (dfl (Ty.st SN.bind))])=List.length y.2/\t=t/\e=e/\(G t e).1=(G t e).1/\(G t e).2.err=(G t e).2.err/\(G t e).2.pos=(G t e).2.pos/\True else (fewT t=true/\List.length x.2<=(1000000:Nat))/\if decide ((G t {self:=e.self,types:=e.types,values:=x.2,own:=e.own:Envt}).2.err=(3:Int))=true then True/\true=true/\True else if decide ((G t {self:=e.self,types:=e.types,values:=x.2,own:=e.own:Envt}).2.err=(91:Int))=true then True/\true=true/\True else if decide ((G t {self:=e.self,types:=e.types,values:=x.2,own:=e.own:Envt}).2.err=(0:Int))=true then if bH (G t {self:=e.self,types:=e.types,values:=x.2,own:=e.own:Envt}).1 (G t e).1=true then True/\true=true/\True else True/\false=true/\True else True/\false=true/\True:=by
 have et:∀s:Shape,AL.Shape.mk s.kind s.pkg s.name s.names s.parts=s:=fun s=>by cases s;rfl
 simp only [et,Int.toNat_natCast,eq_self,true_and,and_true]
 refine ab (fun _=>trivial) (fun h1=>ab (fun _=>trivial) (fun h2=>ab (fun _=>trivial) (fun h3=>?_)))
 have l1:=xS h1
 refine ⟨⟨hf,by omega⟩,ab (fun h=>?_) (fun h=>?_)⟩
 ·have hz:=hN
  rw [hB (ndF h)] at hz ⊢
  exact ⟨hz,ab (fun _=>trivial) (fun q=>absurd (eqS_refl an) q)⟩
 have hw:=hw (ndT h)
 refine ⟨⟨(0,[]),⟨Nat.zero_le _,rfl,by rw [List.drop_zero,List.drop_zero];rfl⟩,rfl,rfl,rfl⟩,?_⟩
 rintro ⟨k,q⟩ ⟨k1,k2,k3⟩
 dsimp only at k1 k2 k3 ⊢
 refine ab (fun c=>?_) (fun c=>?_)
 ·have c:=Xo c
  have hk:k < e.values.length:=by omega
  rw [aC e.values k (dfl (.st .bind)) hk,im,List.drop_drop] at k3
  have next:∀b':Bndg,B1 (e.values.getD k (dfl (.st .bind))) (l.drop k)=b'→(q.length+[b'].length) *120<=140737488355328/\inR IntKind.i64 ((k:Int)+1)/\∃y:Nat × List Bndg,(y.1<=e.values.length/\y.2.length=y.1/\im e.values l=y.2++im (e.values.drop y.1) (l.drop y.1))/\e.values.length - y.1 < e.values.length - k/\(k:Int)+1=(y.1:Int)/\q++[b']=y.2/\(q++[b']).length=y.2.length:=fun b' hb=>by
   rw [hb] at k3
   refine ⟨by simp only [List.length_cons,List.length_nil];omega,bN (by omega) (by omega),(k+1,q++[b']),⟨by dsimp only;omega,by simp [k2],?_⟩,by dsimp only;omega,by dsimp only;omega,rfl,rfl⟩
   dsimp only
   rw [k3,List.append_assoc]
   rfl
  refine ⟨by omega,ab (fun d=>?_) (fun d=>?_)⟩
  ·have d:=Xo d
   have hd:k < l.length:=by omega
   have hdd:=aC l k (dfl (.st .shape)) hd
   refine ⟨by omega,ab (fun b=>?_) (fun b=>?_)⟩
   ·exact ⟨by omega,next _ (by rw [hdd];show (if _ then _ else _)=_;rw [if_pos b])⟩
   ·exact next _ (by rw [hdd];show (if _ then _ else _)=_;rw [if_neg b])
  ·exact next _ (by rw [qU (fun g=>d (Xd (by omega)))];rfl)
 ·have c:¬((k:Int) < (e.values.length:Int)):=fun g=>c (Xd g)
  have hk:k=e.values.length:=by omega
  have hq:lj e l=⟨e.self,e.types,q,e.own⟩:=by
   unfold lj
   rw [k3,hk,List.drop_length,im,List.append_nil]
  rw [←hq]
  refine ⟨⟨hf,by omega⟩,ab (fun _=>trivial) (fun g3=>ab (fun _=>trivial) (fun g91=>?_))⟩
  rcases hw with hw | ⟨w1,w2⟩
  ·exact (hw.elim (fun g=>g3 (Xd g)) (fun g=>g91 (Xd g))).elim
  ·exact ab (fun _=>ab (fun _=>trivial) (fun g=>absurd w2 g)) (fun g=>absurd (Xd w1) g)
end Go.AL.Seat
end
section
open Go Go.AL Go.Proofs Go.Shelf Go.Pd
namespace Go.AL.Seat
variable [Tabs]
variable [SeatLaid]
theorem mT:aj Tryz.prog 64 (p1 (.int .u8) fun c=>.ret (.bool (db c))):=
 cu (ee Tryz.func64) fun c _ _=>g0 sn a0 Tryz.func64 (D2 c)
theorem mU:aj Tryz.prog 65 (p1 (.int .u8) fun c=>.ret (.bool (dm c))):=
 cu (ee Tryz.func65) fun c _ _=>g0 sn a0 Tryz.func65 (D3 c)
theorem Bu:aj Tryz.prog 68 (p1 (.int .u8) fun c=>.ret (.bool (jS c))):=
 cu (ee Tryz.func68) fun c _ _=>g0 sn a0 Tryz.func68 (D4 c)
theorem vN:aj Tryz.prog 66 (p1 (.int .u8) fun c=>.ret (.bool (eZ c))):=
 cu (ee Tryz.func66) fun c _ _=>g0 (sc mT (sc mU (sc Bu sn))) a0 Tryz.func66 (Eu c)
theorem yl:aj Tryz.prog 103 (pf .str 64 fun s=>.ret (.bool (ct db s))):=
 ny (ee Tryz.func103) fun s hs _=>g0 (sc mT (sc mU (sc vN sn))) ⟨[(4,fun S0=>⟨Nat,fun k=>k<=s.length/\ct db s=(s.drop k).all fun c=>eZ (bI c),fun k=>[(22,.int .i64 k)],fun _=>[],fun k=>s.length - k⟩)],[],[]⟩ Tryz.func103 (B3 s hs)
theorem ym:aj Tryz.prog 103 (pf .str 65 fun s=>.ret (.bool (ct dm s))):=
 ny (ee Tryz.func103) fun s hs _=>g0 (sc mT (sc mU (sc vN sn))) ⟨[(4,fun S0=>⟨Nat,fun k=>k<=s.length/\ct dm s=(s.drop k).all fun c=>eZ (bI c),fun k=>[(22,.int .i64 k)],fun _=>[],fun k=>s.length - k⟩)],[],[]⟩ Tryz.func103 (B4 s hs)
theorem Ds:aj Tryz.prog 67 (p1 .str fun s=>.ret (.bool (dN s))):=
 cu (ee Tryz.func67) fun s _ _=>g0 sn a0 Tryz.func67 (Ev s)
theorem me:aj Tryz.prog 59 (p1 .str fun s=>.ret (.bool (ba s))):=
 cu (ee Tryz.func59) fun s _ _=>g0 (sc yl (sc Ds sn)) a0 Tryz.func59 (Ew s)
theorem rY:aj Tryz.prog 57 (p1 .str fun s=>.ret (.bool (fc s))):=
 cu (ee Tryz.func57) fun s _ _=>g0 (sc ym sn) a0 Tryz.func57 (D5 s)
theorem qj:aj Tryz.prog 94 (p2 (.lst .str) .str fun a v=>.ret (.int .i64 (cd a v 0))):=
 cM (ee Tryz.func94) fun a v ha _ _=>g0 sn ⟨[(2,fun S0=>⟨Nat,fun k=>k<=a.length/\cd a v 0=cd (a.drop k) v k,fun k=>[(8,.int .i64 k)],fun _=>[],fun k=>a.length - k⟩)],[],[]⟩ Tryz.func94 (B5 a v ha)
theorem Bv:aj Tryz.prog 58 (p1 .str fun s=>.ret (.bool (ij s))):=
 cu (ee Tryz.func58) fun s _ _=>g0 sn a0 Tryz.func58 (D6 s)
theorem qk:aj Tryz.prog 101 (p1 (.lst .str) fun a=>⟨none,none,.fn 139 [.ptr 1 0],[(1,.box (.lst .str a none))]⟩):=
 cu (ee Tryz.func101) fun a _ _=>g0 sn a0 Tryz.func101 (B6 a)
theorem Bw:aj Tryz.prog 56 (p1 (.st .shape) fun s=>⟨some (s.parts.length *16<=140737488355328),none,.bool (cw s),[]⟩):=
 cu (ee Tryz.func56) fun s hs ho=>g0 (sc me (sc qk (sc (l9) (sc (jU) sn)))) ⟨[(4,fun S0=>⟨Nat,fun k=>k<=s.names.length/\s.names.length=s.parts.length/\cw s=(((s.names.drop k).all ba) && decide s.names.Nodup),fun k=>[(16,.int .i64 k)],fun _=>[],fun k=>s.names.length - k⟩)],[],[]⟩ Tryz.func56 (D7 s hs (ho _ rfl))
theorem Dt:aj Tryz.prog 30 (p1 (.st .shape) fun s=>⟨some (s.parts.length *16<=140737488355328),none,.bool (ai s),[]⟩):=
 cu (ee Tryz.func30) fun s hs ho=>g0 (sc Bw (sc rY (sc me (sc Bv sn)))) a0 Tryz.func30 (Ex s hs (ho _ rfl))
theorem ql:aF Tryz.prog 29:=ee Tryz.func29
theorem qV (n:Nat) (s:AL.Shape) (hs:Wf (.st .shape) s) (hn:sz s<=n+1) (hb:n<=1000000) (hA:aj Tryz.prog 29 (pf (.st .shape) 30 fun s=>⟨some (sz s<=n),none,.bool (allS ai s),[]⟩)):aB Tryz.prog 29 [.st .shape s,.fn 30 []] [] (.ret (.bool (allS ai s))):=
 g0 (sc Dt (sc (hA) sn)) ⟨[(4,fun S0=>⟨Nat,fun k=>k<=s.parts.length/\allS ai s=allL ai (s.parts.drop k),fun k=>[(14,.int .i64 k)],fun _=>[],fun k=>s.parts.length - k⟩)],[],[]⟩ Tryz.func29 (xX n s hs hn hb)
theorem vO:∀n:Nat,n<=1000000→aj Tryz.prog 29 (pf (.st .shape) 30 fun s=>⟨some (sz s<=n),none,.bool (allS ai s),[]⟩):=by
 intro n
 induction n with
 | zero=>exact fun _=>ny ql fun a hs ho=>absurd (ho _ rfl) (by have:=dU a;omega)
 | succ n ih=>exact fun hb=>ny ql fun a hs ho=>qV n a hs (ho _ rfl) (by omega) (ih (by omega))
theorem rZ:aF Tryz.prog 52:=ee Tryz.func52
theorem tD (n:Nat) (s:AL.Shape) (hs:Wf (.st .shape) s) (hn:sz s<=n+1) (ho:allS dw s=true) (hb:n<=1000000) (hA:aj Tryz.prog 52 (p1 (.st .shape) fun s=>⟨some (sz s<=n/\allS dw s=true),none,.st .shape (sortedS s),[]⟩)):aB Tryz.prog 52 [.st .shape s] [] (.ret (.st .shape (sortedS s))):=
 g0 (sc (lP) (sc (hA) sn)) ⟨[(4,fun S0=>⟨Nat,fun k=>k<=s.parts.length,fun k=>[(21,.int .i64 k)],fun k=>[(18,.box (.row (.int .i64) (bQ k++List.replicate (s.parts.length - k) 0)))],fun k=>s.parts.length - k⟩),(11,fun S0=>⟨Nat,fun k=>k<=s.parts.length,fun k=>[(38,.int .i64 k)],fun k=>[(3,.box (.agg [.int .i64 s.kind,.str s.pkg,.str s.name,.lst .str (if s.names=[] then [] else (al s |>.take k).map (bO s.names)) (some 701),.lst (.st .shape) ((al s |>.take k).map fun i=>(sortedL s.parts).getD i.toNat cQ) (some 702)])),(18,.box (.row (.int .i64) (al s))),(701,.tail .str (if s.names=[] then [] else (al s |>.take k).map (bO s.names)).length),(702,.tail (.st .shape) k)],fun k=>s.parts.length - k⟩)],[],[]⟩ Tryz.func52 (B7 n s hs hn ho hb)
theorem yn:∀n:Nat,n<=1000000→aj Tryz.prog 52 (p1 (.st .shape) fun s=>⟨some (sz s<=n/\allS dw s=true),none,.st .shape (sortedS s),[]⟩):=by
 intro n
 induction n with
 | zero=>exact fun _=>cu rZ fun a hs ho=>absurd (ho _ rfl).1 (by have:=dU a;omega)
 | succ n ih=>exact fun hb=>cu rZ fun a hs ho=>tD n a hs (ho _ rfl).1 (ho _ rfl).2 (by omega) (ih (by omega))
theorem fD:aj Tryz.prog 17 (p1 (.st .shape) fun s=>.ret (.int .i64 (aq s))):=
 cu (ee Tryz.func17) fun s _ _=>g0 (sc (rJ) (sc (vO 400 (by decide)) sn)) a0 Tryz.func17 (D8 s)
theorem jZ:aj Tryz.prog 27 (p1 (.st .shape) fun s=>.ret (.st .shape (aO s))):=
 cu (ee Tryz.func27) fun s _ _=>g0 (sc fD (sc (yn 400 (by decide)) sn)) a0 Tryz.func27 (Ey s)
theorem qm:aj Tryz.prog 60 (p1 (.st .shape) fun s=>⟨none,none,.map 9,[(9,.map .str (.int .i64) (aM s.names 0 []))]⟩):=
 cu (ee Tryz.func60) fun s hs _=>g0 sn ⟨[(3,fun S0=>⟨Nat × List (Str × Int),fun x=>x.1<=s.names.length/\aM (s.names.drop x.1) (x.1:Int) x.2=aM s.names 0 [],fun x=>[(13,.int .i64 x.1)],fun x=>[(9,.map .str (.int .i64) x.2)],fun x=>s.names.length - x.1⟩)],[],[]⟩ Tryz.func60 (B8 s hs)
theorem Bx:aF Tryz.prog 32:=ee Tryz.func32
theorem tE (n:Nat) (a b:Shape) (ho:(allS ai a=true/\allS ai b=true/\sz a+sz b<=n)) (hB:aj Tryz.prog 18 (p2 (.st .shape) (.st .shape) fun a b=>⟨some (allS ai a=true/\allS ai b=true/\sz a+sz b<=n),none,.bool (au n a b),[]⟩)):aB Tryz.prog 32 [.st .shape a,.st .shape b] [] (.ret (.bool (au n b a))):=
 g0 (sc (hB) sn) a0 Tryz.func32 (B9 n a b ho)
theorem yo:aF Tryz.prog 31:=ee Tryz.func31
theorem qW (n:Nat) (u others:Shape) (hs:Wf (.st .shape) u) (ho:(allL ai u.parts=true/\allL ai others.parts=true/\u.names.length=u.parts.length/\others.names.length=others.parts.length/\others.names.Nodup/\szL u.parts+szL others.parts<=n)) (hB:aj Tryz.prog 32 (p2 (.st .shape) (.st .shape) fun a b=>⟨some (allS ai a=true/\allS ai b=true/\sz a+sz b<=n),none,.bool (au n b a),[]⟩)):aB Tryz.prog 31 [.st .shape u,.st .shape others,.fn 32 []] [] (.ret (.bool (aD (fun p x=>au n x p) others u.names u.parts))):=
 g0 (sc qm (sc (hB) sn)) ⟨[(3,fun S0=>⟨Nat,fun k=>k<=u.names.length/\aD (fun p x=>au n x p) others u.names u.parts=aD (fun p x=>au n x p) others (u.names.drop k) (u.parts.drop k),fun k=>[(17,.int .i64 k)],fun _=>[],fun k=>u.names.length - k⟩)],[],[]⟩ Tryz.func31 (xY n u others hs ho)
theorem yp:aF Tryz.prog 31:=ee Tryz.func31
theorem qX (n:Nat) (u others:Shape) (hs:Wf (.st .shape) u) (ho:(allL ai u.parts=true/\allL ai others.parts=true/\u.names.length=u.parts.length/\others.names.length=others.parts.length/\others.names.Nodup/\szL u.parts+szL others.parts<=n)) (hB:aj Tryz.prog 18 (p2 (.st .shape) (.st .shape) fun a b=>⟨some (allS ai a=true/\allS ai b=true/\sz a+sz b<=n),none,.bool (au n a b),[]⟩)):aB Tryz.prog 31 [.st .shape u,.st .shape others,.fn 18 []] [] (.ret (.bool (aD (au n) others u.names u.parts))):=
 g0 (sc qm (sc (hB) sn)) ⟨[(3,fun S0=>⟨Nat,fun k=>k<=u.names.length/\aD (au n) others u.names u.parts=aD (au n) others (u.names.drop k) (u.parts.drop k),fun k=>[(17,.int .i64 k)],fun _=>[],fun k=>u.names.length - k⟩)],[],[]⟩ Tryz.func31 (xZ n u others hs ho)
theorem vP:aF Tryz.prog 18:=ee Tryz.func18
theorem dD (n:Nat) (a b:Shape) (ha:Wf (.st .shape) a) (hb:Wf (.st .shape) b) (ho:(allS ai a=true/\allS ai b=true/\sz a+sz b<=n+1)) (hB:aj Tryz.prog 18 (p2 (.st .shape) (.st .shape) fun a b=>⟨some (allS ai a=true/\allS ai b=true/\sz a+sz b<=n),none,.bool (au n a b),[]⟩)) (hW1:aj Tryz.prog 31 (pff (.st .shape) (.st .shape) 32 fun u others=>⟨some (allL ai u.parts=true/\allL ai others.parts=true/\u.names.length=u.parts.length/\others.names.length=others.parts.length/\others.names.Nodup/\szL u.parts+szL others.parts<=n),none,.bool (aD (fun p x=>au n x p) others u.names u.parts),[]⟩)) (hW2:aj Tryz.prog 31 (pff (.st .shape) (.st .shape) 18 fun u others=>⟨some (allL ai u.parts=true/\allL ai others.parts=true/\u.names.length=u.parts.length/\others.names.length=others.parts.length/\others.names.Nodup/\szL u.parts+szL others.parts<=n),none,.bool (aD (au n) others u.names u.parts),[]⟩)):aB Tryz.prog 18 [.st .shape a,.st .shape b] [] (.ret (.bool (au (n+1) a b))):=
 g0 (sc (hB) (sc (hW1) (sc (hW2) sn))) ⟨[(18,fun S0=>⟨Nat,fun k=>k<=a.parts.length - 1/\a.parts.length=b.parts.length/\0 < a.parts.length/\au (n+1) a b=fK (au n) ((a.parts.take (a.parts.length - 1)).drop k) ((b.parts.take (a.parts.length - 1)).drop k),fun k=>[(77,.int .i64 k)],fun _=>[],fun k=>a.parts.length - k⟩)],[],[]⟩ Tryz.func18 (D9 n a b ha hb ho)
theorem By:∀n:Nat,aj Tryz.prog 18 (p2 (.st .shape) (.st .shape) fun a b=>⟨some (allS ai a=true/\allS ai b=true/\sz a+sz b<=n),none,.bool (au n a b),[]⟩):=by
 intro n
 induction n with
 | zero=>exact cM vP fun a b _ _ ho=>absurd (ho _ rfl).2.2 (by have:=dU a;omega)
 | succ n ih=>
  have h1:aj Tryz.prog 32 (p2 (.st .shape) (.st .shape) fun a b=>⟨some (allS ai a=true/\allS ai b=true/\sz a+sz b<=n),none,.bool (au n b a),[]⟩):=
   cM Bx fun a b _ _ ho=>tE n a b (ho _ rfl) ih
  exact cM vP fun a b ha hb ho=>dD n a b ha hb (ho _ rfl) ih (Cq yo fun u o hu _ ho=>qW n u o hu (ho _ rfl) h1) (Cq yp fun u o hu _ ho=>qX n u o hu (ho _ rfl) ih)
theorem Bz:aj Tryz.prog 9 (p2 (.st .shape) (.st .shape) fun a b=>.ret (.bool (bH a b))):=
 cM (ee Tryz.func9) fun a b _ _ _=>g0 (sc fD (sc (By 800) sn)) a0 Tryz.func9 (Da a b)
theorem zA:aF Tryz.prog 19:=ee Tryz.func19
theorem yq (n:Nat) (s:AL.Shape) (m:Int) (hs:Wf (.st .shape) s) (ho:sz s<=n+1/\0<=m/\m<=1000000) (hA:aj Tryz.prog 19 (p2 (.st .shape) (.int .i64) fun s m=>⟨some (sz s<=n/\0<=m/\m<=1000000),none,.int .i64 (sizeF s m),[]⟩)):aB Tryz.prog 19 [.st .shape s,.int .i64 m] [] (.ret (.int .i64 (sizeF s m))):=
 g0 (sc (hA) sn) ⟨[(3,fun S0=>⟨Nat × Int,fun x=>x.1<=s.parts.length/\1<=x.2/\x.2<=m+1/\sizeL (s.parts.drop x.1) x.2 m=sizeF s m,fun x=>[(5,.int .i64 x.2),(6,.int .i64 x.1)],fun _=>[],fun x=>s.parts.length - x.1⟩)],[],[]⟩ Tryz.func19 (Ez n s m hs ho)
theorem Du:∀n:Nat,aj Tryz.prog 19 (p2 (.st .shape) (.int .i64) fun s m=>⟨some (sz s<=n/\0<=m/\m<=1000000),none,.int .i64 (sizeF s m),[]⟩):=by
 intro n
 induction n with
 | zero=>exact cM zA fun a m _ _ ho=>absurd (ho _ rfl).1 (by have:=dU a;omega)
 | succ n ih=>exact cM zA fun a m ha _ ho=>yq n a m ha (ho _ rfl) ih
theorem s5:aF Tryz.prog 8:=ee Tryz.func8
theorem tF (n:Nat) (a b:Shape) (ha:Wf (.st .shape) a) (hb:Wf (.st .shape) b) (hn:sz a<=n+1) (hA:aj Tryz.prog 8 (p2 (.st .shape) (.st .shape) fun a b=>⟨some (sz a<=n),none,.bool (eqS a b),[]⟩)):aB Tryz.prog 8 [.st .shape a,.st .shape b] [] (.ret (.bool (eqS a b))):=
 g0 (sc (hA) sn) ⟨[(4,fun S0=>⟨Nat,fun k=>k<=a.names.length/\a.names.length=b.names.length/\a.parts.length=b.parts.length/\eqS a b=(decide (a.names.drop k=b.names.drop k) && eqL a.parts b.parts),fun k=>[(5,.int .i64 k)],fun _=>[],fun k=>a.names.length - k⟩),(9,fun S0=>⟨Nat,fun k=>k<=a.parts.length/\a.parts.length=b.parts.length/\eqS a b=eqL (a.parts.drop k) (b.parts.drop k),fun k=>[(6,.int .i64 k)],fun _=>[],fun k=>a.parts.length - k⟩)],[],[]⟩ Tryz.func8 (Ba n a b ha hb hn)
theorem yr:∀n:Nat,aj Tryz.prog 8 (p2 (.st .shape) (.st .shape) fun a b=>⟨some (sz a<=n),none,.bool (eqS a b),[]⟩):=by
 intro n
 induction n with
 | zero=>exact cM s5 fun a b _ _ ho=>absurd (ho _ rfl) (by have:=dU a;omega)
 | succ n ih=>exact cM s5 fun a b ha hb ho=>tF n a b ha hb (ho _ rfl) ih
theorem tG (l:List Bndg) (N:Nat) (hl:Wf (.lst (.st .bind)) l) (hN:∀x∈l,sz x.shape<=N) :aB Tryz.prog 10 [.lst (.st .bind) l none] [] (.ret (.bool (gQ l))):=
 g0 (sc (Du N) sn) ⟨[(4,fun S0=>⟨Nat,fun k=>k<=l.length/\nI (l.drop k)=gQ l,fun k=>[(3,.int .i64 k)],fun _=>[],fun k=>l.length - k⟩)],[],[]⟩ Tryz.func10 (Bb l N hl hN)
theorem yt:aj Tryz.prog 10 (p1 (.lst (.st .bind)) fun l=>.ret (.bool (gQ l))):=
 cu (ee Tryz.func10) fun l hl _=>tG l (szB l) hl (CS l)
theorem vQ:aj Tryz.prog 4 (p1 (.st .env) fun e=>.ret (.bool (jj e))):=
 cu (ee Tryz.func4) fun e he _=>g0 (sc yt sn) a0 Tryz.func4 (y9 e he)
theorem vR:aj Tryz.prog 49 (p2 (.st .env) (.lst (.st .bind)) fun e l=>⟨some (e.values.length<=1000000000/\l.length<=1000),none,.st .env (bL e l),[]⟩):=
 cM (ee Tryz.func49) fun e l he hl ho=>g0 (sc pW sn) a0 Tryz.func49 (EA e l he hl (ho _ rfl))
theorem s6:aF Tryz.prog 24:=ee Tryz.func24
theorem tH (n:Nat) (t:Trm) (m:Int) (hs:Wf (.st .term) t) (hz:szT t<=n+1) (h0:0<=m) (h1:m<=1000000) (hA:aj Tryz.prog 24 (p2 (.st .term) (.int .i64) fun t m=>⟨some (szT t<=n/\0<=m/\m<=1000000),none,.tup [.int .i64 (countT t m).1,.int .i64 (countT t m).2],[]⟩)):aB Tryz.prog 24 [.st .term t,.int .i64 m] [] (⟨some (szT t<=n+1/\0<=m/\m<=1000000),none,.tup [.int .i64 (countT t m).1,.int .i64 (countT t m).2],[]⟩):=
 g0 (sc (hA) sn) ⟨[(3,fun S0=>⟨Nat × Int × Int,fun y=>y.1<=t.parts.length/\1<=y.2.1/\y.2.1<=m+1/\0<=y.2.2/\y.2.2+1<=y.2.1/\countL (t.parts.drop y.1) m y.2.1 y.2.2=countL t.parts m 1 0,fun y=>[(6,.int .i64 y.2.1),(7,.int .i64 y.2.2),(15,.int .i64 y.1)],fun _=>[],fun y=>t.parts.length - y.1⟩)],[],[]⟩ Tryz.func24 (Bc n t m hs hz h0 h1)
theorem qn:∀n:Nat,aj Tryz.prog 24 (p2 (.st .term) (.int .i64) fun t m=>⟨some (szT t<=n/\0<=m/\m<=1000000),none,.tup [.int .i64 (countT t m).1,.int .i64 (countT t m).2],[]⟩)
 | 0=>cM s6 fun t m hs _ ho=>absurd (ho _ rfl).1 (by have:=szT_pos t;omega)
 | n+1=>cM s6 fun t m hs _ ho=>tH n t m hs (ho _ rfl).1 (ho _ rfl).2.1 (ho _ rfl).2.2 (qn n)
theorem vS:aj Tryz.prog 130 (pcl .str 59 fun x=>⟨none,none,.bool (!ba x),[]⟩):=
 tp (ee Tryz.func130) fun x _ ho=>g0 (sc me sn) a0 Tryz.func130 (yb x)
theorem vT:aj Tryz.prog 159 (pfc (.lst .str) 130 59 fun l=>⟨none,none,.int .i64 (bB ba l 0),[]⟩):=
 jT (ee Tryz.func159) fun l hl ho=>g0 (sc vS sn) ⟨[(2,fun S0=>⟨Nat,fun k=>k<=l.length/\bB ba (l.drop k) k=bB ba l 0,fun k=>[(8,.int .i64 k)],fun _=>[],fun k=>l.length - k⟩)],[],[]⟩ Tryz.func159 (ye l hl)
theorem vU:aj Tryz.prog 129 (pfc (.lst .str) 130 59 fun l=>⟨none,none,.bool (!l.all ba),[]⟩):=
 jT (ee Tryz.func129) fun l _ ho=>g0 (sc vT sn) a0 Tryz.func129 (yf l)
theorem s7:aj Tryz.prog 90 (pf (.lst .str) 59 fun l=>⟨none,none,.bool (l.all ba),[]⟩):=
 ny (ee Tryz.func90) fun l _ ho=>g0 (sc vU sn) a0 Tryz.func90 (Db l)
theorem BA:aj Tryz.prog 89 (p1 (.lst .str) fun l=>⟨some (l.length *16<=140737488355328),none,.bool (l.all ba && decide l.Nodup),[]⟩):=
 cu (ee Tryz.func89) fun l _ ho=>g0 (sc qk (sc (l9) (sc s7 (sc (jU) sn)))) a0 Tryz.func89 (Dc l (ho _ rfl))
theorem yu:aF Tryz.prog 126:=ee Tryz.func126
theorem qY (n:Nat) (x:Shape)  (ho:sz x<=n) (hA:aj Tryz.prog 127 (p1 (.st .shape) fun s=>⟨some (sz s<=n),none,.bool (allS bw s),[]⟩)):aB Tryz.prog 126 [.st .shape x,.ptr 900 0] [(900,.box (.fn 127 []))] (⟨some (sz x<=n),none,.bool (!(allS bw) x),[]⟩):=
 g0 (sc (hA) sn) a0 Tryz.func126 (yg n x ho)
theorem vV (n:Nat) (hA:aj Tryz.prog 127 (p1 (.st .shape) fun s=>⟨some (sz s<=n),none,.bool (allS bw s),[]⟩)):aj Tryz.prog 126 (pcl (.st .shape) 127 fun x=>⟨some (sz x<=n),none,.bool (!(allS bw) x),[]⟩):=
 tp yu fun x _ ho=>qY n x (ho _ rfl) hA
theorem yw:aF Tryz.prog 157:=ee Tryz.func157
theorem qZ (n:Nat) (l:List AL.Shape)  (hl:Wf (.lst (.st .shape)) l) (ho:∀x∈l,sz x<=n) (hA:aj Tryz.prog 127 (p1 (.st .shape) fun s=>⟨some (sz s<=n),none,.bool (allS bw s),[]⟩)):aB Tryz.prog 157 [.lst (.st .shape) l none,.fn 126 [.ptr 900 0]] [(900,.box (.fn 127 []))] (⟨some (∀x∈l,sz x<=n),none,.int .i64 (bB (allS bw) l 0),[]⟩):=
 g0 (sc ((vV n hA)) sn) ⟨[(2,fun S0=>⟨Nat,fun k=>k<=l.length/\bB (allS bw) (l.drop k) k=bB (allS bw) l 0,fun k=>[(8,.int .i64 k)],fun _=>[],fun k=>l.length - k⟩)],[],[]⟩ Tryz.func157 (yh n l hl ho)
theorem vW (n:Nat) (hA:aj Tryz.prog 127 (p1 (.st .shape) fun s=>⟨some (sz s<=n),none,.bool (allS bw s),[]⟩)):aj Tryz.prog 157 (pfc (.lst (.st .shape)) 126 127 fun l=>⟨some (∀x∈l,sz x<=n),none,.int .i64 (bB (allS bw) l 0),[]⟩):=
 jT yw fun l hl ho=>qZ n l hl (ho _ rfl) hA
theorem yx:aF Tryz.prog 125:=ee Tryz.func125
theorem r6 (n:Nat) (l:List AL.Shape)  (ho:∀x∈l,sz x<=n) (hA:aj Tryz.prog 127 (p1 (.st .shape) fun s=>⟨some (sz s<=n),none,.bool (allS bw s),[]⟩)):aB Tryz.prog 125 [.lst (.st .shape) l none,.fn 126 [.ptr 900 0]] [(900,.box (.fn 127 []))] (⟨some (∀x∈l,sz x<=n),none,.bool (!l.all (allS bw)),[]⟩):=
 g0 (sc ((vW n hA)) sn) a0 Tryz.func125 (yi n l ho)
theorem vX (n:Nat) (hA:aj Tryz.prog 127 (p1 (.st .shape) fun s=>⟨some (sz s<=n),none,.bool (allS bw s),[]⟩)):aj Tryz.prog 125 (pfc (.lst (.st .shape)) 126 127 fun l=>⟨some (∀x∈l,sz x<=n),none,.bool (!l.all (allS bw)),[]⟩):=
 jT yx fun l _ ho=>r6 n l (ho _ rfl) hA
theorem Dv:aF Tryz.prog 86:=ee Tryz.func86
theorem vY (n:Nat) (l:List AL.Shape)  (ho:∀x∈l,sz x<=n) (hA:aj Tryz.prog 127 (p1 (.st .shape) fun s=>⟨some (sz s<=n),none,.bool (allS bw s),[]⟩)):aB Tryz.prog 86 [.lst (.st .shape) l none,.fn 127 []] [] (⟨some (∀x∈l,sz x<=n),none,.bool (l.all (allS bw)),[]⟩):=
 g0 (sc ((vX n hA)) sn) a0 Tryz.func86 (Dd n l ho)
theorem BB (n:Nat) (hA:aj Tryz.prog 127 (p1 (.st .shape) fun s=>⟨some (sz s<=n),none,.bool (allS bw s),[]⟩)):aj Tryz.prog 86 (pf (.lst (.st .shape)) 127 fun l=>⟨some (∀x∈l,sz x<=n),none,.bool (l.all (allS bw)),[]⟩):=
 ny Dv fun l _ ho=>vY n l (ho _ rfl) hA
theorem zB:aF Tryz.prog 127:=ee Tryz.func127
theorem yy (n:Nat) (s:AL.Shape) (ho:sz s<=n+1) (hE:aj Tryz.prog 86 (pf (.lst (.st .shape)) 127 fun l=>⟨some (∀x∈l,sz x<=n),none,.bool (l.all (allS bw)),[]⟩)):aB Tryz.prog 127 [.st .shape s] [] (⟨some (sz s<=n+1),none,.bool (allS bw s),[]⟩):=
 g0 (sc (hE) sn) a0 Tryz.func127 (EB n s ho)
theorem vZ:∀n:Nat,aj Tryz.prog 127 (p1 (.st .shape) fun s=>⟨some (sz s<=n),none,.bool (allS bw s),[]⟩)
 | 0=>cu zB fun s _ ho=>absurd (ho _ rfl) (by have:=dU s;omega)
 | n+1=>cu zB fun s _ ho=>yy n s (ho _ rfl) (BB n (vZ n))
theorem yz:aj Tryz.prog 87 (p1 (.st .shape) fun s=>.ret (.bool (decide (aq s=0) && allS bw s))):=
 cu (ee Tryz.func87) fun s _ _=>g0 (sc fD (sc (vZ 400) sn)) a0 Tryz.func87 (Bd s)
theorem EK:aj Tryz.prog 85 (p1 (.st .term) fun t=>.ret (.agg [.int .i64 (t.names.length:Int),.int .i64 (t.vars.length:Int),.int .i64 (t.shapes.length:Int),.int .i64 (t.parts.length:Int)])):=
 cu (ee Tryz.func85) fun t _ _=>g0 sn a0 Tryz.func85 (FC t)
theorem BC:aj Tryz.prog 88 (p1 .str fun s=>.ret (.bool (pS s))):=
 cu (ee Tryz.func88) fun s hs _=>g0 (sc (Aw) sn) ⟨[(2,fun S0=>⟨Nat,fun k=>k<=s.length/\(s.all fh)=(s.drop k).all fh,fun k=>[(8,.int .i64 k)],fun _=>[],fun k=>s.length - k⟩)],[],[]⟩ Tryz.func88 (De s hs)
theorem tI:aj Tryz.prog 126 (pcl (.st .shape) 87 fun x=>⟨none,none,.bool (!cn x),[]⟩):=
 tp (ee Tryz.func126) fun x _ ho=>g0 (sc yz sn) a0 Tryz.func126 (vG x)
theorem tJ:aj Tryz.prog 157 (pfc (.lst (.st .shape)) 126 87 fun l=>⟨none,none,.int .i64 (bB cn l 0),[]⟩):=
 jT (ee Tryz.func157) fun l hl ho=>g0 (sc tI sn) ⟨[(2,fun S0=>⟨Nat,fun k=>k<=l.length/\bB cn (l.drop k) k=bB cn l 0,fun k=>[(8,.int .i64 k)],fun _=>[],fun k=>l.length - k⟩)],[],[]⟩ Tryz.func157 (vH l hl)
theorem tK:aj Tryz.prog 125 (pfc (.lst (.st .shape)) 126 87 fun l=>⟨none,none,.bool (!l.all cn),[]⟩):=
 jT (ee Tryz.func125) fun l _ ho=>g0 (sc tJ sn) a0 Tryz.func125 (vI l)
theorem yA:aj Tryz.prog 86 (pf (.lst (.st .shape)) 87 fun l=>⟨none,none,.bool (l.all cn),[]⟩):=
 ny (ee Tryz.func86) fun l _ ho=>g0 (sc tK sn) a0 Tryz.func86 (Be l)
theorem BD:aj Tryz.prog 44 (p1 (.st .term) fun t=>⟨some (t.names.length<=8796093022208),none,.bool (ak t),[]⟩):=
 cu (ee Tryz.func44) fun t ht ho=>g0 (sc EK (sc yA (sc BC (sc me (sc BA (sc s7 (sc rY sn))))))) ⟨[],[],[(2,fun S0=>⟨[(34,.bool (!hD t))],[]⟩)]⟩ Tryz.func44 (Df t ht (ho _ rfl))
theorem w8:aF Tryz.prog 92:=ee Tryz.func92
theorem qo (n:Nat) (x:Trm)  (ho:szT x<=n/\fewT x=true) (hA:aj Tryz.prog 25 (p1 (.st .term) fun t=>⟨some (szT t<=n/\fewT t=true),none,.bool (allT ak t),[]⟩)):aB Tryz.prog 92 [.st .term x,.ptr 900 0] [(900,.box (.fn 25 []))] (⟨some (szT x<=n/\fewT x=true),none,.bool (!(allT ak) x),[]⟩):=
 g0 (sc (hA) sn) a0 Tryz.func92 (vJ n x ho)
theorem tL (n:Nat) (hA:aj Tryz.prog 25 (p1 (.st .term) fun t=>⟨some (szT t<=n/\fewT t=true),none,.bool (allT ak t),[]⟩)):aj Tryz.prog 92 (pcl (.st .term) 25 fun x=>⟨some (szT x<=n/\fewT x=true),none,.bool (!(allT ak) x),[]⟩):=
 tp w8 fun x _ ho=>qo n x (ho _ rfl) hA
theorem w9:aF Tryz.prog 131:=ee Tryz.func131
theorem qp (n:Nat) (l:List Trm)  (hl:Wf (.lst (.st .term)) l) (ho:∀x∈l,szT x<=n/\fewT x=true) (hA:aj Tryz.prog 25 (p1 (.st .term) fun t=>⟨some (szT t<=n/\fewT t=true),none,.bool (allT ak t),[]⟩)):aB Tryz.prog 131 [.lst (.st .term) l none,.fn 92 [.ptr 900 0]] [(900,.box (.fn 25 []))] (⟨some (∀x∈l,szT x<=n/\fewT x=true),none,.int .i64 (bB (allT ak) l 0),[]⟩):=
 g0 (sc ((tL n hA)) sn) ⟨[(2,fun S0=>⟨Nat,fun k=>k<=l.length/\bB (allT ak) (l.drop k) k=bB (allT ak) l 0,fun k=>[(8,.int .i64 k)],fun _=>[],fun k=>l.length - k⟩)],[],[]⟩ Tryz.func131 (vK n l hl ho)
theorem tM (n:Nat) (hA:aj Tryz.prog 25 (p1 (.st .term) fun t=>⟨some (szT t<=n/\fewT t=true),none,.bool (allT ak t),[]⟩)):aj Tryz.prog 131 (pfc (.lst (.st .term)) 92 25 fun l=>⟨some (∀x∈l,szT x<=n/\fewT x=true),none,.int .i64 (bB (allT ak) l 0),[]⟩):=
 jT w9 fun l hl ho=>qp n l hl (ho _ rfl) hA
theorem wa:aF Tryz.prog 91:=ee Tryz.func91
theorem qq (n:Nat) (l:List Trm)  (ho:∀x∈l,szT x<=n/\fewT x=true) (hA:aj Tryz.prog 25 (p1 (.st .term) fun t=>⟨some (szT t<=n/\fewT t=true),none,.bool (allT ak t),[]⟩)):aB Tryz.prog 91 [.lst (.st .term) l none,.fn 92 [.ptr 900 0]] [(900,.box (.fn 25 []))] (⟨some (∀x∈l,szT x<=n/\fewT x=true),none,.bool (!l.all (allT ak)),[]⟩):=
 g0 (sc ((tM n hA)) sn) a0 Tryz.func91 (vL n l ho)
theorem tN (n:Nat) (hA:aj Tryz.prog 25 (p1 (.st .term) fun t=>⟨some (szT t<=n/\fewT t=true),none,.bool (allT ak t),[]⟩)):aj Tryz.prog 91 (pfc (.lst (.st .term)) 92 25 fun l=>⟨some (∀x∈l,szT x<=n/\fewT x=true),none,.bool (!l.all (allT ak)),[]⟩):=
 jT wa fun l _ ho=>qq n l (ho _ rfl) hA
theorem BE:aF Tryz.prog 45:=ee Tryz.func45
theorem tO (n:Nat) (l:List Trm)  (ho:∀x∈l,szT x<=n/\fewT x=true) (hA:aj Tryz.prog 25 (p1 (.st .term) fun t=>⟨some (szT t<=n/\fewT t=true),none,.bool (allT ak t),[]⟩)):aB Tryz.prog 45 [.lst (.st .term) l none,.fn 25 []] [] (⟨some (∀x∈l,szT x<=n/\fewT x=true),none,.bool (l.all (allT ak)),[]⟩):=
 g0 (sc ((tN n hA)) sn) a0 Tryz.func45 (Bf n l ho)
theorem yB (n:Nat) (hA:aj Tryz.prog 25 (p1 (.st .term) fun t=>⟨some (szT t<=n/\fewT t=true),none,.bool (allT ak t),[]⟩)):aj Tryz.prog 45 (pf (.lst (.st .term)) 25 fun l=>⟨some (∀x∈l,szT x<=n/\fewT x=true),none,.bool (l.all (allT ak)),[]⟩):=
 ny BE fun l _ ho=>tO n l (ho _ rfl) hA
theorem s8:aF Tryz.prog 25:=ee Tryz.func25
theorem tP (n:Nat) (t:Trm) (ho:szT t<=n+1/\fewT t=true) (hE:aj Tryz.prog 45 (pf (.lst (.st .term)) 25 fun l=>⟨some (∀x∈l,szT x<=n/\fewT x=true),none,.bool (l.all (allT ak)),[]⟩)):aB Tryz.prog 25 [.st .term t] [] (⟨some (szT t<=n+1/\fewT t=true),none,.bool (allT ak t),[]⟩):=
 g0 (sc BD (sc (hE) sn)) a0 Tryz.func25 (Bg n t ho)
theorem qt:∀n:Nat,aj Tryz.prog 25 (p1 (.st .term) fun t=>⟨some (szT t<=n/\fewT t=true),none,.bool (allT ak t),[]⟩)
 | 0=>cu s8 fun t _ ho=>absurd (ho _ rfl).1 (by have:=szT_pos t;omega)
 | n+1=>cu s8 fun t _ ho=>tP n t (ho _ rfl) (yB n (qt n))
theorem tQ (x:Trm) (ho:fewT x=true) :aB Tryz.prog 14 [.st .term x] [] (⟨some (fewT x=true),none,.int .i64 (dA x),[]⟩):=
 g0 (sc (qn (szT x)) (sc (qt (szT x)) sn)) a0 Tryz.func14 (Bh x ho)
theorem yC:aj Tryz.prog 14 (p1 (.st .term) fun t=>⟨some (fewT t=true),none,.int .i64 (dA t),[]⟩):=
 cu (ee Tryz.func14) fun t _ ho=>tQ t (ho _ rfl)
theorem wb:aF Tryz.prog 11:=ee Tryz.func11
theorem wc (n:Nat) (s:Trm) (m:Int) (hs:Wf (.st .term) s) (ho:szT s<=n+1/\0<=m/\m<=1000000) (hA:aj Tryz.prog 11 (p2 (.st .term) (.int .i64) fun s m=>⟨some (szT s<=n/\0<=m/\m<=1000000),none,.int .i64 (dJ s m),[]⟩)):aB Tryz.prog 11 [.st .term s,.int .i64 m] [] (.ret (.int .i64 (dJ s m))):=
 g0 (sc (hA) sn) ⟨[(3,fun S0=>⟨Nat × Int,fun x=>x.1<=s.parts.length/\1<=x.2/\x.2<=m+1/\sizeTL (s.parts.drop x.1) x.2 m=dJ s m,fun x=>[(5,.int .i64 x.2),(6,.int .i64 x.1)],fun _=>[],fun x=>s.parts.length - x.1⟩)],[],[]⟩ Tryz.func11 (Dg n s m hs ho)
theorem BF:∀n:Nat,aj Tryz.prog 11 (p2 (.st .term) (.int .i64) fun s m=>⟨some (szT s<=n/\0<=m/\m<=1000000),none,.int .i64 (dJ s m),[]⟩):=by
 intro n
 induction n with
 | zero=>exact cM wb fun a m _ _ ho=>absurd (ho _ rfl).1 (by have:=szT_pos a;omega)
 | succ n ih=>exact cM wb fun a m ha _ ho=>wc n a m ha (ho _ rfl) ih
theorem yD:aj Tryz.prog 189 (p3 (.st .shape) (.st .shape) .bool fun a b f=>.ret (.bool (decide (f=decide (a.kind=6))))):=
 Cr (ee Tryz.func189) fun a b f _ _ _ _=>g0 sn a0 Tryz.func189 (Bi a b f)
theorem BG:aj Tryz.prog 161 (p0 ⟨none,none,.ptr 2 0,[(2,.box (.agg [.fn 189 []]))]⟩):=
 EZ (ee Tryz.func161) (g0 sn a0 Tryz.func161 (Dh))
theorem s9:aj Tryz.prog 190 (p2 (.st .shape) .str fun s m=>⟨some (ai s=true),none,.pt .shape (aE s m),[]⟩):=
 cM (ee Tryz.func190) fun s m hs _ ho=>g0 (sc qj sn) a0 Tryz.func190 (Di s m hs (ho _ rfl))
theorem yE:aj Tryz.prog 191 (xG fun m s=>⟨some (ai s=true),none,.bool (aE s m).isNone,[]⟩):=
 AF (ee Tryz.func191) fun m s ho=>g0 (sc s9 sn) a0 Tryz.func191 (Bj m s (ho _ rfl))
theorem BH:aj Tryz.prog 160 (p2 (.st .shape) (.st .shape) fun a b=>.ret (.bool (decide (aq a=0) && decide (aq b=0)))):=
 cM (ee Tryz.func160) fun a b _ _ _=>g0 (sc fD sn) a0 Tryz.func160 (Dj a b)
theorem Dw:aj Tryz.prog 159 (lR 191 fun l s=>⟨some (ai s=true),none,.int .i64 (bB (fun m=>(aE s m).isSome) l 0),[]⟩):=
 nJ (ee Tryz.func159) fun l s hl ho=>g0 (sc yE sn) ⟨[(2,fun S0=>⟨Nat,fun k=>k<=l.length/\bB (fun m=>(aE s m).isSome) (l.drop k) k=bB (fun m=>(aE s m).isSome) l 0,fun k=>[(8,.int .i64 k)],fun _=>[],fun k=>l.length - k⟩)],[],[]⟩ Tryz.func159 (EC l s hl (ho _ rfl))
theorem Dx:aj Tryz.prog 129 (lR 191 fun l s=>⟨some (ai s=true),none,.bool (!l.all (fun m=>(aE s m).isSome)),[]⟩):=
 nJ (ee Tryz.func129) fun l s _ ho=>g0 (sc Dw sn) a0 Tryz.func129 (ED l s (ho _ rfl))
theorem we:aF Tryz.prog 162:=ee Tryz.func162
theorem wg (n:Nat) (a b:Shape) (ha:Wf (.st .shape) a) (hb:Wf (.st .shape) b) (hn:sz a+sz b<=n+1) (oa:allS ai a=true) (ob:allS ai b=true) (hA:aj Tryz.prog 162 (tz 189 fun a b=>⟨some (sz a+sz b<=n/\allS ai a=true/\allS ai b=true),none,.bool (aW n a b),[]⟩)):aB Tryz.prog 162 [.ptr 900 0,.st .shape a,.st .shape b] [(900,.box (.agg [.fn 189 []]))] (⟨some (sz a+sz b<=n+1/\allS ai a=true/\allS ai b=true),none,.bool (aW (n+1) a b),[]⟩):=
 g0 (sc yD (sc s9 (sc Dx (sc (hA) sn)))) ⟨[(7,fun S0=>⟨Nat,fun k=>k<=a.names.length/\cN (aW n) (decide (a.kind=7)) b (a.names.drop k) (a.parts.drop k)=cN (aW n) (decide (a.kind=7)) b a.names a.parts,fun k=>[(54,.int .i64 k)],fun _=>[],fun k=>a.names.length - k⟩),(17,fun S0=>⟨Nat,fun k=>k<=a.parts.length/\aW (n+1) a b=fk (aW n) (decide (a.kind=8)) (a.parts.drop k) (b.parts.drop k),fun k=>[(117,.int .i64 k)],fun _=>[],fun k=>a.parts.length - k⟩)],[],[(5,fun S0=>⟨[(42,.bool (decide (a.kind=6) || decide (a.kind=7)))],[]⟩)]⟩ Tryz.func162 (Dk n a b ha hb hn oa ob)
theorem sa:∀n:Nat,aj Tryz.prog 162 (tz 189 fun a b=>⟨some (sz a+sz b<=n/\allS ai a=true/\allS ai b=true),none,.bool (aW n a b),[]⟩)
 | 0=>rL we fun a b ha hb ho=>absurd (dU a) (by have:=(ho _ rfl).1;omega)
 | n+1=>rL we fun a b ha hb ho=>wg n a b ha hb (ho _ rfl).1 (ho _ rfl).2.1 (ho _ rfl).2.2 (sa n)
theorem Dy:aj Tryz.prog 132 (p2 (.st .shape) (.st .shape) fun a b=>.ret (.bool (eK a b))):=
 cM (ee Tryz.func132) fun a b ha hb _=>g0 (sc BH (sc BG (sc (sa 800) sn))) a0 Tryz.func132 (EE a b ha hb)
theorem yF (k:Nam) (v:Shape)  :aB Tryz.prog 194 [.ptr 900 0,.st .nm k,.st .shape v] [(900,.box (.agg [.nilm]))] (⟨none,none,.tup [],[(900,.box (.map 12)),(12,.map (.st .nm) (.st .shape) (dX ([]:List (Nam × Shape)) k v))]⟩):=
 g0 sn a0 Tryz.func194 (EF k v)
theorem wh:aj Tryz.prog 194 (xH fun m k v=>match m with | none=>⟨none,none,.tup [],[(900,.box (.map 12)),(12,.map (.st .nm) (.st .shape) (dX ([]:List (Nam × Shape)) k v))]⟩ | some m=>⟨none,none,.tup [],[(901,.map (.st .nm) (.st .shape) (dX m k v))]⟩):=
 AG (ee Tryz.func194) (fun k v=>yF k v) fun m k v=>g0 sn a0 Tryz.func194 (EG m k v)
theorem yG (k:Nam)  :aB Tryz.prog 192 [.ptr 900 0,.st .nm k] [(900,.box (.agg [.nilm]))] (.ret (.tup [.st .shape ((bf [] k.pkg k.name).getD an),.bool (bf [] k.pkg k.name).isSome])):=
 g0 sn a0 Tryz.func192 (EH k)
theorem wi:aj Tryz.prog 192 (xI fun m k=>.ret (.tup [.st .shape ((bf (m.getD []) k.pkg k.name).getD an),.bool (bf (m.getD []) k.pkg k.name).isSome])):=
 AH (ee Tryz.func192) (fun k=>yG k) fun m k=>g0 sn a0 Tryz.func192 (EI m k)
theorem wj (n:Nat) (s:AL.Shape) (hs:Wf (.st .shape) s) (hn:sz s<=n+1) (h4:n+1<=400) (os:allS ai s=true) (hA:aj Tryz.prog 163 (lT fun m s=>⟨some (sz s<=n/\n<=400/\allS ai s=true),none,.tup [.st .shape ((fillS (bf (m.getD [])) s).getD an),.bool (fillS (bf (m.getD [])) s).isSome],[]⟩)):aB Tryz.prog 163 [.st .shape s,.ptr 900 0] [(900,.box (.agg [.nilm]))] (⟨some (sz s<=(n+1)/\(n+1)<=400/\allS ai s=true),none,.tup [.st .shape ((fillS (bf []) s).getD an),.bool (fillS (bf []) s).isSome],[]⟩):=
 g0 (sc wi (sc (hA) (sc (mM) sn))) ⟨[(5,fun S0=>⟨Nat × List AL.Shape,fun x=>x.1<=s.parts.length/\x.2.length=x.1/\fillL (bf []) s.parts=(fillL (bf []) (s.parts.drop x.1)).map (x.2++ ·),fun x=>[(30,.int .i64 x.1),(6,.lst (.st .shape) x.2 (some 26))],fun x=>[(26,.tail (.st .shape) x.2.length)],fun x=>s.parts.length - x.1⟩)],[],[]⟩ Tryz.func163 (Dl n s hs hn h4 os)
theorem wk:aF Tryz.prog 163:=ee Tryz.func163
theorem wm (n:Nat) (m:List (Nam × Shape)) (s:AL.Shape) (hs:Wf (.st .shape) s) (hn:sz s<=n+1) (h4:n+1<=400) (os:allS ai s=true) (hA:aj Tryz.prog 163 (lT fun m s=>⟨some (sz s<=n/\n<=400/\allS ai s=true),none,.tup [.st .shape ((fillS (bf (m.getD [])) s).getD an),.bool (fillS (bf (m.getD [])) s).isSome],[]⟩)):aB Tryz.prog 163 [.st .shape s,.ptr 900 0] [(900,.box (.map 901)),(901,.map (.st .nm) (.st .shape) m)] (⟨some (sz s<=(n+1)/\(n+1)<=400/\allS ai s=true),none,.tup [.st .shape ((fillS (bf m) s).getD an),.bool (fillS (bf m) s).isSome],[]⟩):=
 g0 (sc wi (sc (hA) (sc (mM) sn))) ⟨[(5,fun S0=>⟨Nat × List AL.Shape,fun x=>x.1<=s.parts.length/\x.2.length=x.1/\fillL (bf m) s.parts=(fillL (bf m) (s.parts.drop x.1)).map (x.2++ ·),fun x=>[(30,.int .i64 x.1),(6,.lst (.st .shape) x.2 (some 26))],fun x=>[(26,.tail (.st .shape) x.2.length)],fun x=>s.parts.length - x.1⟩)],[],[]⟩ Tryz.func163 (Dm n m s hs hn h4 os)
theorem ky:∀n:Nat,aj Tryz.prog 163 (lT fun m s=>⟨some (sz s<=n/\n<=400/\allS ai s=true),none,.tup [.st .shape ((fillS (bf (m.getD [])) s).getD an),.bool (fillS (bf (m.getD [])) s).isSome],[]⟩)
 | 0=>pY wk (fun s hs ho=>absurd (dU s) (by have:=(ho _ rfl).1;omega)) (fun m s hs ho=>absurd (dU s) (by have:=(ho _ rfl).1;omega))
 | n+1=>pY wk (fun s hs ho=>wj n s hs (ho _ rfl).1 (ho _ rfl).2.1 (ho _ rfl).2.2 (ky n)) (fun m s hs ho=>wm n m s hs (ho _ rfl).1 (ho _ rfl).2.1 (ho _ rfl).2.2 (ky n))
theorem tR   :aB Tryz.prog 164 [.lst (.st .bind) [] none] [] (⟨none,none,.ptr 7 0,[(7,.box (.agg [.nilm]))]⟩):=
 g0 (sc wh sn) ⟨[(3,fun S0=>⟨Nat,fun _=>True,fun _=>[(10,.int .i64 0)],fun _=>[],fun _=>0⟩)],[],[]⟩ Tryz.func164 (Bk)
theorem qu:aj Tryz.prog 164 (pZ ⟨none,none,.ptr 7 0,[(7,.box (.agg [.nilm]))]⟩ fun b r=>⟨none,none,.ptr 7 0,[(7,.box (.map 701)),(701,.map (.st .nm) (.st .shape) (hX (b ::r)))]⟩):=
 vp (ee Tryz.func164) tR fun b r hl=>g0 (sc wh sn) ⟨[(3,fun S0=>⟨Nat × List (Nam × Shape),fun x=>x.1<=(b ::r).length/\nK ((b ::r).drop x.1) x.2=hX (b ::r),fun x=>[(10,.int .i64 x.1)],fun x=>[(7,.box (.map 701)),(701,.map (.st .nm) (.st .shape) x.2)],fun x=>(b ::r).length - x.1⟩)],[(200003,[1,13022,701])],[]⟩ Tryz.func164 (Bl b r hl)
theorem qv (s:AL.Shape) (hs:Wf (.st .shape) s) :aB Tryz.prog 133 [.st .shape s,.lst (.st .bind) [] none] [] (.ret (.tup [.st .shape (aw s []).1,.int .i64 (aw s []).2])):=
 g0 (sc fD (sc qu (sc (ky 400) (sc jZ sn)))) a0 Tryz.func133 (vM s hs)
theorem wo:aj Tryz.prog 133 (p2 (.st .shape) (.lst (.st .bind)) fun s l=>.ret (.tup [.st .shape (aw s l).1,.int .i64 (aw s l).2])):=
 cM (ee Tryz.func133) fun s l hs hl _=>match l,hl with | [],_=>qv s hs | b ::r,hl=>g0 (sc fD (sc qu (sc (ky 400) (sc jZ sn)))) a0 Tryz.func133 (yj s b r hs hl)
theorem tS:aj Tryz.prog 43 (p1 (.int .i64) fun k=>.ret (.st .shape (ofK k))):=
 cu (ee Tryz.func43) fun k _ _=>g0 sn a0 Tryz.func43 (FD k)
theorem dW:aj Tryz.prog 15 (p2 (.int .i64) (.int .i64) fun e a=>.ret (.agg [.int .i64 e,.int .i64 a])):=
 cM (ee Tryz.func15) fun e a _ _ _=>g0 sn a0 Tryz.func15 (Bm e a)
theorem BI:aj Tryz.prog 46 (p3 (.lst (.st .bind)) .str .str fun l o m=>.ret (.tup [.st .shape ((aI l o m).elim an aO),.bool (aI l o m).isSome])):=
 Cr (ee Tryz.func46) fun l o m hl _ _ _=>g0 (sc jZ sn) ⟨[(2,fun S0=>⟨Nat,fun k=>k<=l.length/\aI l o m=aI (l.take k) o m,fun k=>[(8,.int .i64 ((k:Int) - 1))],fun _=>[],fun k=>k⟩)],[],[]⟩ Tryz.func46 (Dn l o m hl)
theorem sb:aF Tryz.prog 16:=ee Tryz.func16
theorem tT (n:Nat) (t:Trm) (e:Envt) (ht:Wf (.st .term) t) (he:Wf (.st .env) e) (hz:szT t<=n+1) (hf:allT ak t=true) (hv:e.values.length+4096 *szT t<=100000000) (hP:aj Tryz.prog 26 (p2 (.st .term) (.st .env) fun t e=>⟨some (szT t<=n+1/\allT ak t=true/\e.values.length+4096 *szT t<=100000000),none,.tup [.st .shape (ao (aa n) t e).1,.agg [.int .i64 (ao (aa n) t e).2.err,.int .i64 (ao (aa n) t e).2.pos]],[]⟩)):aB Tryz.prog 16 [.st .term t,.st .env e] [] (⟨some (szT t<=n+1/\allT ak t=true/\e.values.length+4096 *szT t<=100000000),none,.tup [.st .shape (aa (n+1) t e).1,.agg [.int .i64 (aa (n+1) t e).2.err,.int .i64 (aa (n+1) t e).2.pos]],[]⟩):=
 g0 (sc (hP) (sc fD (sc jZ (sc dW sn)))) a0 Tryz.func16 (Bn n t e ht he hz hf hv)
theorem Dz:aF Tryz.prog 93:=ee Tryz.func93
theorem wq (n:Nat) (t:Trm) (w:Shape) (e:Envt) (ht:Wf (.st .term) t) (hw:Wf (.st .shape) w) (he:Wf (.st .env) e) (hz:szT t<=n) (hf:allT ak t=true) (hv:e.values.length+4096 *szT t<=100000000) (hA:aj Tryz.prog 16 (p2 (.st .term) (.st .env) fun t e=>⟨some (szT t<=n/\allT ak t=true/\e.values.length+4096 *szT t<=100000000),none,.tup [.st .shape (aa n t e).1,.agg [.int .i64 (aa n t e).2.err,.int .i64 (aa n t e).2.pos]],[]⟩)):aB Tryz.prog 93 [.st .term t,.st .shape w,.st .env e] [] (⟨some (szT t<=n/\allT ak t=true/\e.values.length+4096 *szT t<=100000000),none,.agg [.int .i64 (aA (aa n) t w e).err,.int .i64 (aA (aa n) t w e).pos],[]⟩):=
 g0 (sc (hA) (sc Dy (sc dW sn))) a0 Tryz.func93 (Dp n t w e ht hw he hz hf hv)
theorem BJ (n:Nat) (hA:aj Tryz.prog 16 (p2 (.st .term) (.st .env) fun t e=>⟨some (szT t<=n/\allT ak t=true/\e.values.length+4096 *szT t<=100000000),none,.tup [.st .shape (aa n t e).1,.agg [.int .i64 (aa n t e).2.err,.int .i64 (aa n t e).2.pos]],[]⟩)):aj Tryz.prog 93 (p3 (.st .term) (.st .shape) (.st .env) fun t w e=>⟨some (szT t<=n/\allT ak t=true/\e.values.length+4096 *szT t<=100000000),none,.agg [.int .i64 (aA (aa n) t w e).err,.int .i64 (aA (aa n) t w e).pos],[]⟩):=
 Cr Dz fun t w e ht hw he ho=>wq n t w e ht hw he (ho _ rfl).1 (ho _ rfl).2.1 (ho _ rfl).2.2 hA
theorem BK:aF Tryz.prog 48:=ee Tryz.func48
theorem tU (n:Nat) (t:Trm) (e:Envt) (ht:Wf (.st .term) t) (he:Wf (.st .env) e) (hp:0 < t.parts.length) (hz:szT t<=n+1) (hf:allT ak t=true) (hv:e.values.length+4096 *szT t<=100000000) (hA:aj Tryz.prog 16 (p2 (.st .term) (.st .env) fun t e=>⟨some (szT t<=n/\allT ak t=true/\e.values.length+4096 *szT t<=100000000),none,.tup [.st .shape (aa n t e).1,.agg [.int .i64 (aa n t e).2.err,.int .i64 (aa n t e).2.pos]],[]⟩)):aB Tryz.prog 48 [.st .term t,.st .env e] [] (⟨some (0 < t.parts.length/\szT t<=n+1/\allT ak t=true/\e.values.length+4096 *szT t<=100000000),none,.tup [.st .shape (bW (aa n) t e).1,.agg [.int .i64 (bW (aa n) t e).2.err,.int .i64 (bW (aa n) t e).2.pos]],[]⟩):=
 g0 (sc (hA) (sc qj (sc dW sn))) a0 Tryz.func48 (Bp n t e ht he hp hz hf hv)
theorem yH (n:Nat) (hA:aj Tryz.prog 16 (p2 (.st .term) (.st .env) fun t e=>⟨some (szT t<=n/\allT ak t=true/\e.values.length+4096 *szT t<=100000000),none,.tup [.st .shape (aa n t e).1,.agg [.int .i64 (aa n t e).2.err,.int .i64 (aa n t e).2.pos]],[]⟩)):aj Tryz.prog 48 (p2 (.st .term) (.st .env) fun t e=>⟨some (0 < t.parts.length/\szT t<=n+1/\allT ak t=true/\e.values.length+4096 *szT t<=100000000),none,.tup [.st .shape (bW (aa n) t e).1,.agg [.int .i64 (bW (aa n) t e).2.err,.int .i64 (bW (aa n) t e).2.pos]],[]⟩):=
 cM BK fun t e ht he ho=>tU n t e ht he (ho _ rfl).1 (ho _ rfl).2.1 (ho _ rfl).2.2.1 (ho _ rfl).2.2.2 hA
theorem yI:aj Tryz.prog 96 (p2 (.st .term) (.st .env) fun t e=>⟨some (t.shapes.length<=1000000),none,.tup [.lst (.st .shape) (ae e.types t.pos t.shapes).1 (some 702),.agg [.int .i64 (ae e.types t.pos t.shapes).2.err,.int .i64 (ae e.types t.pos t.shapes).2.pos]],[(702,.tail (.st .shape) (ae e.types t.pos t.shapes).1.length)]⟩):=
 cM (ee Tryz.func96) fun t e ht he ho=>g0 (sc wo (sc dW sn)) ⟨[(3,fun S0=>⟨Nat × List AL.Shape,fun x=>x.1<=t.shapes.length/\x.2.length=x.1/\((ae e.types t.pos (t.shapes.drop x.1)).2.err=0→ae e.types t.pos t.shapes=(x.2++(ae e.types t.pos (t.shapes.drop x.1)).1,cW))/\(¬(ae e.types t.pos (t.shapes.drop x.1)).2.err=0→ae e.types t.pos t.shapes=ae e.types t.pos (t.shapes.drop x.1)),fun x=>[(14,.int .i64 x.1),(6,.lst (.st .shape) x.2 (some 701))],fun x=>[(701,.tail (.st .shape) x.2.length)],fun x=>t.shapes.length - x.1⟩)],[(300010,[701,702])],[]⟩ Tryz.func96 (Bq t e ht he (ho _ rfl))
theorem DA:aF Tryz.prog 47:=ee Tryz.func47
theorem wu (n:Nat) (t:Trm) (e:Envt) (ht:Wf (.st .term) t) (he:Wf (.st .env) e) (hp:0 < t.parts.length) (hz:szT t<=n+1) (hf:allT ak t=true) (hv:e.values.length+4096 *szT t<=100000000) (hA:aj Tryz.prog 16 (p2 (.st .term) (.st .env) fun t e=>⟨some (szT t<=n/\allT ak t=true/\e.values.length+4096 *szT t<=100000000),none,.tup [.st .shape (aa n t e).1,.agg [.int .i64 (aa n t e).2.err,.int .i64 (aa n t e).2.pos]],[]⟩)) (hF:aj Tryz.prog 93 (p3 (.st .term) (.st .shape) (.st .env) fun t w e=>⟨some (szT t<=n/\allT ak t=true/\e.values.length+4096 *szT t<=100000000),none,.agg [.int .i64 (aA (aa n) t w e).err,.int .i64 (aA (aa n) t w e).pos],[]⟩)):aB Tryz.prog 47 [.st .term t,.st .env e] [] (⟨some (0 < t.parts.length/\szT t<=n+1/\allT ak t=true/\e.values.length+4096 *szT t<=100000000),none,.tup [.st .shape (bU (aa n) t e).1,.agg [.int .i64 (bU (aa n) t e).2.err,.int .i64 (bU (aa n) t e).2.pos]],[]⟩):=
 g0 (sc (hA) (sc (hF) (sc tS (sc dW sn)))) ⟨[(8,fun S0=>⟨Nat,fun k=>k+1<=t.parts.length/\((aa n (t.parts.getD 0 az) e).1.kind=4→cE (aa n) e (ofK 4) (t.parts.drop 1)=cE (aa n) e (ofK 4) (t.parts.drop (k+1)))/\(¬(aa n (t.parts.getD 0 az) e).1.kind=4→dV (aa n) e (t.parts.drop 1) (aa n (t.parts.getD 0 az) e).1.parts=dV (aa n) e (t.parts.drop (k+1)) ((aa n (t.parts.getD 0 az) e).1.parts.drop k)),fun k=>[(54,.int .i64 k)],fun _=>[],fun k=>t.parts.length - k⟩)],[],[(5,fun S0=>⟨[(45,.bool (!decide ((aa n (t.parts.getD 0 az) e).1.kind=4) && (!decide ((aa n (t.parts.getD 0 az) e).1.kind=8) || !decide ((aa n (t.parts.getD 0 az) e).1.parts.length=t.parts.length))))],[]⟩)]⟩ Tryz.func47 (Dq n t e ht he hp hz hf hv)
theorem BL (n:Nat) (hA:aj Tryz.prog 16 (p2 (.st .term) (.st .env) fun t e=>⟨some (szT t<=n/\allT ak t=true/\e.values.length+4096 *szT t<=100000000),none,.tup [.st .shape (aa n t e).1,.agg [.int .i64 (aa n t e).2.err,.int .i64 (aa n t e).2.pos]],[]⟩)) (hF:aj Tryz.prog 93 (p3 (.st .term) (.st .shape) (.st .env) fun t w e=>⟨some (szT t<=n/\allT ak t=true/\e.values.length+4096 *szT t<=100000000),none,.agg [.int .i64 (aA (aa n) t w e).err,.int .i64 (aA (aa n) t w e).pos],[]⟩)):aj Tryz.prog 47 (p2 (.st .term) (.st .env) fun t e=>⟨some (0 < t.parts.length/\szT t<=n+1/\allT ak t=true/\e.values.length+4096 *szT t<=100000000),none,.tup [.st .shape (bU (aa n) t e).1,.agg [.int .i64 (bU (aa n) t e).2.err,.int .i64 (bU (aa n) t e).2.pos]],[]⟩):=
 cM DA fun t e ht he ho=>wu n t e ht he (ho _ rfl).1 (ho _ rfl).2.1 (ho _ rfl).2.2.1 (ho _ rfl).2.2.2 hA hF
theorem EL:aF Tryz.prog 50:=ee Tryz.func50
theorem yJ (n:Nat) (t:Trm) (e:Envt) (ht:Wf (.st .term) t) (he:Wf (.st .env) e) (hp:0 < t.parts.length) (hz:szT t<=n+1) (hf:allT ak t=true) (hv:e.values.length+4096 *szT t<=100000000) (hF:aj Tryz.prog 93 (p3 (.st .term) (.st .shape) (.st .env) fun t w e=>⟨some (szT t<=n/\allT ak t=true/\e.values.length+4096 *szT t<=100000000),none,.agg [.int .i64 (aA (aa n) t w e).err,.int .i64 (aA (aa n) t w e).pos],[]⟩)):aB Tryz.prog 50 [.st .term t,.st .env e] [] (⟨some (0 < t.parts.length/\szT t<=n+1/\allT ak t=true/\e.values.length+4096 *szT t<=100000000),none,.tup [.st .shape (cX (aa n) t e).1,.agg [.int .i64 (cX (aa n) t e).2.err,.int .i64 (cX (aa n) t e).2.pos]],[]⟩):=
 g0 (sc (hF) (sc jZ (sc dW sn))) ⟨[(4,fun S0=>⟨Nat × Option Shape,fun x=>x.1<=e.own.length/\(x.2=none→dt e.own t.name=dt (e.own.take x.1) t.name)/\(∀s,x.2=some s→dt e.own t.name=some s),fun x=>[(8,.int .i64 ((x.1:Int) - 1)),(7,.bool x.2.isSome)],fun x=>[(6,.box (.st .shape (x.2.elim an aO)))],fun x=>x.1⟩)],[],[]⟩ Tryz.func50 (EJ n t e ht he hp hz hf hv)
theorem DB (n:Nat) (hF:aj Tryz.prog 93 (p3 (.st .term) (.st .shape) (.st .env) fun t w e=>⟨some (szT t<=n/\allT ak t=true/\e.values.length+4096 *szT t<=100000000),none,.agg [.int .i64 (aA (aa n) t w e).err,.int .i64 (aA (aa n) t w e).pos],[]⟩)):aj Tryz.prog 50 (p2 (.st .term) (.st .env) fun t e=>⟨some (0 < t.parts.length/\szT t<=n+1/\allT ak t=true/\e.values.length+4096 *szT t<=100000000),none,.tup [.st .shape (cX (aa n) t e).1,.agg [.int .i64 (cX (aa n) t e).2.err,.int .i64 (cX (aa n) t e).2.pos]],[]⟩):=
 cM EL fun t e ht he ho=>yJ n t e ht he (ho _ rfl).1 (ho _ rfl).2.1 (ho _ rfl).2.2.1 (ho _ rfl).2.2.2 hF
theorem BM:aF Tryz.prog 51:=ee Tryz.func51
theorem tV (n:Nat) (t:Trm) (e:Envt) (ht:Wf (.st .term) t) (he:Wf (.st .env) e) (hk:t.kind=6∨t.kind=11∨t.kind=12∨t.kind=13∨t.kind=15) (hz:szT t<=n+1) (hf:allT ak t=true) (hv:e.values.length+4096 *szT t<=100000000) (hA:aj Tryz.prog 16 (p2 (.st .term) (.st .env) fun t e=>⟨some (szT t<=n/\allT ak t=true/\e.values.length+4096 *szT t<=100000000),none,.tup [.st .shape (aa n t e).1,.agg [.int .i64 (aa n t e).2.err,.int .i64 (aa n t e).2.pos]],[]⟩)) (hF:aj Tryz.prog 93 (p3 (.st .term) (.st .shape) (.st .env) fun t w e=>⟨some (szT t<=n/\allT ak t=true/\e.values.length+4096 *szT t<=100000000),none,.agg [.int .i64 (aA (aa n) t w e).err,.int .i64 (aA (aa n) t w e).pos],[]⟩)):aB Tryz.prog 51 [.st .term t,.st .env e] [] (⟨some ((t.kind=6∨t.kind=11∨t.kind=12∨t.kind=13∨t.kind=15)/\szT t<=n+1/\allT ak t=true/\e.values.length+4096 *szT t<=100000000),none,.tup [.st .shape (aJ (aa n) t e).1,.agg [.int .i64 (aJ (aa n) t e).2.err,.int .i64 (aJ (aa n) t e).2.pos]],[]⟩):=
 g0 (sc (hA) (sc (hF) (sc yI (sc tS (sc vR sn))))) ⟨[(8,fun S0=>⟨Nat × Envt,fun x=>x.1<=t.names.length/\x.2.values.length=e.values.length+x.1/\bL x.2 (eB (t.names.drop x.1) ((ae e.types t.pos t.shapes).1.drop x.1))=bL e (eB t.names (ae e.types t.pos t.shapes).1),fun x=>[(42,.int .i64 x.1)],fun x=>[(3,.box (.st .env x.2))],fun x=>t.names.length - x.1⟩),(16,fun S0=>⟨Nat,fun k=>k<=t.parts.length/\cE (aa n) e ((ae e.types t.pos t.shapes).1.getD 0 an) (t.parts.drop k)=cE (aa n) e ((ae e.types t.pos t.shapes).1.getD 0 an) t.parts,fun k=>[(77,.int .i64 k)],fun _=>[],fun k=>t.parts.length - k⟩),(37,fun S0=>⟨Nat × Flt,fun x=>x.1+1<=t.parts.length/\x.2.err=0/\x.2.pos=0/\fj (aa n) e ((ae e.types t.pos t.shapes).1.getD ((ae e.types t.pos t.shapes).1.length - 1) an) (t.parts.drop (x.1+1)) (t.vars.drop x.1) ((ae e.types t.pos t.shapes).1.drop x.1)=fj (aa n) e ((ae e.types t.pos t.shapes).1.getD ((ae e.types t.pos t.shapes).1.length - 1) an) (t.parts.drop 1) t.vars (ae e.types t.pos t.shapes).1,fun x=>[(180,.int .i64 x.1)],fun x=>[(7,.box (.agg [.int .i64 x.2.err,.int .i64 x.2.pos]))],fun x=>t.parts.length - x.1⟩)],[],[]⟩ Tryz.func51 (Br n t e ht he hk hz hf hv)
theorem yK (n:Nat) (hA:aj Tryz.prog 16 (p2 (.st .term) (.st .env) fun t e=>⟨some (szT t<=n/\allT ak t=true/\e.values.length+4096 *szT t<=100000000),none,.tup [.st .shape (aa n t e).1,.agg [.int .i64 (aa n t e).2.err,.int .i64 (aa n t e).2.pos]],[]⟩)) (hF:aj Tryz.prog 93 (p3 (.st .term) (.st .shape) (.st .env) fun t w e=>⟨some (szT t<=n/\allT ak t=true/\e.values.length+4096 *szT t<=100000000),none,.agg [.int .i64 (aA (aa n) t w e).err,.int .i64 (aA (aa n) t w e).pos],[]⟩)):aj Tryz.prog 51 (p2 (.st .term) (.st .env) fun t e=>⟨some ((t.kind=6∨t.kind=11∨t.kind=12∨t.kind=13∨t.kind=15)/\szT t<=n+1/\allT ak t=true/\e.values.length+4096 *szT t<=100000000),none,.tup [.st .shape (aJ (aa n) t e).1,.agg [.int .i64 (aJ (aa n) t e).2.err,.int .i64 (aJ (aa n) t e).2.pos]],[]⟩):=
 cM BM fun t e ht he ho=>tV n t e ht he (ho _ rfl).1 (ho _ rfl).2.1 (ho _ rfl).2.2.1 (ho _ rfl).2.2.2 hA hF
theorem BN:aF Tryz.prog 26:=ee Tryz.func26
theorem tW (n:Nat) (t:Trm) (e:Envt) (ht:Wf (.st .term) t) (he:Wf (.st .env) e) (hz:szT t<=n+1) (hf:allT ak t=true) (hv:e.values.length+4096 *szT t<=100000000) (hA:aj Tryz.prog 16 (p2 (.st .term) (.st .env) fun t e=>⟨some (szT t<=n/\allT ak t=true/\e.values.length+4096 *szT t<=100000000),none,.tup [.st .shape (aa n t e).1,.agg [.int .i64 (aa n t e).2.err,.int .i64 (aa n t e).2.pos]],[]⟩)) (hF:aj Tryz.prog 93 (p3 (.st .term) (.st .shape) (.st .env) fun t w e=>⟨some (szT t<=n/\allT ak t=true/\e.values.length+4096 *szT t<=100000000),none,.agg [.int .i64 (aA (aa n) t w e).err,.int .i64 (aA (aa n) t w e).pos],[]⟩)):aB Tryz.prog 26 [.st .term t,.st .env e] [] (⟨some (szT t<=n+1/\allT ak t=true/\e.values.length+4096 *szT t<=100000000),none,.tup [.st .shape (ao (aa n) t e).1,.agg [.int .i64 (ao (aa n) t e).2.err,.int .i64 (ao (aa n) t e).2.pos]],[]⟩):=
 g0 (sc (hA) (sc tS (sc dW (sc BI (sc vR (sc ((BL n hA hF)) (sc ((yH n hA)) (sc ((DB n hF)) (sc ((yK n hA hF)) sn))))))))) ⟨[(19,fun S0=>⟨Nat × List AL.Shape,fun x=>x.1<=t.parts.length/\x.2.length=x.1/\bV (aa n) e t.parts=(x.2++(bV (aa n) e (t.parts.drop x.1)).1,(bV (aa n) e (t.parts.drop x.1)).2),fun x=>[(67,.int .i64 x.1)],fun x=>[(8,.box (.agg [.int .i64 6,.str [],.str [],.lst .str t.names none,.lst (.st .shape) x.2 (some 701)])),(701,.tail (.st .shape) x.2.length)],fun x=>t.parts.length - x.1⟩)],[],[(7,fun S0=>⟨[(27,.bool (decide (t.kind=3) || decide (t.kind=4)))],[]⟩)]⟩ Tryz.func26 (Bt n t e ht he hz hf hv)
theorem sd:∀n:Nat,aj Tryz.prog 16 (p2 (.st .term) (.st .env) fun t e=>⟨some (szT t<=n/\allT ak t=true/\e.values.length+4096 *szT t<=100000000),none,.tup [.st .shape (aa n t e).1,.agg [.int .i64 (aa n t e).2.err,.int .i64 (aa n t e).2.pos]],[]⟩)
 | 0=>cM sb fun t e ht he ho=>absurd (szT_pos t) (by have:=(ho _ rfl).1;omega)
 | n+1=>
  have hA:=sd n
  have hF:=BJ n hA
  cM sb fun t e ht he ho=>tT n t e ht he (ho _ rfl).1 (ho _ rfl).2.1 (ho _ rfl).2.2 (cM BN fun t e ht he ho=>tW n t e ht he (ho _ rfl).1 (ho _ rfl).2.1 (ho _ rfl).2.2 hA hF)
theorem BO:aj Tryz.prog 7 (p2 (.st .term) (.st .env) fun t e=>⟨some (fewT t=true/\e.values.length<=1000000),none,.tup [.st .shape (bK t e).1,.agg [.int .i64 (bK t e).2.err,.int .i64 (bK t e).2.pos]],[]⟩):=
 cM (ee Tryz.func7) fun t e ht he ho=>g0 (sc yC (sc dW (sc ((sd (szT t))) sn))) a0 Tryz.func7 (Dr t e ht he (ho _ rfl))
theorem wv:aj Tryz.prog 5 (p1 (.st .term) fun t=>.ret (.bool (decide (dJ t 300<=300)))):=
 cu (ee Tryz.func5) fun t ht _=>g0 (sc (BF (szT t)) sn) a0 Tryz.func5 (yk t ht)
theorem kE (G:Trm→Envt→Shape × Flt) (N:Nat) (t:Trm) (e:Envt) (l:List AL.Shape) (ht:Wf (.st .term) t) (he:Wf (.st .env) e) (hl:Wf (.lst (.st .shape)) l) (hf:fewT t=true) (hN:sz (G t e).1<=N) (hB:¬(G t e).2.err=0→(G t e).1=an) (hw:(G t e).2.err=0→((G t (lj e l)).2.err=3∨(G t (lj e l)).2.err=91)∨((G t (lj e l)).2.err=0/\bH (G t (lj e l)).1 (G t e).1=true)) (hG:aj Tryz.prog 7 (p2 (.st .term) (.st .env) fun t e=>⟨some (fewT t=true/\e.values.length<=1000000),none,.tup [.st .shape (G t e).1,.agg [.int .i64 (G t e).2.err,.int .i64 (G t e).2.pos]],[]⟩)) (hW:aj Tryz.prog 6 (p0 (.ret (.bool true)))):aB Tryz.prog 3 [.st .term t,.st .env e,.lst (.st .shape) l none] [] (.ret (.bool true)):=
 g0 (sc vQ (sc wv (sc (hW) (sc (hG) (sc (yr N) (sc Bz sn)))))) ⟨[(9,fun S0=>⟨Nat × List Bndg,fun x=>x.1<=e.values.length/\x.2.length=x.1/\im e.values l=x.2++im (e.values.drop x.1) (l.drop x.1),fun x=>[(10,.int .i64 x.1)],fun x=>[(9,.box (.agg [.str e.self,.lst (.st .bind) e.types none,.lst (.st .bind) x.2 (some 701),.lst (.st .bind) e.own none])),(701,.tail (.st .bind) x.2.length)],fun x=>e.values.length - x.1⟩)],[],[]⟩ Tryz.func3 (mS G N t e l ht he hl hf hN hB hw)
end Go.AL.Seat
end
noncomputable section
namespace Go.AL
def evN {α:Type} (n:Nat) (k:Nat→α):α:=match n with | 0=>k 0 | m+1=>k (m+1)
def evI {α:Type} (n:Int) (k:Int→α):α:=match n with | .ofNat m=>evN m fun m=>k (.ofNat m) | .negSucc m=>evN m fun m=>k (.negSucc m)
def evL {α β:Type}:List β→(List β→α)→α
 | [],k=>k []
 | a ::r,k=>evL r fun r=>k (a ::r)
theorem iq {α:Type} (n:Nat) (k:Nat→α):evN n k=k n:=by cases n <;> rfl
theorem DC {α:Type} (n:Int) (k:Int→α):evI n k=k n:=by
 cases n <;> (unfold evI;exact iq _ _)
theorem fE {α β:Type}:∀(l:List β) (k:List β→α),evL l k=k l
 | [],_=>rfl
 | a ::r,k=>by rw [evL,fE r]
mutual
def evV {α:Type}:AV→(AV→α)→α
 | .int κ n,k=>evI n fun n=>k (.int κ n)
 | .bool true,k=>k (.bool true)
 | .bool false,k=>k (.bool false)
 | .str s,k=>evL s fun s=>k (.str s)
 | .lst τ xs none,k=>evL xs fun xs=>k (.lst τ xs none)
 | .lst τ xs (some i),k=>evL xs fun xs=>k (.lst τ xs (some i))
 | .row τ xs,k=>evL xs fun xs=>k (.row τ xs)
 | .arr i n w,k=>evN n fun n=>k (.arr i n w)
 | .aptr i n w o,k=>evN n fun n=>evN o fun o=>k (.aptr i n w o)
 | .cptr c,k=>evV c fun c=>k (.cptr c)
 | .agg cs,k=>evVs cs fun cs=>k (.agg cs)
 | .tup cs,k=>evVs cs fun cs=>k (.tup cs)
 | .fn f cs,k=>evVs cs fun cs=>k (.fn f cs)
 | .iface t a,k=>evV a fun a=>k (.iface t a)
 | .lstp τ xs i,k=>evL xs fun xs=>k (.lstp τ xs i)
 | .undef,k=>k .undef
 | .nils,k=>k .nils
 | .ptr i o,k=>k (.ptr i o)
 | .nilp,k=>k .nilp
 | .st n x,k=>k (.st n x)
 | .map i,k=>k (.map i)
 | .bptr i,k=>k (.bptr i)
 | .nilif,k=>k .nilif
 | .nilm,k=>k .nilm
 | .pt n x,k=>k (.pt n x)
 | .tptr τ n i,k=>k (.tptr τ n i)
def evVs {α:Type}:List AV→(List AV→α)→α
 | [],k=>k []
 | a ::r,k=>evV a fun a=>evVs r fun r=>k (a ::r)
end
mutual
theorem evV_eq {α:Type}:∀(a:AV) (k:AV→α),evV a k=k a
 | .int κ n,k=>by rw [evV,DC]
 | .bool true,k=>rfl
 | .bool false,k=>rfl
 | .str s,k=>by rw [evV,fE]
 | .lst τ xs none,k=>by rw [evV,fE]
 | .lst τ xs (some i),k=>by rw [evV,fE]
 | .row τ xs,k=>by rw [evV,fE]
 | .arr i n w,k=>by rw [evV,iq]
 | .aptr i n w o,k=>by rw [evV,iq,iq]
 | .cptr c,k=>by rw [evV,evV_eq c]
 | .agg cs,k=>by rw [evV,evVs_eq cs]
 | .tup cs,k=>by rw [evV,evVs_eq cs]
 | .fn f cs,k=>by rw [evV,evVs_eq cs]
 | .iface t a,k=>by rw [evV,evV_eq a]
 | .lstp τ xs i,k=>by rw [evV,fE]
 | .undef,k=>rfl
 | .nils,k=>rfl
 | .ptr _ _,k=>rfl
 | .nilp,k=>rfl
 | .st _ _,k=>rfl
 | .map _,k=>rfl
 | .bptr _,k=>rfl
 | .nilif,k=>rfl
 | .nilm,k=>rfl
 | .pt _ _,k=>rfl
 | .tptr _ _ _,k=>rfl
theorem evVs_eq {α:Type}:∀(l:List AV) (k:List AV→α),evVs l k=k l
 | [],k=>rfl
 | a ::r,k=>by rw [evVs,evV_eq a,evVs_eq r]
end
def evA {α:Type} (a:AV) (k:AV→α):α:=
 match a with
 | .int κ n=>evI n fun n=>k (.int κ n)
 | .bool b=>(match b with | true=>k (.bool true) | false=>k (.bool false))
 | .str s=>evL s fun s=>k (.str s)
 | .lst τ xs o=>evL xs fun xs=>(match o with | none=>k (.lst τ xs none) | some i=>k (.lst τ xs (some i)))
 | .row τ xs=>evL xs fun xs=>k (.row τ xs)
 | .arr i n w=>evN n fun n=>k (.arr i n w)
 | .aptr i n w o=>evN n fun n=>evN o fun o=>k (.aptr i n w o)
 | .ptr i o=>evN o fun o=>k (.ptr i o)
 | .cptr c=>evV c fun c=>k (.cptr c)
 | .agg cs=>evVs cs fun cs=>k (.agg cs)
 | .tup cs=>evVs cs fun cs=>k (.tup cs)
 | .fn f cs=>evVs cs fun cs=>k (.fn f cs)
 | .iface t a=>evV a fun a=>k (.iface t a)
 | .lstp τ xs i=>evL xs fun xs=>k (.lstp τ xs i)
 | a=>k a
theorem FE {α:Type} (a:AV) (k:AV→α):evA a k=k a:=by
 unfold evA
 split
 ·exact DC _ _
 ·split <;> rfl
 ·exact fE _ _
 ·rw [fE];split <;> rfl
 ·exact fE _ _
 ·exact iq _ _
 ·rw [iq,iq]
 ·exact iq _ _
 ·exact evV_eq _ _
 ·exact evVs_eq _ _
 ·exact evVs_eq _ _
 ·exact evVs_eq _ _
 ·exact evV_eq _ _
 ·exact fE _ _
 ·rfl
def evO {α:Type}:SObj→(SObj→α)→α
 | .box c,k=>evV c fun c=>k (.box c)
 | .tail τ n,k=>evN n fun n=>k (.tail τ n)
 | .map κ τ m,k=>evL m fun m=>k (.map κ τ m)
 | .bld t u l,k=>evL l fun l=>k (.bld t u l)
 | .tailp τ n x,k=>evN n fun n=>k (.tailp τ n x)
theorem FF {α:Type} (o:SObj) (k:SObj→α):evO o k=k o:=by
 cases o with
 | box c=>exact evV_eq _ _
 | tail τ n=>unfold evO;exact iq _ _
 | map κ τ m=>exact fE _ _
 | bld t u l=>exact fE _ _
 | tailp τ n x=>unfold evO;exact iq _ _
def evB {α:Type}:List (Nat × SObj)→(List (Nat × SObj)→α)→α
 | [],k=>k []
 | (i,o) ::r,k=>evO o fun o=>evB r fun r=>k ((i,o) ::r)
theorem tX {α:Type}:∀(l:List (Nat × SObj)) (k:List (Nat × SObj)→α),evB l k=k l
 | [],k=>rfl
 | (i,o) ::r,k=>by rw [evB,FF,tX r]
def evS {α:Type} (s:St) (k:St→α):α:=evL s.t fun t=>evB s.b fun b=>k ⟨t,b⟩
theorem DD {α:Type} (s:St) (k:St→α):evS s k=k s:=by rw [evS,fE,tX]
theorem BP {ob:Option DP} {q:Prop} (h:okO ob=true) (hq:q):rh ob q:=by
 cases ob with
 | none=>exact hq
 | some d=>exact ⟨d.h h,hq⟩
def zC {α:Sort _} (ops:List Oper) (o:Oper) (T:Nat→AV) (bad:α) (on off:Unit→α):α:=
 match o.guard with
 | none=>on ()
 | some (j,want)=>
  match (nth ops j).bind (·.dst) with
  | none=>bad
  | some d=>
   match T d with
   | .bool true=>if want then on () else off ()
   | .bool false=>if want then off () else on ()
   | .tup []=>off ()
   | _=>bad
theorem yL {α:Type} {ops:List Oper} {o:Oper} {T:Nat→AV} {y:α} {on off:Unit→Option α} {on' off':Unit→Prop} (hon:on ()=some y→on' ()) (hoff:off ()=some y→off' ())
  (h:zC ops o T none on off=some y):zC ops o T False on' off':=by
 unfold zC at h ⊢
 cases hg:o.guard with
 | none=>simp only [hg] at h ⊢;exact hon h
 | some p=>
  obtain ⟨j,want⟩:=p
  simp only [hg] at h ⊢
  cases hd:(nth ops j).bind (·.dst) with
  | none=>simp only [hd] at h;cases h
  | some d=>
   simp only [hd] at h ⊢
   generalize T d=v at h ⊢
   split at h
   ·split at h
    ·rename_i hw;exact (if_pos hw).symm ▸ hon h
    ·rename_i hw;exact (if_neg hw).symm ▸ hoff h
   ·split at h
    ·rename_i hw;exact (if_pos hw).symm ▸ hoff h
    ·rename_i hw;exact (if_neg hw).symm ▸ hon h
   ·exact hoff h
   ·cases h
def gdB (ops:List Oper) (g:Bool) (i:Nat):Bool:=match g with | true=>fG ops i | false=>false
def DE (ops:List Oper):Bool:=ops.any fun o=>o.guard.isSome
theorem FH (ops:List Oper) (i:Nat):gdB ops (DE ops) i=fG ops i:=by
 unfold gdB
 cases h:DE ops with
 | true=>rfl
 | false=>
  show false=fG ops i
  symm
  unfold DE at h
  rw [List.any_eq_false] at h
  unfold fG
  rw [List.any_eq_false]
  intro o ho
  have:=h o ho
  cases hg:o.guard with
  | none=>simp
  | some x=>rw [hg] at this;exact absurd rfl this
def wx (C:Cfg) (ops:List Oper) (g:Bool):List Oper→Nat→St→List du→Option (St × List du)
 | [],_,s,fs=>some (s,fs.reverse)
 | o ::r,i,s,fs=>
  zC ops o (bg s.t) none
   (fun _=>
    match aL C o (bg s.t) (ax s.b) with
    | none=>none
    | some e=>
     match okO e.ob,dy C o (bg s.t) (ax s.b) with
     | true,none=>
      (match gdB ops g i,e.val with
      | true,.bool b=>(match b with
       | true=>wx C ops g r (i+1) ⟨nV s.t o.dst (.bool true),cv s.b e.upd⟩ ((aY C o (bg s.t) (ax s.b),e.upd.map (·.1)) ::fs)
       | false=>wx C ops g r (i+1) ⟨nV s.t o.dst (.bool false),cv s.b e.upd⟩ ((aY C o (bg s.t) (ax s.b),e.upd.map (·.1)) ::fs))
      | true,_=>none
      | false,v=>evA v fun v=>wx C ops g r (i+1) ⟨nV s.t o.dst v,cv s.b e.upd⟩ ((aY C o (bg s.t) (ax s.b),e.upd.map (·.1)) ::fs))
     | _,_=>none)
   (fun _=>wx C ops g r (i+1) ⟨nV s.t o.dst (.tup []),s.b⟩ (([],[]) ::fs))
theorem zD {C:Cfg} {ops:List Oper} {draw:Bool} {kp:AV→St→Prop} {k:St→List du→Prop} {s':St} {fs':List du} (hk:k s' fs') :
  ∀(l:List Oper) (i:Nat) (s:St) (fs:List du),wx C ops (DE ops) l i s fs=some (s',fs')→bS C ops draw kp l i s fs k
 | [],_,s,fs,h=>by
  simp only [wx,Xs,Prod.mk.injEq] at h
  obtain ⟨rfl,rfl⟩:=h
  exact hk
 | o ::r,i,s,fs,h=>by
  have ih:=zD (C:=C) (ops:=ops) (draw:=draw) (kp:=kp) hk r
  rw [wx,FH] at h
  refine yL (on':=fun _=>
   match aL C o (bg s.t) (ax s.b) with
   | none=>False
   | some e=>
    rh e.ob
    (match dy C o (bg s.t) (ax s.b) with
    | none=>
     (match fG ops i,e.val with
     | true,.bool b=>
      sp b (bS C ops draw kp r (i+1) (s.put o.dst {e with val:=.bool true}) ((aY C o (bg s.t) (ax s.b),e.upd.map (·.1)) ::fs) k)
       (bS C ops draw kp r (i+1) (s.put o.dst {e with val:=.bool false}) ((aY C o (bg s.t) (ax s.b),e.upd.map (·.1)) ::fs) k)
     | true,_=>False
     | false,_=>bS C ops draw kp r (i+1) (s.put o.dst e) ((aY C o (bg s.t) (ax s.b),e.upd.map (·.1)) ::fs) k)
    | some (b,pv,u)=>
     (match draw || fG ops i with
     | true=>False
     | false=>sp b (kp pv ⟨s.t,cv s.b u⟩) (bS C ops draw kp r (i+1) (s.put o.dst e) ((aY C o (bg s.t) (ax s.b),e.upd.map (·.1)) ::fs) k))))
   (off':=fun _=>bS C ops draw kp r (i+1) ⟨nV s.t o.dst (.tup []),s.b⟩ (([],[]) ::fs) k) ?_ (fun h=>ih _ _ _ h) h
  intro h
  split at h
  ·cases h
  ·rename_i e he
   split at h
   ·rename_i ho hp
    refine BP ho ?_
    try simp only [hp]
    split at h
    ·rename_i b hg hv
     try simp only [hg,hv]
     split at h
     ·exact ih _ _ _ h
     ·exact ih _ _ _ h
    ·cases h
    ·rename_i v hg
     simp only [FE] at h
     try simp only [hg]
     exact ih _ _ _ h
   ·cases h
def EM (ops:List Oper) (i j:Nat):Bool:=((sC ops).getD j 0).testBit i
def kS:Nat→List du→List (Nat × du)
 | _,[]=>[]
 | i,f ::r=>match f with | ([],[])=>kS (i+1) r | f=>(i,f) ::kS (i+1) r
def mV (ops:List Oper):List (Nat × du)→Bool
 | []=>true
 | x ::r=>r.all (fun p=>EM ops x.1 p.1 || gE x.2 p.2) && mV ops r
def zE (ops:List Oper):Bool:=
 ((List.range ops.length).all fun j=>(List.range j).all fun i=>EM ops i j || (match nth ops i,nth ops j with | some x,some y=>oH ops x y | _,_=>false)) &&
 (ops.zipIdx.all fun (o,j)=>o.after.all fun e=>!Region.binds .any e || Nat.blt e.on j)
def yM (ops:List Oper) (fs:List du):Bool:=zE ops && eL fs ops.length && mV ops (kS 0 fs)
theorem qw {α:Type}:∀{l:List α} {i:Nat},i < l.length→∃x,nth l i=some x
 | a ::_,0,_=>⟨a,rfl⟩
 | _ ::r,i+1,h=>qw (l:=r) (Nat.lt_of_succ_lt_succ h)
theorem se:∀{fs:List du} {i0 k:Nat} {f:du},nth fs k=some f→f≠([],[])→(i0+k,f)∈kS i0 fs
 | g ::r,i0,0,f,h,hf=>by
  cases h
  unfold kS
  split
  ·exact absurd rfl hf
  ·exact List.mem_cons_self ..
 | g ::r,i0,k+1,f,h,hf=>by
  have ih:=se (fs:=r) (i0:=i0+1) (k:=k) h hf
  rw [show i0+(k+1)=i0+1+k by omega]
  unfold kS
  split
  ·exact ih
  ·exact List.mem_cons_of_mem _ ih
theorem nS {ops:List Oper}:∀{fs:List du} {i0 a b:Nat} {f g:du},mV ops (kS i0 fs)=true→a < b→nth fs a=some f→nth fs b=some g→f≠([],[])→g≠([],[])→(EM ops (i0+a) (i0+b) || gE f g)=true
 | x ::r,i0,0,b+1,f,g,h,_,hf,hg,h1,h2=>by
  cases hf
  have hm:=se (fs:=r) (i0:=i0+1) (k:=b) hg h2
  unfold kS at h
  split at h
  ·exact absurd rfl h1
  ·unfold mV at h
   rw [Bool.and_eq_true,List.all_eq_true] at h
   have:=h.1 _ hm
   rwa [show i0+1+b=i0+(b+1) by omega] at this
 | x ::r,i0,a+1,b+1,f,g,h,hab,hf,hg,h1,h2=>by
  have hr:mV ops (kS (i0+1) r)=true:=by
   unfold kS at h
   split at h
   ·exact h
   ·unfold mV at h
    rw [Bool.and_eq_true] at h
    exact h.2
  have:=nS (fs:=r) (i0:=i0+1) (a:=a) (b:=b) hr (by omega) hf hg h1 h2
  rwa [show i0+1+a=i0+(a+1) by omega,show i0+1+b=i0+(b+1) by omega] at this
theorem yN (g:du):gE ([],[]) g=true:=by
 unfold gE ue
 simp
theorem wy (f:du):gE f ([],[])=true:=by
 unfold gE ue
 simp
theorem mf {α:Type}:∀{l:List α} {n:Nat},eL l n=true→l.length=n
 | [],0,_=>rfl
 | _ ::r,n+1,h=>by rw [List.length_cons,mf (l:=r) h]
theorem BQ {ops:List Oper} {fs:List du} (h:yM ops fs=true):ed ops fs=true:=by
 unfold yM zE at h
 simp only [Bool.and_eq_true,List.all_eq_true,List.mem_range] at h
 obtain ⟨⟨⟨h1,h2⟩,h3⟩,h4⟩:=h
 have hl:=mf h3
 unfold ed
 rw [Bool.and_eq_true]
 refine ⟨?_,by rw [List.all_eq_true];intro p hp;have:=h2 p hp;exact (by obtain ⟨o,j⟩:=p;simpa using this)⟩
 rw [List.all_eq_true]
 intro j hj
 rw [List.all_eq_true]
 intro i hi
 rw [List.mem_range] at hj hi
 have k:=h1 j hj i hi
 rw [Bool.or_eq_true] at k ⊢
 rcases k with k | k
 ·exact .inl k
 obtain ⟨x,hx⟩:=qw (l:=ops) (i:=i) (by omega)
 obtain ⟨y,hy⟩:=qw (l:=ops) (i:=j) hj
 obtain ⟨f,hf⟩:=qw (l:=fs) (i:=i) (by omega)
 obtain ⟨g,hg⟩:=qw (l:=fs) (i:=j) (by omega)
 rw [hx,hy] at k
 rw [hx,hy,hf,hg]
 have q:EM ops i j=true∨gE f g=true:=by
  by_cases c1:f=([],[])
  ·rw [c1];exact .inr (yN g)
  ·by_cases c2:g=([],[])
   ·rw [c2];exact .inr (wy f)
   ·have:=nS h4 hi hf hg c1 c2
    rw [Nat.zero_add,Nat.zero_add,Bool.or_eq_true] at this
    exact this
 rcases q with q | q
 ·exact .inl q
 ·exact .inr (by rw [Bool.and_eq_true];exact ⟨k,q⟩)
end Go.AL
end
noncomputable section
namespace Go.AL
variable [Tabs]
def DF:List (Nat × SObj)→Nat→Nat
 | [],m=>m *1000+998
 | (i,_) ::r,m=>DF r (match Nat.ble m (i / 1000) with | true=>i / 1000+1 | false=>m)
def tY:List Nat→St→Option St
 | [],s=>some s
 | i ::r,s=>(match E0 i (DF s.b 100) s with | some s=>tY r s | none=>none)
theorem mg {F:Fr} {a:Act}:∀(l:List Nat) {s s':St} {Ω:Om},Holds F s.abs a Ω→tY l s=some s'→∃Ω',Ω'.w=Ω.w/\Holds F s'.abs a Ω'
 | [],s,s',Ω,h,hr=>by cases hr;exact ⟨Ω,rfl,h⟩
 | i ::r,s,s',Ω,h,hr=>by
  unfold tY at hr
  split at hr
  ·rename_i s1 h1
   obtain ⟨Ω1,e1,g1⟩:=pB h h1
   obtain ⟨Ω2,e2,g2⟩:=mg r g1 hr
   exact ⟨Ω2,e2.trans e1,g2⟩
  ·cases hr
def yO (ops:List Oper) (s:St):Option St:=
 match enter ops s with
 | some s'=>some s'
 | none=>(match tY ((s.b.map (·.1)).filter fun i=>z8 (oJ ops) (sD ops) i && !bF i) s with | some s'=>enter ops s' | none=>none)
theorem tZ {F:Fr} {ops:List Oper} {s s':St} {a:Act} {Ω:Om} (h:Holds F s.abs a Ω) (he:yO ops s=some s'):∃Ω',Ω'.w=Ω.w/\Holds F s'.abs a Ω':=by
 unfold yO at he
 split at he
 ·rename_i s1 h1;cases he;exact jL h h1
 ·split at he
  ·rename_i s1 h1
   obtain ⟨Ω1,e1,g1⟩:=mg _ h h1
   obtain ⟨Ω2,e2,g2⟩:=jL g1 he
   exact ⟨Ω2,e2.trans e1,g2⟩
  ·cases he
end Go.AL
end
noncomputable section
namespace Go.AL
def DG (k:Nat) (s:St):Option St:=
 match ax s.b k with
 | some (.tailp τ n x)=>
  if ((s.t.flatMap (fun y=>lensV k y.2)++s.b.flatMap (fun y=>ES k y.2)).all fun m=>Nat.beq m n)=true then
   some ⟨s.t.map fun y=>(y.1,finV k τ x y.2),(nU s.b k (.tail τ (n+1))).map fun y=>(y.1,zO k τ x y.2)⟩ else none
 | _=>some s
def zF:List Nat→St→Option St
 | [],s=>some s
 | k ::r,s=>(match DG k s with | some s=>zF r s | none=>none)
theorem sf {n:Nat} {q:Prop} (hq:q):∀l:List Nat,(l.all fun m=>Nat.beq m n)=true→sE n l q
 | [],_=>hq
 | m ::r,h=>by
  rw [List.all_cons,Bool.and_eq_true] at h
  exact ⟨Nat.eq_of_beq_eq_true h.1,sf hq r h.2⟩
theorem DH {k:Nat} {s s':St} {Q:St→Prop} (h:DG k s=some s') (hq:Q s'):wO k s Q:=by
 unfold DG at h
 unfold wO
 generalize hb:ax s.b k=b at h ⊢
 cases b with
 | none=>cases h;exact hq
 | some o=>
  cases o with
  | tailp τ n x=>
   dsimp only at h ⊢
   split at h
   ·rename_i ha
    cases h
    exact sf hq _ ha
   ·cases h
  | _=>cases h;exact hq
theorem wz {Q:St→Prop} {s':St} (hq:Q s'):∀(l:List Nat) (s:St),zF l s=some s'→wP l s Q
 | [],s,h=>by cases h;exact hq
 | k ::r,s,h=>by
  unfold zF at h
  split at h
  ·rename_i s1 h1
   exact DH h1 (wz hq r s1 h)
  ·cases h
def trimM (keep:Nat) (s:St):St:=⟨s.t.filter fun x=>Nat.beq (Nat.land (Nat.shiftRight keep x.1) 1) 1,s.b⟩
def FI (C:Cfg) (keep:Nat) (ops:Array Oper) (draw:Bool) (s:St):Option St:=
 match wx C ops.toList (DE ops.toList) ops.toList 0 s [] with
 | none=>none
 | some (s,fs)=>
  match zF (oe s.b) s with
  | none=>none
  | some s=>
   match draw with
   | false=>evS (trimM keep s) some
   | true=>(match yM ops.toList fs with | true=>evS (trimM keep s) some | false=>none)
theorem Holds.trimM [Tabs] {F:Fr} {s:St} {a:Act} {Ω:Om} (h:Holds F s.abs a Ω) (keep:Nat):Holds F (trimM keep s).abs a Ω:=by
 refine ⟨fun i=>?_,h.size,h.defers,h.slots,h.dom,h.inj,h.pubok,h.keep,h.frame⟩
 have e:(AL.trimM keep s).abs.T i=if Nat.beq (Nat.land (Nat.shiftRight keep i) 1) 1=true then bg s.t i else .undef:=gX s.t (fun i=>Nat.beq (Nat.land (Nat.shiftRight keep i) 1) 1) i
 rw [e]
 split
 ·exact h.tmps i
 ·exact .undef _
theorem yP [Tabs] {P:Program} {C:Cfg} {F:Fr} (hm:P.follows .mixedOrders=true) (hT:bj P C.tbl) (hS:bY P C.spec) {keep:Nat} {id:Nat} {ops:Array Oper} {draw:Bool} {s s':St} {a:Act} {Ω:Om}
  (hdst:∀(o:Oper),o∈ops.toList→∀d,o.dst=some d→d < F.n) (h:FI C keep ops draw s=some s') (hh:Holds F s.abs a Ω):(Code.region id ops draw).wp P (QL F fun y t=>y=.normal/\t=s') a Ω.w:=by
 have key:bS C ops.toList draw (fun _ _=>False) ops.toList 0 s [] fun s2 fs=>Fa s2 fun s3=>s'=trimM keep s3/\(draw=true→ed ops.toList fs=true):=by
  unfold FI at h
  split at h
  ·cases h
  ·rename_i s1 fs h1
   refine zD ?_ _ _ _ _ h1
   split at h
   ·cases h
   ·rename_i s2 h2
    refine wz ?_ _ _ h2
    split at h
    ·rw [DD] at h
     cases h
     exact ⟨rfl,fun q=>by cases q⟩
    ·split at h
     ·rename_i hi
      rw [DD] at h
      cases h
      exact ⟨rfl,fun _=>BQ hi⟩
     ·cases h
 refine lF hm hT hS hdst key (fun hdr s2 fs hk=>let ⟨s3,h3⟩:=mG _ hk;h3.2 hdr) hh (fun s2 fs a' Ω' hk h'=>
   let ⟨s3,Ω3,g1,g2,g3⟩:=pz h' hk
   ⟨.normal,trimM keep s3,Ω3,rfl,g1,g2.trimM keep,rfl,g3.1.symm⟩)
  (fun pv s2 a' Ω' v hk _ _=>hk.elim)
def zG (f:St→Option (SX × St)):Nat→St→Option (SX × St)
 | 0,_=>none
 | n+1,s=>
  match f s with
  | some (.normal,s')=>zG f n s'
  | r=>r
def iO (C:Cfg) (keep:Nat) (pubs:List (Nat × List Nat)) (N:Nat):Code→St→Option (SX × St)
 | .skip,s=>some (.normal,s)
 | .seq a b,s=>
  (match iO C keep pubs N a s with
  | some (.normal,s')=>iO C keep pubs N b s'
  | r=>r)
 | .cond c a b,s=>
  (match opd (bg s.t) c with
  | .bool true=>iO C keep pubs N a s
  | .bool false=>iO C keep pubs N b s
  | _=>none)
 | .block id c,s=>
  (match iO C keep pubs N c s with
  | some (.exit j,s')=>if j ==id then some (.normal,s') else some (.exit j,s')
  | r=>r)
 | .exit id,s=>some (.exit id,s)
 | .scope c,s=>iO C keep pubs N c s
 | .label _,s=>some (.normal,s)
 | .ret,s=>some (.ret,s)
 | .region id ops draw,s=>
  (match mq (ug pubs id) s with
  | none=>none
  | some s=>
   match yO ops.toList s with
   | none=>none
   | some s=>
    match FI C keep ops draw s with
    | some s=>some (.normal,s)
    | none=>none)
 | .loop c,s=>zG (iO C keep pubs N c) N s
 | _,_=>none
variable [Tabs]
variable {P:Program} {C:Cfg} {F:Fr}
theorem yQ (hm:P.follows .mixedOrders=true) (hT:bj P C.tbl) (hS:bY P C.spec) (keep:Nat) (pubs:List (Nat × List Nat)) (N:Nat) :
  ∀(c:Code) (s:St) (x:SX) (s':St) (a:Act) (Ω:Om),iO C keep pubs N c s=some (x,s')→bM F.n c=true→Holds F s.abs a Ω→c.wp P (QL F fun y t=>y=x/\t=s') a Ω.w:=by
 intro c
 induction c with
 | skip=>intro s x s' a Ω h _ hh;cases h;exact wp_skip ⟨.normal,s,Ω,rfl,rfl,hh,rfl,rfl⟩
 | region id ops draw=>
  intro s x s' a Ω h hd hh
  unfold iO at h
  split at h
  ·cases h
  ·rename_i s0 h0
   obtain ⟨Ω0,e0,g0⟩:=jb _ hh h0
   split at h
   ·cases h
   ·rename_i s1 h1
    obtain ⟨Ω1,e1,g1⟩:=tZ g0 h1
    have hdst:∀(o:Oper),o∈ops.toList→∀d,o.dst=some d→d < F.n:=by
     intro o ho d hod
     simp only [bM,List.all_eq_true] at hd
     have:=hd o ho
     rw [hod] at this
     simpa using this
    split at h
    ·rename_i s2 h2
     cases h
     rw [←e0,←e1]
     exact yP hm hT hS hdst h2 g1
    ·cases h
 | seq x y ihx ihy=>
  intro s z s' a Ω h hd hh
  simp only [bM,Bool.and_eq_true] at hd
  unfold iO at h
  cases h1:iO C keep pubs N x s with
  | none=>rw [h1] at h;cases h
  | some r=>
   obtain ⟨e1,s1⟩:=r
   rw [h1] at h
   refine wp_seq (wp_mono (ihx s e1 s1 a Ω h1 hd.1 hh) ?_)
   intro e a' w' hq
   obtain ⟨e2,s2,Ω',g1,g2,g3,g4,g5⟩:=hq
   subst g2 g4 g5
   cases e2 with
   | normal=>cases g1;exact ihy _ z s' a' Ω' h hd.2 g3
   | exit id=>cases g1;cases h;exact ⟨.exit id,_,Ω',rfl,rfl,g3,rfl,rfl⟩
   | ret=>cases g1;cases h;exact ⟨.ret,_,Ω',rfl,rfl,g3,rfl,rfl⟩
   | pan pv=>obtain ⟨v,rfl,hv⟩:=g1;cases h;exact ⟨.pan pv,_,Ω',⟨v,rfl,hv⟩,rfl,g3,rfl,rfl⟩
 | cond c x y ihx ihy=>
  intro s z s' a Ω h hd hh
  simp only [bM,Bool.and_eq_true] at hd
  unfold iO at h
  have hv:=bu hh c
  split at h
  ·rename_i hb
   have hb':opd s.abs.T c=.bool true:=hb
   rw [hb'] at hv
   exact wp_cond hv.bool_inv (ihx _ z s' a Ω h hd.1 hh)
  ·rename_i hb
   have hb':opd s.abs.T c=.bool false:=hb
   rw [hb'] at hv
   exact wp_cond hv.bool_inv (ihy _ z s' a Ω h hd.2 hh)
  ·cases h
 | block id c ih=>
  intro s z s' a Ω h hd hh
  simp only [bM] at hd
  unfold iO at h
  cases h1:iO C keep pubs N c s with
  | none=>rw [h1] at h;cases h
  | some r=>
   obtain ⟨e1,s1⟩:=r
   rw [h1] at h
   refine wp_block (wp_mono (ih s e1 s1 a Ω h1 hd hh) ?_)
   intro e a' w' hq
   obtain ⟨e2,s2,Ω',g1,g2,g3,g4,g5⟩:=hq
   subst g2 g4 g5
   cases e2 with
   | normal=>cases g1;cases h;exact ⟨.normal,_,Ω',rfl,rfl,g3,rfl,rfl⟩
   | ret=>cases g1;cases h;exact ⟨.ret,_,Ω',rfl,rfl,g3,rfl,rfl⟩
   | pan pv=>obtain ⟨v,rfl,hv⟩:=g1;cases h;exact ⟨.pan pv,_,Ω',⟨v,rfl,hv⟩,rfl,g3,rfl,rfl⟩
   | exit j=>
    cases g1
    simp only [xq,Exit.inBlock]
    by_cases hj:j=id
    ·subst hj
     simp only [beq_self_eq_true,if_true] at h
     cases h
     simp only [if_true]
     exact ⟨.normal,_,Ω',rfl,rfl,g3,rfl,rfl⟩
    ·simp only [beq_iff_eq,hj,if_false] at h
     cases h
     rw [if_neg hj]
     exact ⟨.exit j,_,Ω',rfl,rfl,g3,rfl,rfl⟩
 | loop c ih=>
  intro s z s' a Ω h hd hh
  simp only [bM] at hd
  unfold iO at h
  refine wp_loop_rounds N ?_
  have key:∀(n:Nat) (s:St) (a:Act) (Ω:Om),zG (iO C keep pubs N c) n s=some (z,s')→Holds F s.abs a Ω→Code.rounds P c (QL F fun y t=>y=z/\t=s') n a Ω.w:=by
   intro n
   induction n with
   | zero=>intro s a Ω h _;cases h
   | succ n ihn=>
    intro s a Ω h hh
    rw [rounds_succ]
    unfold zG at h
    cases h1:iO C keep pubs N c s with
    | none=>rw [h1] at h;cases h
    | some r=>
     obtain ⟨e1,s1⟩:=r
     rw [h1] at h
     refine wp_mono (ih s e1 s1 a Ω h1 hd hh) ?_
     intro e a' w' hq
     obtain ⟨e2,s2,Ω',g1,g2,g3,g4,g5⟩:=hq
     subst g2 g4 g5
     cases e2 with
     | normal=>cases g1;exact ihn _ a' Ω' h g3
     | exit id=>cases g1;cases h;exact ⟨.exit id,_,Ω',rfl,rfl,g3,rfl,rfl⟩
     | ret=>cases g1;cases h;exact ⟨.ret,_,Ω',rfl,rfl,g3,rfl,rfl⟩
     | pan pv=>obtain ⟨v,rfl,hv⟩:=g1;cases h;exact ⟨.pan pv,_,Ω',⟨v,rfl,hv⟩,rfl,g3,rfl,rfl⟩
  exact key N s a Ω h hh
 | exit id=>intro s x s' a Ω h _ hh;cases h;exact wp_exit ⟨.exit id,s,Ω,rfl,rfl,hh,rfl,rfl⟩
 | ret=>intro s x s' a Ω h _ hh;cases h;exact wp_ret ⟨.ret,s,Ω,rfl,rfl,hh,rfl,rfl⟩
 | rangeFunc g ps x y _ _=>intro s z s' a Ω h;cases h
 | scope c ih=>
  intro s z s' a Ω h hd hh
  simp only [bM] at hd
  unfold iO at h
  refine wp_scope_straight (wp_mono (ih s z s' a Ω h hd hh) ?_)
  intro e a' w' hq
  obtain ⟨e2,s2,Ω',h1,h2,h3,h4⟩:=hq
  cases e2 with
  | normal=>cases h1;exact ⟨.normal,_,Ω',rfl,h2,h3,h4⟩
  | exit id=>cases h1;exact ⟨.exit id,_,Ω',rfl,h2,h3,h4⟩
  | ret=>cases h1;exact ⟨.ret,_,Ω',rfl,h2,h3,h4⟩
  | pan pv=>obtain ⟨v,rfl,hv⟩:=h1;exact ⟨.pan pv,_,Ω',⟨v,rfl,hv⟩,h2,h3,h4⟩
 | label l=>intro s x s' a Ω h _ hh;cases h;exact wp_label ⟨.normal,s,Ω,rfl,rfl,hh,rfl,rfl⟩
 | goto l=>intro s z s' a Ω h;cases h
 | refuse why=>intro s z s' a Ω h;cases h
end Go.AL
end
noncomputable section
namespace Go.AL
variable [Tabs]
mutual
def fineV:AV→Bool
 | .lstp _ _ _=>false
 | .tptr _ _ _=>false
 | .cptr c=>fineV c
 | .agg cs=>fineVs cs
 | .tup cs=>fineVs cs
 | .fn _ cs=>fineVs cs
 | .iface _ a=>fineV a
 | _=>true
def fineVs:List AV→Bool
 | []=>true
 | a ::r=>fineV a && fineVs r
end
def F0:SObj→Bool
 | .box c=>fineV c
 | .tailp _ _ _=>false
 | _=>true
mutual
def strip:AV→AV
 | .lst τ xs _=>.lst τ xs none
 | .agg cs=>.agg (strips cs)
 | .tup cs=>.tup (strips cs)
 | a=>a
def strips:List AV→List AV
 | []=>[]
 | a ::r=>strip a ::strips r
end
theorem lk (τ:Ty) (xs:List (den τ)):fL τ τ xs=some xs:=by simp [fL]
theorem yR (n:SN) (x:SD n):jt n n x=some x:=by simp [jt]
theorem yS (n:SN) (x:Option (SD n)):mX n n x=some x:=by simp [mX]
theorem qx (a:AV):ri a a:=by cases a <;> trivial
mutual
theorem LeV_self (G:List Nat):∀a:AV,fineV a=true→LeV G a a
 | .undef,_=>bZ (by simp [LeF])
 | .int k n,_=>bZ (by simp [LeF])
 | .bool b,_=>bZ (by simp [LeF])
 | .str s,_=>bZ (by simp [LeF])
 | .lst τ xs o,_=>bZ (by simp [LeF,lk])
 | .nils,_=>bZ (by simp [LeF])
 | .ptr i o,_=>bZ (by simp [LeF])
 | .nilp,_=>bZ (by simp [LeF])
 | .pt n x,_=>bZ (by simp [LeF,yS])
 | .st n x,_=>bZ (by simp [LeF,yR])
 | .row τ xs,_=>bZ (by simp [LeF,lk])
 | .arr i n w,_=>bZ (by simp [LeF])
 | .aptr i n w o,_=>bZ (by simp [LeF])
 | .map i,_=>bZ (by simp [LeF])
 | .bptr i,_=>bZ (by simp [LeF])
 | .nilif,_=>bZ (by simp [LeF])
 | .nilm,_=>bZ (by simp [LeF])
 | .cptr c,h=>by simp only [fineV] at h;unfold LeV;exact ⟨qx c,LeV_self G c h⟩
 | .agg cs,h=>by simp only [fineV] at h;unfold LeV;exact LeL_self G cs h
 | .tup cs,h=>by simp only [fineV] at h;unfold LeV;exact LeL_self G cs h
 | .fn f cs,h=>by simp only [fineV] at h;unfold LeV;exact ⟨by simp,LeL_self G cs h⟩
 | .iface t a,h=>by simp only [fineV] at h;unfold LeV;exact ⟨by simp,LeV_self G a h⟩
 | .lstp _ _ _,h=>by cases h
 | .tptr _ _ _,h=>by cases h
theorem LeL_self (G:List Nat):∀l:List AV,fineVs l=true→LeL G l l
 | [],_=>by unfold LeL;trivial
 | a ::r,h=>by
  simp only [fineVs,Bool.and_eq_true] at h
  unfold LeL
  exact ⟨LeV_self G a h.1,LeL_self G r h.2⟩
end
mutual
theorem LeV_strip (G:List Nat):∀a:AV,fineV a=true→LeV G a (strip a)
 | .lst τ xs o,_=>by unfold strip;exact bZ (by simp [LeF,lk])
 | .agg cs,h=>by simp only [fineV] at h;unfold strip LeV;exact LeL_strip G cs h
 | .tup cs,h=>by simp only [fineV] at h;unfold strip LeV;exact LeL_strip G cs h
 | .undef,h=>LeV_self G _ h
 | .int k n,h=>LeV_self G _ h
 | .bool b,h=>LeV_self G _ h
 | .str s,h=>LeV_self G _ h
 | .nils,h=>LeV_self G _ h
 | .ptr i o,h=>LeV_self G _ h
 | .nilp,h=>LeV_self G _ h
 | .pt n x,h=>LeV_self G _ h
 | .st n x,h=>LeV_self G _ h
 | .row τ xs,h=>LeV_self G _ h
 | .arr i n w,h=>LeV_self G _ h
 | .aptr i n w o,h=>LeV_self G _ h
 | .map i,h=>LeV_self G _ h
 | .bptr i,h=>LeV_self G _ h
 | .nilif,h=>LeV_self G _ h
 | .nilm,h=>LeV_self G _ h
 | .cptr c,h=>LeV_self G _ h
 | .fn f cs,h=>LeV_self G _ h
 | .iface t a,h=>LeV_self G _ h
 | .lstp _ _ _,h=>by cases h
 | .tptr _ _ _,h=>by cases h
theorem LeL_strip (G:List Nat):∀l:List AV,fineVs l=true→LeL G l (strips l)
 | [],_=>by unfold strips LeL;trivial
 | a ::r,h=>by
  simp only [fineVs,Bool.and_eq_true] at h
  unfold strips LeL
  exact ⟨LeV_strip G a h.1,LeL_strip G r h.2⟩
end
theorem wA {G:List Nat} {s:St}:∀(l l':List AV) (k:Nat),LeL G l l'→(∀j,bg s.t (k+j)=l.getD j .undef)→LeT G s (da k l')
 | [],[],k,_,_=>trivial
 | a ::r,b ::r',k,h,hg=>by
  unfold LeL at h
  refine ⟨?_,wA r r' (k+1) h.2 fun j=>?_⟩
  ·have:=hg 0
   rw [Nat.add_zero] at this
   rw [this]
   exact h.1
  ·have:=hg (j+1)
   rw [show k+1+j=k+(j+1) by omega,this]
   rfl
 | [],_ ::_,_,h,_=>by unfold LeL at h;exact h.elim
 | _ ::_,[],_,h,_=>by unfold LeL at h;exact h.elim
theorem kc {G:List Nat} {s:St}:∀l:List (Nat × SObj),(∀x∈l,ax s.b x.1=some x.2/\F0 x.2=true)→LeB G s l
 | [],_=>trivial
 | (i,.box c) ::r,h=>by
  obtain ⟨h1,h2⟩:=h _ (List.mem_cons_self ..)
  refine ⟨?_,kc r fun x hx=>h x (List.mem_cons_of_mem _ hx)⟩
  simp only at h1
  rw [h1]
  exact ⟨qx c,LeV_self G c h2⟩
 | (i,.tail τ n) ::r,h=>by
  obtain ⟨h1,h2⟩:=h _ (List.mem_cons_self ..)
  refine ⟨?_,kc r fun x hx=>h x (List.mem_cons_of_mem _ hx)⟩
  simp only at h1
  rw [h1]
  simp
 | (i,.map κ τ m) ::r,h=>by
  obtain ⟨h1,h2⟩:=h _ (List.mem_cons_self ..)
  refine ⟨?_,kc r fun x hx=>h x (List.mem_cons_of_mem _ hx)⟩
  simp only at h1
  rw [h1]
  simp [zc]
 | (i,.bld t u l) ::r,h=>by
  obtain ⟨h1,h2⟩:=h _ (List.mem_cons_self ..)
  refine ⟨?_,kc r fun x hx=>h x (List.mem_cons_of_mem _ hx)⟩
  simp only at h1
  rw [h1]
  simp
 | (i,.tailp τ n x) ::r,h=>by
  obtain ⟨h1,h2⟩:=h _ (List.mem_cons_self ..)
  cases h2
end Go.AL
end
noncomputable section
namespace Go.AL
def nT (S:List (Nat × SObj)) (x:Nat × SObj):Bool:=match ax S x.1 with | some o=>eqO o x.2 | none=>false
def DI:List AV→AV
 | [a]=>a
 | l=>.tup l
def DJ (s:St) (l:List AV):List (Nat × SObj):=
 s.b.filter fun x=>bF x.1 || (iz (ax s.b) 64 (ids.idsL l++(aT s.b).filter bF) []).contains x.1
def FJ:Bool→List AV→List AV
 | true,l=>l
 | false,l=>strips l
def DK (tok:Bool) (S:List (Nat × SObj)) (s:St) (l:List AV):Option Ans:=
 evVs (FJ tok l) fun l'=>evB (DJ s l') fun kept=>
  match fineVs l && (kept.all (fun x=>F0 x.2)) && bh (aT s.b) && (aT S).all (fun i=>(aT kept).contains i) &&
    (dK ((aT s.b).filter fun i=>!(aT kept).contains i) ⟨da 0 l',kept⟩ && ((aT s.b).filter fun i=>!(aT kept).contains i).all (fun i=>!bF i)) with
  | true=>some ⟨none,none,DI l',kept.filter fun x=>!nT S x⟩
  | false=>none
theorem ou:∀{l:List (Nat × SObj)},bh (aT l)=true→∀{i:Nat} {o:SObj},(i,o)∈l→ax l i=some o
 | [],_,_,_,h=>by cases h
 | (j,u) ::r,hd,i,o,h=>by
  simp only [aT,List.map_cons,bh,Bool.and_eq_true,Bool.not_eq_true',List.contains_eq_mem,decide_eq_false_iff_not] at hd
  rcases List.mem_cons.1 h with e | e
  ·cases e;simp [aZ,aU]
  ·have hne:¬j=i:=fun q=>hd.1 (List.mem_map.2 ⟨_,e,q.symm⟩)
   simp only [aZ,aU,beq_iff_eq,hne,if_false]
   exact ou hd.2 e
theorem fY (p:Nat × SObj→Bool):∀{l:List (Nat × SObj)},bh (aT l)=true→bh (aT (l.filter p))=true
 | [],_=>rfl
 | x ::r,hd=>by
  simp only [aT,List.map_cons,bh,Bool.and_eq_true,Bool.not_eq_true',List.contains_eq_mem,decide_eq_false_iff_not] at hd
  have ih:=fY p hd.2
  rw [List.filter_cons]
  split
  ·simp only [aT,List.map_cons,bh,Bool.and_eq_true,Bool.not_eq_true',List.contains_eq_mem,decide_eq_false_iff_not]
   refine ⟨fun h=>hd.1 ?_,ih⟩
   obtain ⟨y,hy,e⟩:=List.mem_map.1 h
   exact List.mem_map.2 ⟨y,(List.mem_filter.1 hy).1,e⟩
  ·exact ih
variable [Tabs]
theorem DL {l:List (Nat × SObj)} {i:Nat} (h:ax l i=none):i∉aT l:=iH l i h
theorem qy {l:List (Nat × SObj)} {i:Nat} (h:i∉aT l):ax l i=none:=by
 cases hb:ax l i with
 | none=>rfl
 | some o=>exact absurd (List.mem_map.2 ⟨(i,o),cJ l i o hb,rfl⟩) h
theorem EN {S kept:List (Nat × SObj)} (hd:bh (aT kept)=true) (hS:∀i∈aT S,i∈aT kept):ax (cv S (kept.filter fun x=>!nT S x))=ax kept:=by
 funext i
 have hdf:=fY (fun x=>!nT S x) hd
 rw [mL _ S i hdf]
 cases hk:ax kept i with
 | some o=>
  have hm:=cJ kept i o hk
  cases hs:nT S (i,o) with
  | false=>
   have:(i,o)∈kept.filter fun x=>!nT S x:=List.mem_filter.2 ⟨hm,by rw [hs];rfl⟩
   rw [ou hdf this]
   rfl
  | true=>
   have hn:ax (kept.filter fun x=>!nT S x) i=none:=by
    cases hb:ax (kept.filter fun x=>!nT S x) i with
    | none=>rfl
    | some o'=>
     have h1:=List.mem_filter.1 (cJ _ i o' hb)
     have h2:=ou hd h1.1
     rw [hk] at h2
     cases h2
     have h3:=h1.2
     rw [hs] at h3
     cases h3
   rw [hn]
   unfold nT at hs
   split at hs
   ·rename_i o' ho'
    simp only at ho' hs
    rw [ho',BY hs]
    rfl
   ·cases hs
 | none=>
  have h1:i∉aT kept:=DL hk
  rw [qy (l:=S) fun h=>h1 (hS i h),qy fun h=>h1 ?_]
  ·rfl
  ·obtain ⟨y,hy,e⟩:=List.mem_map.1 h
   exact List.mem_map.2 ⟨y,(List.mem_filter.1 hy).1,e⟩
theorem qz {G:List Nat}:∀{l m:List AV},LeL G l m→l.length=m.length
 | [],[],_=>rfl
 | _ ::_,_ ::_,h=>by unfold LeL at h;rw [List.length_cons,List.length_cons,qz h.2]
 | [],_ ::_,h=>by unfold LeL at h;exact h.elim
 | _ ::_,[],h=>by unfold LeL at h;exact h.elim
theorem BR {tok:Bool} {S:List (Nat × SObj)} {s:St} {l:List AV} {A:Ans} (h:DK tok S s l=some A) :
  A.ob=none/\A.pan=none/\∃l' kept,A.val=DI l'/\l'.length=l.length/\LeS ⟨da 0 l,s.b⟩ ⟨da 0 l',kept⟩/\ax (cv S A.upd)=ax kept:=by
 unfold DK at h
 rw [evVs_eq,tX] at h
 split at h
 ·rename_i hc
  cases h
  simp only [Bool.and_eq_true,List.all_eq_true] at hc
  obtain ⟨⟨⟨⟨h1,h2⟩,h3⟩,h4⟩,h5,h6⟩:=hc
  refine ⟨rfl,rfl,FJ tok l,DJ s (FJ tok l),rfl,?_,⟨?_,?_,?_⟩,?_⟩
  ·cases tok with
   | true=>rfl
   | false=>exact (qz (LeL_strip [] l h1)).symm
  ·rw [if_pos]
   ·trivial
   ·rw [Bool.and_eq_true,List.all_eq_true]
    exact ⟨h5,h6⟩
  ·refine wA l _ 0 ?_ fun j=>?_
   ·cases tok with
    | true=>exact LeL_self _ l h1
    | false=>exact LeL_strip _ l h1
   ·show bg (da 0 l) (0+j)=_
    rw [fB]
    simp
  ·refine kc _ fun x hx=>⟨?_,h2 x hx⟩
   exact ou h3 (List.mem_filter.1 hx).1
  ·refine EN (fY _ h3) fun i hi=>?_
   have:=h4 i hi
   rwa [List.contains_eq_mem,decide_eq_true_eq] at this
 ·cases h
structure FB where
 body:Code
 n:Nat
 res:List ResultVar
 keep:Nat
 pubs:List (Nat × List Nat)
 pend:Nat→Bool
 rows:Nat→Bool
 same:Nat→Bool
 tok:Bool
 ps:List (Option Ty)
def DM:Option Ty→AV→AV
 | some (.st n),a=>(match arg (.st n) a with | some x=>.st n x | none=>a)
 | _,a=>a
def zH:List (Option Ty)→List AV→List AV
 | p ::ps,a ::r=>DM p a ::zH ps r
 | _,l=>l
def FK (C:Cfg) (N:Nat) (x:FB) (args:List AV) (S:List (Nat × SObj)):Option Ans:=
 evVs (zH x.ps args) fun args=>evB S fun S=>
  match kF args x.n && (aT S).all bF with
  | false=>none
  | true=>
   match iO C x.keep x.pubs N x.body ⟨da 0 args,S⟩ with
   | some (.normal,s)=>(match jr C.tbl s x.res with | some l=>DK x.tok S s l | none=>none)
   | some (.ret,s)=>(match jr C.tbl s x.res with | some l=>DK x.tok S s l | none=>none)
   | _=>none
variable {P:Program} {C:Cfg}
theorem DN (p:Option Ty) (a:AV):Rd a (DM p a):=by
 unfold DM
 split
 ·split
  ·rename_i x hx;exact Rd.arg hx
  ·exact Rd.refl a
 ·exact Rd.refl a
theorem wB:∀(ps:List (Option Ty)) (l:List AV),RdL l (zH ps l)
 | [],l=>RdL.refl l
 | p ::ps,[]=>.nil
 | p ::ps,a ::r=>.cons (DN p a) (wB ps r)
theorem runF_meets (hm:P.follows .mixedOrders=true) (hT:bj P C.tbl) (hS:bY P C.spec) {N:Nat} {x:FB} {f:Nat} {fn:Func} (hf:P.funcs[f]?=some fn) (hb:fn.body=some x.body) (hn:fn.ntmps=x.n) (hr:fn.results.toList=x.res)
  (hd:bM x.n x.body=true) {args:List AV} {S:List (Nat × SObj)} {A:Ans} (h:FK C N x args S=some A):aB P f args S A:=by
 refine aB.args (wB x.ps args) ?_
 intro w pub e vs hp ht hv hs hdom hinj
 unfold FK at h
 rw [evVs_eq,tX] at h
 split at h
 ·cases h
 ·rename_i hck
  simp only [Bool.and_eq_true,List.all_eq_true] at hck
  obtain ⟨hck2,hck3⟩:=hck
  have hlen:=dP _ _ hck2
  have hlent:∀id c,e id=some c→bF id=true:=by
   intro id c hc
   cases hg:ax S id with
   | none=>rw [hdom id hg] at hc;cases hc
   | some o=>exact hck3 id (List.mem_map.2 ⟨(id,o),cJ _ _ _ hg,rfl⟩)
  have hrun:∃z s',iO C x.keep x.pubs N x.body ⟨da 0 (zH x.ps args),S⟩=some (z,s')/\(match jr C.tbl s' x.res with | some l=>DK x.tok S s' l | none=>none)=some A/\(z=.normal∨z=.ret):=by
   split at h
   ·rename_i s' hz;exact ⟨_,s',hz,h,.inl rfl⟩
   ·rename_i s' hz;exact ⟨_,s',hz,h,.inr rfl⟩
   ·cases h
  obtain ⟨z,s',hz,he,hzz⟩:=hrun
  refine calls_of_wp hf hb ?_
  have hh:=jd (n:=fn.ntmps) hp ht hv (by rw [hn];exact hlen) hs hdom hinj hlent
  rw [←hn] at hd
  refine wp_mono (yQ (F:=⟨w,pub,fn.ntmps,e,hlent,[],ht⟩) hm hT hS _ _ N x.body _ z s' _ _ hz hd hh) ?_
  intro en a' w' hq
  obtain ⟨z2,s2,Ω',h1,h2,h3,h4,h5⟩:=hq
  subst h2 h4 h5
  have hmap:∀us,(fn.results.toList.mapM (mH a'.tmps)).run P Ω'.w=.ok us Ω'.w→
    (results fn a'.tmps).run P Ω'.w=.ok (if h:us.toArray.size=1 then us.toArray[0] else .tuple us.toArray) Ω'.w:=by
   intro us hus
   rw [kZ,←Array.toArray_toList (xs:=fn.results),List.mapM_toArray]
   simp only [Sem.run_bind,Sem.run_map,hus,Result.andThen_ok,Sem.run_pure]
  have main:a'.defers=[]/\∃v,(results fn a'.tmps).run P Ω'.w=.ok v Ω'.w/\∃pub' e',(∀b pv u,A.pan=some (b,pv,u)→b=false)/\V ⟨e',Ω'.w,pub'⟩ A.val v/\After w pub e (ax (cv S A.upd)) Ω'.w pub' e':=by
   refine ⟨h3.defers,?_⟩
   split at he
   ·rename_i l hres
    rw [←hr] at hres
    obtain ⟨a1,a2,l',kept,a3,a4,a5,a6⟩:=BR he
    obtain ⟨us,k1,k2⟩:=eJ hT h3 _ _ hres
    obtain ⟨Ω2,e2,hh2⟩:=dL (s:=⟨da 0 l,s2.b⟩) (h3.retmp k2) a5
    rw [a3,a6]
    refine ⟨_,hmap us k1,Ω2.pub,Ω2.e,fun b pv u q=>(by rw [a2] at q;cases q),?_,by rw [←e2];exact gN hh2⟩
    have hval:∀(j:Nat) c v,l'[j]?=some c→us[j]?=some v→V ⟨Ω2.e,Ω'.w,Ω2.pub⟩ c v:=fun j c v hc hv=>by
     have:=hh2.tmps j
     simp only [St.abs,fB,Nat.zero_le,if_true,Nat.sub_zero,List.getD_eq_getElem?_getD,hc,Option.getD_some] at this
     have e3:(us.toArray++Array.replicate 0 undef).getD j undef=v:=by
      simp [Array.getD_eq_getD_getElem?,hv]
     rw [e3] at this
     rw [←e2]
     exact this
    have hlu:l'.length=us.length:=a4.trans k2.1
    by_cases h1':us.toArray.size=1
    ·rw [dif_pos h1']
     obtain ⟨u,rfl⟩:=iJ (l:=us) (by simpa using h1')
     obtain ⟨c,rfl⟩:=iJ (l:=l') (by rw [hlu];rfl)
     exact hval 0 c u rfl rfl
    ·rw [dif_neg h1']
     have:DI l'=.tup l':=by
      match l',hlu with
      | [],_=>rfl
      | [c],q=>exact absurd (by simpa using q.symm) h1'
      | _ ::_ ::_,_=>rfl
     rw [this]
     exact .tup l' us hlu hval
   ·cases he
  rcases hzz with rfl | rfl
  ·cases h1;exact main
  ·cases h1;exact main
def zI:List (Nat × FB)→Nat→Option FB
 | [],_=>none
 | (j,x) ::r,f=>if Nat.beq j f=true then some x else zI r f
def aX (tbl:List (Nat × TR)) (fn:Func) (keep:Nat) (pubs:List (Nat × List Nat)) (pend rows same:Nat→Bool) (tok:Bool):FB:=
 ⟨fn.body.getD .skip,fn.ntmps,fn.results.toList,keep,pubs,pend,rows,same,tok,fn.params.toList.map fun t=>(aQ tbl t).bind (·.ty)⟩
def fbok (fn:Func):Bool:=match fn.body with | none=>false | some c=>bM fn.ntmps c && !(fn.name == "runtime.NumGoroutine")
def ay (P:Program) (tab:List (Nat × FB)):Prop:=∀f x,zI tab f=some x→
 ∃fn,P.funcs[f]?=some fn/\fn.body=some x.body/\fn.ntmps=x.n/\fn.results.toList=x.res/\bM x.n x.body=true/\(fn.name == "runtime.NumGoroutine")=false
theorem ay.nil:ay P []:=fun f x h=>by cases h
theorem ay.cons {tbl:List (Nat × TR)} {f:Nat} {fn:Func} {keep:Nat} {pubs:List (Nat × List Nat)} {pend rows same:Nat→Bool} {tok:Bool} {tab:List (Nat × FB)} (hf:P.funcs[f]?=some fn) (hc:fbok fn=true) (ht:ay P tab) :
  ay P ((f,aX tbl fn keep pubs pend rows same tok) ::tab):=by
 intro g x h
 unfold zI at h
 split at h
 ·rename_i hb
  obtain rfl:=Nat.eq_of_beq_eq_true hb
  cases h
  unfold fbok at hc
  split at hc
  ·cases hc
  ·rename_i c hb'
   simp only [Bool.and_eq_true,Bool.not_eq_true'] at hc
   exact ⟨fn,hf,by simp [aX,hb'],rfl,rfl,by simpa [aX,hb'] using hc.1,hc.2⟩
 ·exact ht g x h
def BS (tbl:List (Nat × TR)) (tab:List (Nat × FB)) (keeps:Nat→Bool) (lends:Nat→List (Option Nat)) (N:Nat) (base:Nat→List AV→List (Nat × SObj)→Option Ans) :
  Nat→Nat→List AV→List (Nat × SObj)→Option Ans
 | 0,f,us,S=>base f us S
 | n+1,f,us,S=>
  match base f us S with
  | some A=>some A
  | none=>
  match zI tab f with
  | none=>none
  | some x=>FK ⟨tbl,BS tbl tab keeps lends N base n,keeps,lends,x.pend,x.rows,x.same⟩ N x us S
theorem zJ {tbl:List (Nat × TR)} {tab:List (Nat × FB)} {keeps:Nat→Bool} {lends:Nat→List (Option Nat)} {N:Nat} {base:Nat→List AV→List (Nat × SObj)→Option Ans}
  (hm:P.follows .mixedOrders=true) (hT:bj P tbl) (hB:bY P base) (ht:ay P tab):∀n:Nat,bY P (BS tbl tab keeps lends N base n)
 | 0=>hB
 | n+1=>by
  intro f args S A h ho hl
  unfold BS at h
  split at h
  ·rename_i A' hb
   cases h
   exact hB f args S A hb ho hl
  split at h
  ·cases h
  ·rename_i x hx
   obtain ⟨fn,h1,h2,h3,h4,h5,h6⟩:=ht f x hx
   exact ⟨⟨fn,h1,by rw [h2];rfl,h6⟩,runF_meets hm hT (zJ hm hT hB ht n) h1 h2 h3 h4 h5 h⟩
theorem kz {tbl:List (Nat × TR)} {tab:List (Nat × FB)} {keeps:Nat→Bool} {lends:Nat→List (Option Nat)} {N n f:Nat} {base:Nat→List AV→List (Nat × SObj)→Option Ans} {args:List AV} {v:AV} {u:List (Nat × SObj)}
  (hm:P.follows .mixedOrders=true) (hT:bj P tbl) (hB:bY P base) (ht:ay P tab) (h:BS tbl tab keeps lends N base n f args []=some ⟨none,none,v,u⟩):aB P f args [] ⟨none,none,v,u⟩:=
 (zJ hm hT hB ht n f args [] _ h (fun _ q=>by cases q) rfl).2
def tested (b:List AV→List (Nat × SObj)→Bool) (g:Pat):Pat:=fun args S=>match b args S,g args S with | true,some A=>some {A with ob:=none} | _,_=>none
theorem aj.tested {f:Nat} {g:Pat} {b:List AV→List (Nat × SObj)→Bool} (h:aj P f g) (hb:∀args S A q,b args S=true→g args S=some A→A.ob=some q→q):aj P f (tested b g):=by
 intro args S A hA ho hl
 unfold AL.tested at hA
 split at hA
 ·rename_i A' hbt hg
  cases hA
  exact h args S A' hg (fun q hq=>hb args S A' q hbt hg hq) hl
 ·cases hA
end Go.AL
end
noncomputable section
namespace Go.AL
variable [Tabs] {P:Program}
def q1 (τ:Ty) (b:den τ→Bool) (F:den τ→AV):Pat
 | [a],[]=>(match arg τ a with | some x=>(match b x with | true=>some (.ret (F x)) | false=>none) | none=>none)
 | _,_=>none
theorem F1 {f:Nat} {τ:Ty} {b:den τ→Bool} {F:den τ→AV} {O:den τ→Prop} (h:aj P f (p1 τ fun x=>⟨some (O x),none,F x,[]⟩)) (hb:∀x,b x=true→O x):aj P f (q1 τ b F):=by
 intro args S A hA ho hl
 unfold q1 at hA
 split at hA
 ·rename_i a
  split at hA
  ·rename_i x hx
   split at hA
   ·rename_i ht
    cases hA
    have k:=h [a] [] ⟨some (O x),none,F x,[]⟩ (by simp [p1,hx]) (fun q hq=>by cases hq;exact hb x ht) hl
    exact ⟨k.1,k.2⟩
   ·cases hA
  ·cases hA
 ·cases hA
def q2 (τ σ:Ty) (b:den τ→den σ→Bool) (F:den τ→den σ→AV):Pat
 | [a,c],[]=>(match arg τ a,arg σ c with | some x,some y=>(match b x y with | true=>some (.ret (F x y)) | false=>none) | _,_=>none)
 | _,_=>none
theorem zK {f:Nat} {τ σ:Ty} {b:den τ→den σ→Bool} {F:den τ→den σ→AV} {O:den τ→den σ→Prop} (h:aj P f (p2 τ σ fun x y=>⟨some (O x y),none,F x y,[]⟩)) (hb:∀x y,b x y=true→O x y):aj P f (q2 τ σ b F):=by
 intro args S A hA ho hl
 unfold q2 at hA
 split at hA
 ·rename_i a c
  split at hA
  ·rename_i x y hx hy
   split at hA
   ·rename_i ht
    cases hA
    have k:=h [a,c] [] ⟨some (O x y),none,F x y,[]⟩ (by simp [p2,hx,hy]) (fun q hq=>by cases hq;exact hb x y ht) hl
    exact ⟨k.1,k.2⟩
   ·cases hA
  ·cases hA
 ·cases hA
def wC (as0:List AV) (v:AV):Pat:=fun args S=>match eqVs as0 args,S with | true,[]=>some (.ret v) | _,_=>none
theorem u9 {f:Nat} {as0:List AV} {v:AV} (he:aF P f) (h:aB P f as0 [] (.ret v)):aj P f (wC as0 v):=by
 intro args S A hA ho hl
 unfold wC at hA
 split at hA
 ·rename_i heq
  cases hA
  rw [←eqVs_ok _ _ heq]
  exact ⟨he,h⟩
 ·cases hA
def t1 (τ:Ty) (b:den τ→Bool):List AV→List (Nat × SObj)→Bool
 | [a],_=>(match arg τ a with | some x=>b x | none=>false)
 | _,_=>false
theorem G6 {f:Nat} {τ:Ty} {b:den τ→Bool} {F:den τ→Ans} (h:aj P f (p1 τ F)) (hb:∀x q,b x=true→(F x).ob=some q→q):aj P f (tested (t1 τ b) (p1 τ F)):=by
 refine h.tested fun args S A q ht hg ho=>?_
 unfold p1 at hg
 split at hg
 ·rename_i a
  split at hg
  ·rename_i x hx
   cases hg
   refine hb x q ?_ ho
   simpa [t1,hx] using ht
  ·cases hg
 ·cases hg
def zL:List AV→List (Nat × SObj)→Bool
 | _,[(_,.box (.lst .str zs _))]=>decide (zs.length *16<=140737488355328)
 | _,_=>false
theorem yT {f gv:Nat} (h:aj P f (ez gv)):aj P f (tested zL (ez gv)):=by
 refine h.tested fun args S A q hb hg ho=>?_
 unfold ez at hg
 split at hg
 ·split at hg
  ·cases hg
   cases ho
   exact Xo hb
  ·cases hg
 ·cases hg
def wD:List AV→List (Nat × SObj)→Bool
 | [.arr _ n _],[(_,.box (.row .str ss))]=>decide (n=ss.length)
 | _,_=>false
theorem wE {f:Nat} (h:aj P f eA):aj P f (tested wD eA):=by
 refine h.tested fun args S A q hb hg ho=>?_
 unfold eA at hg
 split at hg
 ·cases hg
  cases ho
  exact Xo hb
 ·cases hg
def kA:List Str→Bool
 | []=>true
 | x ::r=>!r.contains x && kA r
theorem mh:∀{l:List Str},kA l=true→l.Nodup
 | [],_=>List.nodup_nil
 | x ::r,h=>by
  unfold kA at h
  rw [Bool.and_eq_true,Bool.not_eq_true'] at h
  refine List.nodup_cons.2 ⟨fun q=>?_,mh h.2⟩
  have:=h.1
  rw [List.contains_eq_mem,decide_eq_false_iff_not] at this
  exact this q
def mW:List AV→List (Nat × SObj)→Bool
 | [.arr _ n _,_],[(_,.box (.row (.int .i64) xs)),(_,.box (.st .shape s))]=>
  decide (n=xs.length) && !xs.isEmpty && (xs.all fun x=>decide (0<=(x:Int)) && decide ((x:Int) < s.names.length)) && kA s.names && decide (xs.length < 4611686018427387904)
 | _,_=>false
theorem ua {f gc:Nat} (h:aj P f (dS gc)):aj P f (tested mW (dS gc)):=by
 refine h.tested fun args S A q hb hg ho=>?_
 unfold dS at hg
 split at hg
 ·split at hg
  ·cases hg
   cases ho
   unfold mW at hb
   simp only [Bool.and_eq_true,decide_eq_true_eq,Bool.not_eq_true',List.all_eq_true] at hb
   obtain ⟨⟨⟨⟨h1,h2⟩,h3⟩,h4⟩,h5⟩:=hb
   exact ⟨h1,(fun e=>by rw [e] at h2;cases h2),h3,mh h4,h5⟩
  ·cases hg
 ·cases hg
end Go.AL
end
noncomputable section
namespace Go.AL.Seat
open Go Go.AL Go.Proofs Go.Shelf Go.Pd
variable [Tabs]
def FL (t:Str):Bool:=!t.isEmpty && decide (t.length<=15) && t.all fun c=>decide (48<=c.toNat) && decide (c.toNat<=57)
theorem EO {t:Str} (h:FL t=true):nB t:=by
 unfold FL at h
 simp only [Bool.and_eq_true,Bool.not_eq_true',decide_eq_true_eq,List.all_eq_true] at h
 exact ⟨fun e=>(by rw [e] at h;exact absurd h.1.1 (by decide)),h.1.2,h.2⟩
def DO:List (Nat × Pat):=
 [(104,p1 .str fun s=>.ret (.tup [.int .i32 ((jg s).1:Int),.int .i64 ((jg s).2:Int)])),
  (117,p2 .str (.int .u8) fun a c=>.ret (.int .i64 (CB a c))),
  (70,q2 .str .str (fun _ b=>decide (b=pK)) fun a _=>.str (pL a)),
  (112,q2 .str .str (fun a b=>decide (b=[45]) && decide (a.length < 4294967281)) fun a _=>.tup [.str (ik a),.str (l8 a),.bool (mI a)]),
  (113,q2 .str .str (fun a b=>decide (b=[46]) && decide (a.length < 4294967281)) fun a _=>.lst .str (splitB 46 a) none),
  (119,q2 .str .str (fun _ b=>decide (b.length=1)) fun a b=>.bool (decide (b.getD 0 0∈a))),
  (115,q1 .str FL fun t=>.tup [.int .i64 (kP t),.nilif]),
  (193,q1 (.lst .str) (fun l=>decide (l.length *16<=140737488355328)) fun l=>.lst .str l none),
  (95,tested (t1 (.lst (.st .bind)) fun l=>decide (l.length *120<=140737488355328)) (p1 (.lst (.st .bind)) fun l=>⟨some (l.length *120<=140737488355328),none,.lst (.st .bind) l (some 5),[(5,.tail (.st .bind) l.length)]⟩)),
  (100,tested zL (ez 139)),
  (102,tested wD eA),
  (97,tested mW (dS 98)),
  (28,p1 (.st .shape) fun s=>.ret (.tup [.int .i64 (if sz s<=400 then (sz s:Int) else 401),.int .i64 (if sz s<=400 then deepS s 1 else 0),.bool (decide (sz s<=400))]))]
theorem mj [SeatLaid]:bY Tryz.prog (gZ DO):=
 sc pR (sc qR (sc (zK CI fun _ _ h=>Xo h)
  (sc (zK El fun _ _ h=>by rw [Bool.and_eq_true] at h;exact ⟨Xo h.1,Xo h.2⟩)
  (sc (zK Av fun _ _ h=>by rw [Bool.and_eq_true] at h;exact ⟨Xo h.1,Xo h.2⟩)
  (sc (zK tu fun _ _ h=>Xo h) (sc (F1 CH fun _ h=>EO h)
  (sc (F1 mM fun _ h=>Xo h) (sc (G6 pW fun _ q h e=>by cases e;exact Xo h)
  (sc (yT l9) (sc (wE jU) (sc (ua lP) (sc rJ sn))))))))))))
end Go.AL.Seat
end
noncomputable section
namespace Go.AL.Seat
open Go Go.AL Go.Proofs
set_option maxRecDepth 1000000
variable [Tabs]
def F2 (f:Nat):List (Option Nat):=if Nat.beq f 33 || Nat.beq f 34 then [some 2] else []
def F4 (f:Nat):Bool:=false
def yU:List (Nat × FB):=(6,aX tbl Tryz.f6 383 [] (fun _=>false) (fun _=>false) (fun d=>Nat.beq d 25 || Nat.beq d 27) false) ::(13,aX tbl Tryz.f13 15 [] (fun _=>false) (fun _=>false) (fun _=>false) false) ::(12,aX tbl Tryz.f12 4362109181 [] (fun _=>false) (fun _=>false) (fun _=>false) false) ::(7,aX tbl Tryz.f7 1151 [] (fun _=>false) (fun _=>false) (fun _=>false) false) ::(23,aX tbl Tryz.f23 1965 [] (fun _=>false) (fun _=>false) (fun d=>Nat.beq d 16) false) ::(20,aX tbl Tryz.f20 77975715369647181664879229 [] (fun _=>false) (fun _=>false) (fun _=>false) false) ::(21,aX tbl Tryz.f21 9016029707634675 [] (fun _=>false) (fun _=>false) (fun _=>false) false) ::(22,aX tbl Tryz.f22 531 [] (fun _=>false) (fun _=>false) (fun _=>false) false) ::(14,aX tbl Tryz.f14 74783 [] (fun _=>false) (fun _=>false) (fun _=>false) false) ::(15,aX tbl Tryz.f15 19 [] (fun _=>false) (fun _=>false) (fun _=>false) false) ::(16,aX tbl Tryz.f16 270664191 [] (fun _=>false) (fun _=>false) (fun _=>false) false) ::(43,aX tbl Tryz.f43 5 [] (fun _=>false) (fun _=>false) (fun _=>false) false) ::(33,aX tbl Tryz.f33 65555 [] (fun _=>false) (fun _=>false) (fun _=>false) false) ::(34,aX tbl Tryz.f34 4294967347 [] (fun _=>false) (fun _=>false) (fun _=>false) false) ::(35,aX tbl Tryz.f35 5 [] (fun _=>false) (fun _=>false) (fun _=>false) false) ::(36,aX tbl Tryz.f36 8388935 [] (fun _=>false) (fun _=>false) (fun _=>false) false) ::(37,aX tbl Tryz.f37 87112288527988523651034566703108870643455 [] (fun _=>false) (fun _=>false) (fun d=>Nat.beq d 21) false) ::(38,aX tbl Tryz.f38 33816627 [] (fun _=>false) (fun _=>false) (fun _=>false) false) ::(39,aX tbl Tryz.f39 5 [] (fun _=>false) (fun _=>false) (fun _=>false) false) ::(40,aX tbl Tryz.f40 268439557 [] (fun _=>false) (fun _=>false) (fun _=>false) false) ::(41,aX tbl Tryz.f41 81129648086015544455969055506495 [] (fun _=>false) (fun _=>false) (fun _=>false) false) ::(42,aX tbl Tryz.f42 263 [] (fun _=>false) (fun _=>false) (fun _=>false) false) ::(24,aX tbl Tryz.f24 2223863 [] (fun _=>false) (fun _=>false) (fun _=>false) false) ::(25,aX tbl Tryz.f25 7 [] (fun _=>false) (fun _=>false) (fun _=>false) false) ::(26,aX tbl Tryz.f26 89203661441933403568762194417536241417190911 [] (fun _=>false) (fun _=>false) (fun d=>Nat.beq d 49 || Nat.beq d 106 || Nat.beq d 124 || Nat.beq d 142 || Nat.beq d 143) false) ::(17,aX tbl Tryz.f17 299063 [] (fun _=>false) (fun _=>false) (fun _=>false) false) ::(27,aX tbl Tryz.f27 39 [] (fun _=>false) (fun _=>false) (fun _=>false) false) ::(61,aX tbl Tryz.f61 549890048253 [] (fun _=>false) (fun _=>false) (fun _=>false) false) ::(62,aX tbl Tryz.f62 71 [] (fun _=>false) (fun _=>false) (fun _=>false) false) ::(63,aX tbl Tryz.f63 79 [] (fun _=>false) (fun _=>false) (fun _=>false) false) ::(64,aX tbl Tryz.f64 5 [] (fun _=>false) (fun _=>false) (fun _=>false) false) ::(65,aX tbl Tryz.f65 5 [] (fun _=>false) (fun _=>false) (fun _=>false) false) ::(66,aX tbl Tryz.f66 5 [] (fun _=>false) (fun _=>false) (fun _=>false) false) ::(67,aX tbl Tryz.f67 29 [] (fun _=>false) (fun _=>false) (fun _=>false) false) ::(59,aX tbl Tryz.f59 5 [] (fun _=>false) (fun _=>false) (fun _=>false) false) ::(57,aX tbl Tryz.f57 5 [] (fun _=>false) (fun _=>false) (fun _=>false) false) ::(68,aX tbl Tryz.f68 5 [] (fun _=>false) (fun _=>false) (fun _=>false) false) ::(69,aX tbl Tryz.f69 5 [] (fun _=>false) (fun _=>false) (fun _=>false) false) ::(71,aX tbl Tryz.f71 151115799509488183025661 [] (fun _=>false) (fun _=>false) (fun _=>false) false) ::(72,aX tbl Tryz.f72 618970019647202533975261693 [] (fun _=>false) (fun _=>false) (fun _=>false) false) ::(73,aX tbl Tryz.f73 29 [] (fun _=>false) (fun _=>false) (fun _=>false) false) ::(74,aX tbl Tryz.f74 3 [] (fun d=>Nat.beq d 8) (fun _=>false) (fun _=>false) false) ::(75,aX tbl Tryz.f75 7 [] (fun d=>Nat.beq d 15) (fun _=>false) (fun _=>false) false) ::(78,aX tbl Tryz.f78 275 [] (fun _=>false) (fun _=>false) (fun _=>false) false) ::(76,aX tbl Tryz.f76 131 [] (fun _=>false) (fun _=>false) (fun _=>false) false) ::(80,aX tbl Tryz.f80 7 [] (fun _=>false) (fun _=>false) (fun _=>false) false) ::(79,aX tbl Tryz.f79 271375 [] (fun _=>false) (fun _=>false) (fun _=>false) false) ::(82,aX tbl Tryz.f82 32819 [] (fun _=>false) (fun _=>false) (fun _=>false) false) ::(83,aX tbl Tryz.f83 15 [] (fun _=>false) (fun _=>false) (fun _=>false) false) ::(84,aX tbl Tryz.f84 17180524607 [] (fun _=>false) (fun _=>false) (fun _=>false) false) ::(44,aX tbl Tryz.f44 3537148372723500476506894142080440715070649430595550180525943565456506895 [] (fun _=>false) (fun _=>false) (fun _=>false) false) ::(45,aX tbl Tryz.f45 27 [] (fun _=>false) (fun _=>false) (fun _=>false) false) ::(46,aX tbl Tryz.f46 2147492295 [] (fun _=>false) (fun _=>false) (fun _=>false) false) ::(47,aX tbl Tryz.f47 160562833849755950391295 [] (fun _=>false) (fun _=>false) (fun d=>Nat.beq d 19 || Nat.beq d 49) false) ::(48,aX tbl Tryz.f48 549789368831 [] (fun _=>false) (fun _=>false) (fun d=>Nat.beq d 15 || Nat.beq d 43) false) ::(49,aX tbl Tryz.f49 23 [] (fun _=>false) (fun _=>false) (fun _=>false) false) ::(50,aX tbl Tryz.f50 36031000339288063 [] (fun _=>false) (fun _=>false) (fun d=>Nat.beq d 45 || Nat.beq d 65) false) ::(51,aX tbl Tryz.f51 102844040580930233559092546268346994287008189083989802508869631 [] (fun _=>false) (fun _=>false) (fun d=>Nat.beq d 55 || Nat.beq d 63 || Nat.beq d 86 || Nat.beq d 111 || Nat.beq d 118 || Nat.beq d 120 || Nat.beq d 136 || Nat.beq d 155 || Nat.beq d 167 || Nat.beq d 202 || Nat.beq d 203) false) ::(29,aX tbl Tryz.f29 2159703 [] (fun _=>false) (fun _=>false) (fun _=>false) false) ::(30,aX tbl Tryz.f30 10141204803006463002229839257615 [] (fun _=>false) (fun _=>false) (fun _=>false) false) ::(52,aX tbl Tryz.f52 36219466547391 [] (fun _=>false) (fun _=>false) (fun _=>false) false) ::(103,aX tbl Tryz.f103 552075315 [] (fun _=>false) (fun _=>false) (fun _=>false) false) ::(114,aX tbl Tryz.f114 5 [] (fun _=>false) (fun _=>false) (fun _=>false) false) ::(116,aX tbl Tryz.f116 9316337836119 [] (fun _=>false) (fun _=>false) (fun _=>false) false) ::(118,aX tbl Tryz.f118 5 [] (fun _=>false) (fun _=>false) (fun _=>false) false) ::(77,aX tbl Tryz.f77 2228285 [] (fun _=>false) (fun _=>false) (fun _=>false) false) ::(121,aX tbl Tryz.f121 51 [] (fun _=>false) (fun _=>false) (fun _=>false) false) ::(81,aX tbl Tryz.f81 65587 [] (fun _=>false) (fun _=>false) (fun _=>false) false) ::(123,aX tbl Tryz.f123 23945973599159813139139346461134680183357916012085311 [] (fun _=>false) (fun _=>false) (fun _=>false) false) ::(124,aX tbl Tryz.f124 3 [] (fun d=>Nat.beq d 8) (fun _=>false) (fun _=>false) false) ::(85,aX tbl Tryz.f85 7 [] (fun _=>false) (fun _=>false) (fun _=>false) false) ::(86,aX tbl Tryz.f86 27 [] (fun _=>false) (fun _=>false) (fun _=>false) false) ::(87,aX tbl Tryz.f87 7 [] (fun _=>false) (fun _=>false) (fun _=>false) false) ::(88,aX tbl Tryz.f88 2098133 [] (fun _=>false) (fun _=>false) (fun _=>false) false) ::(89,aX tbl Tryz.f89 13 [] (fun _=>false) (fun _=>false) (fun _=>false) false) ::(90,aX tbl Tryz.f90 27 [] (fun _=>false) (fun _=>false) (fun _=>false) false) ::(92,aX tbl Tryz.f92 15 [] (fun _=>false) (fun _=>false) (fun _=>false) false) ::(91,aX tbl Tryz.f91 19 [] (fun _=>false) (fun _=>false) (fun _=>false) false) ::(93,aX tbl Tryz.f93 8389119 [] (fun _=>false) (fun _=>false) (fun _=>false) false) ::(94,aX tbl Tryz.f94 66483 [] (fun _=>false) (fun _=>false) (fun _=>false) false) ::(96,aX tbl Tryz.f96 67172223 [] (fun _=>false) (fun _=>false) (fun _=>false) true) ::(56,aX tbl Tryz.f56 4444215 [] (fun _=>false) (fun _=>false) (fun _=>false) false) ::(58,aX tbl Tryz.f58 5 [] (fun _=>false) (fun _=>false) (fun _=>false) false) ::(98,aX tbl Tryz.f98 39 [] (fun _=>false) (fun _=>false) (fun d=>Nat.beq d 16) false) ::(19,aX tbl Tryz.f19 65655 [] (fun _=>false) (fun _=>false) (fun _=>false) false) ::(148,aX tbl Tryz.f148 18014398524686365 [] (fun _=>false) (fun _=>false) (fun _=>false) false) ::(120,aX tbl Tryz.f120 324677087359430077278579446644799 [] (fun d=>Nat.beq d 129) (fun _=>false) (fun _=>false) false) ::(122,aX tbl Tryz.f122 19 [] (fun _=>false) (fun _=>false) (fun _=>false) false) ::(155,aX tbl Tryz.f155 3 [] (fun d=>Nat.beq d 23) (fun _=>false) (fun _=>false) false) ::(156,aX tbl Tryz.f156 13 [] (fun _=>false) (fun _=>false) (fun _=>false) false) ::(126,aX tbl Tryz.f126 15 [] (fun _=>false) (fun _=>false) (fun _=>false) false) ::(125,aX tbl Tryz.f125 19 [] (fun _=>false) (fun _=>false) (fun _=>false) false) ::(127,aX tbl Tryz.f127 7 [] (fun _=>false) (fun _=>false) (fun _=>false) false) ::(101,aX tbl Tryz.f101 7 [] (fun _=>false) (fun _=>false) (fun _=>false) false) ::(130,aX tbl Tryz.f130 11 [] (fun _=>false) (fun _=>false) (fun _=>false) false) ::(129,aX tbl Tryz.f129 19 [] (fun _=>false) (fun _=>false) (fun _=>false) false) ::(131,aX tbl Tryz.f131 66483 [] (fun _=>false) (fun _=>false) (fun _=>false) false) ::(132,aX tbl Tryz.f132 31 [] (fun _=>false) (fun _=>false) (fun d=>Nat.beq d 7 || Nat.beq d 9 || Nat.beq d 12) false) ::(133,aX tbl Tryz.f133 553657335 [] (fun _=>false) (fun _=>false) (fun d=>Nat.beq d 19 || Nat.beq d 20) false) ::(99,aX tbl Tryz.f99 19 [] (fun _=>false) (fun _=>false) (fun _=>false) false) ::(151,aX tbl Tryz.f151 7 [] (fun d=>Nat.beq d 21) (fun _=>false) (fun _=>false) false) ::(153,aX tbl Tryz.f153 149971 [] (fun _=>false) (fun _=>false) (fun _=>false) false) ::(154,aX tbl Tryz.f154 3 [] (fun d=>Nat.beq d 8) (fun _=>false) (fun _=>false) false) ::(157,aX tbl Tryz.f157 66483 [] (fun _=>false) (fun _=>false) (fun _=>false) false) ::(139,aX tbl Tryz.f139 16883 [] (fun _=>false) (fun _=>false) (fun _=>false) false) ::(159,aX tbl Tryz.f159 66483 [] (fun _=>false) (fun _=>false) (fun _=>false) false) ::(160,aX tbl Tryz.f160 31 [] (fun _=>false) (fun _=>false) (fun _=>false) false) ::(161,aX tbl Tryz.f161 1 [] (fun _=>false) (fun _=>false) (fun _=>false) false) ::(162,aX tbl Tryz.f162 179799758744771528110887069003277459880165367 [] (fun _=>false) (fun _=>false) (fun d=>Nat.beq d 71 || Nat.beq d 87 || Nat.beq d 98 || Nat.beq d 103) false) ::(164,aX tbl Tryz.f164 3885 [] (fun _=>false) (fun _=>false) (fun _=>false) false) ::(163,aX tbl Tryz.f163 2203049797495 [] (fun _=>false) (fun _=>false) (fun _=>false) false) ::(136,aX tbl Tryz.f136 19 [] (fun _=>false) (fun _=>false) (fun _=>false) false) ::(152,aX tbl Tryz.f152 5 [] (fun _=>false) (fun _=>false) (fun _=>false) false) ::(189,aX tbl Tryz.f189 79 [] (fun _=>false) (fun _=>false) (fun _=>false) false) ::(190,aX tbl Tryz.f190 2103 [] (fun _=>false) (fun _=>false) (fun _=>false) false) ::(191,aX tbl Tryz.f191 11 [] (fun _=>false) (fun _=>false) (fun _=>false) false) ::(194,aX tbl Tryz.f194 1079 [] (fun _=>false) (fun _=>false) (fun _=>false) false) ::(192,aX tbl Tryz.f192 251 [] (fun _=>false) (fun _=>false) (fun _=>false) false) ::[]
theorem kB:ay Tryz.prog yU:=ay.cons Tryz.func6 (by kernel_rfl) (ay.cons Tryz.func13 (by kernel_rfl) (ay.cons Tryz.func12 (by kernel_rfl) (ay.cons Tryz.func7 (by kernel_rfl) (ay.cons Tryz.func23 (by kernel_rfl) (ay.cons Tryz.func20 (by kernel_rfl) (ay.cons Tryz.func21 (by kernel_rfl) (ay.cons Tryz.func22 (by kernel_rfl) (ay.cons Tryz.func14 (by kernel_rfl) (ay.cons Tryz.func15 (by kernel_rfl) (ay.cons Tryz.func16 (by kernel_rfl) (ay.cons Tryz.func43 (by kernel_rfl) (ay.cons Tryz.func33 (by kernel_rfl) (ay.cons Tryz.func34 (by kernel_rfl) (ay.cons Tryz.func35 (by kernel_rfl) (ay.cons Tryz.func36 (by kernel_rfl) (ay.cons Tryz.func37 (by kernel_rfl) (ay.cons Tryz.func38 (by kernel_rfl) (ay.cons Tryz.func39 (by kernel_rfl) (ay.cons Tryz.func40 (by kernel_rfl) (ay.cons Tryz.func41 (by kernel_rfl) (ay.cons Tryz.func42 (by kernel_rfl) (ay.cons Tryz.func24 (by kernel_rfl) (ay.cons Tryz.func25 (by kernel_rfl) (ay.cons Tryz.func26 (by kernel_rfl) (ay.cons Tryz.func17 (by kernel_rfl) (ay.cons Tryz.func27 (by kernel_rfl) (ay.cons Tryz.func61 (by kernel_rfl) (ay.cons Tryz.func62 (by kernel_rfl) (ay.cons Tryz.func63 (by kernel_rfl) (ay.cons Tryz.func64 (by kernel_rfl) (ay.cons Tryz.func65 (by kernel_rfl) (ay.cons Tryz.func66 (by kernel_rfl) (ay.cons Tryz.func67 (by kernel_rfl) (ay.cons Tryz.func59 (by kernel_rfl) (ay.cons Tryz.func57 (by kernel_rfl) (ay.cons Tryz.func68 (by kernel_rfl) (ay.cons Tryz.func69 (by kernel_rfl) (ay.cons Tryz.func71 (by kernel_rfl) (ay.cons Tryz.func72 (by kernel_rfl) (ay.cons Tryz.func73 (by kernel_rfl) (ay.cons Tryz.func74 (by kernel_rfl) (ay.cons Tryz.func75 (by kernel_rfl) (ay.cons Tryz.func78 (by kernel_rfl) (ay.cons Tryz.func76 (by kernel_rfl) (ay.cons Tryz.func80 (by kernel_rfl) (ay.cons Tryz.func79 (by kernel_rfl) (ay.cons Tryz.func82 (by kernel_rfl) (ay.cons Tryz.func83 (by kernel_rfl) (ay.cons Tryz.func84 (by kernel_rfl) (ay.cons Tryz.func44 (by kernel_rfl) (ay.cons Tryz.func45 (by kernel_rfl) (ay.cons Tryz.func46 (by kernel_rfl) (ay.cons Tryz.func47 (by kernel_rfl) (ay.cons Tryz.func48 (by kernel_rfl) (ay.cons Tryz.func49 (by kernel_rfl) (ay.cons Tryz.func50 (by kernel_rfl) (ay.cons Tryz.func51 (by kernel_rfl) (ay.cons Tryz.func29 (by kernel_rfl) (ay.cons Tryz.func30 (by kernel_rfl) (ay.cons Tryz.func52 (by kernel_rfl) (ay.cons Tryz.func103 (by kernel_rfl) (ay.cons Tryz.func114 (by kernel_rfl) (ay.cons Tryz.func116 (by kernel_rfl) (ay.cons Tryz.func118 (by kernel_rfl) (ay.cons Tryz.func77 (by kernel_rfl) (ay.cons Tryz.func121 (by kernel_rfl) (ay.cons Tryz.func81 (by kernel_rfl) (ay.cons Tryz.func123 (by kernel_rfl) (ay.cons Tryz.func124 (by kernel_rfl) (ay.cons Tryz.func85 (by kernel_rfl) (ay.cons Tryz.func86 (by kernel_rfl) (ay.cons Tryz.func87 (by kernel_rfl) (ay.cons Tryz.func88 (by kernel_rfl) (ay.cons Tryz.func89 (by kernel_rfl) (ay.cons Tryz.func90 (by kernel_rfl) (ay.cons Tryz.func92 (by kernel_rfl) (ay.cons Tryz.func91 (by kernel_rfl) (ay.cons Tryz.func93 (by kernel_rfl) (ay.cons Tryz.func94 (by kernel_rfl) (ay.cons Tryz.func96 (by kernel_rfl) (ay.cons Tryz.func56 (by kernel_rfl) (ay.cons Tryz.func58 (by kernel_rfl) (ay.cons Tryz.func98 (by kernel_rfl) (ay.cons Tryz.func19 (by kernel_rfl) (ay.cons Tryz.func148 (by kernel_rfl) (ay.cons Tryz.func120 (by kernel_rfl) (ay.cons Tryz.func122 (by kernel_rfl) (ay.cons Tryz.func155 (by kernel_rfl) (ay.cons Tryz.func156 (by kernel_rfl) (ay.cons Tryz.func126 (by kernel_rfl) (ay.cons Tryz.func125 (by kernel_rfl) (ay.cons Tryz.func127 (by kernel_rfl) (ay.cons Tryz.func101 (by kernel_rfl) (ay.cons Tryz.func130 (by kernel_rfl) (ay.cons Tryz.func129 (by kernel_rfl) (ay.cons Tryz.func131 (by kernel_rfl) (ay.cons Tryz.func132 (by kernel_rfl) (ay.cons Tryz.func133 (by kernel_rfl) (ay.cons Tryz.func99 (by kernel_rfl) (ay.cons Tryz.func151 (by kernel_rfl) (ay.cons Tryz.func153 (by kernel_rfl) (ay.cons Tryz.func154 (by kernel_rfl) (ay.cons Tryz.func157 (by kernel_rfl) (ay.cons Tryz.func139 (by kernel_rfl) (ay.cons Tryz.func159 (by kernel_rfl) (ay.cons Tryz.func160 (by kernel_rfl) (ay.cons Tryz.func161 (by kernel_rfl) (ay.cons Tryz.func162 (by kernel_rfl) (ay.cons Tryz.func164 (by kernel_rfl) (ay.cons Tryz.func163 (by kernel_rfl) (ay.cons Tryz.func136 (by kernel_rfl) (ay.cons Tryz.func152 (by kernel_rfl) (ay.cons Tryz.func189 (by kernel_rfl) (ay.cons Tryz.func190 (by kernel_rfl) (ay.cons Tryz.func191 (by kernel_rfl) (ay.cons Tryz.func194 (by kernel_rfl) (ay.cons Tryz.func192 (by kernel_rfl) (ay.nil))))))))))))))))))))))))))))))))))))))))))))))))))))))))))))))))))))))))))))))))))))))))))))))))))))))))))))))))))))))
abbrev FM:=BS tbl yU F4 F2 5000 (gZ DO) 100
end Go.AL.Seat
end
noncomputable section
namespace Go.AL.Seat
open Go Go.AL Go.Proofs Go.Pd
set_option maxRecDepth 1000000
def FN:Str:=[40,102,117,110,32,40,120,58,32,73,110,116,41,32,45,62,32,123,97,32,61,32,120,125,41,40,49,41,46,97]
def FO:Str:=[97,100,100,40,49,44,32,116,114,117,101,41]
def FP:AV:=(.tup [(.agg [(.int .i64 9),(.str []),(.str [97]),(.int .i64 0),.nils,.nils,.nils,(.lst (.st .term) [⟨7,[],[],0,[],[],[],[⟨6,[],[],0,[[120]],[],[⟨1,[],[],[],[]⟩],[⟨8,[],[],0,[[97]],[],[],[⟨5,[],[120],0,[],[],[],[],22⟩],17⟩],1⟩,⟨1,[],[],1,[],[],[],[],26⟩],0⟩] none),(.int .i64 0)]),(.agg [(.int .i64 0),(.int .i64 0)])])
def FQ:AV:=(.tup [(.agg [(.int .i64 7),(.str []),(.str []),(.int .i64 0),.nils,.nils,.nils,(.lst (.st .term) [⟨5,[],[97,100,100],0,[],[],[],[],0⟩,⟨1,[],[],1,[],[],[],[],4⟩,⟨3,[],[],0,[],[],[],[],7⟩] none),(.int .i64 0)]),(.agg [(.int .i64 0),(.int .i64 0)])])
def DQ:List Bndg:=[⟨[],[97,100,100],⟨8,[],[],[],[⟨1,[],[],[],[]⟩,⟨1,[],[],[],[]⟩,⟨1,[],[],[],[]⟩]⟩⟩,⟨[],[115,117,98],⟨8,[],[],[],[⟨1,[],[],[],[]⟩,⟨1,[],[],[],[]⟩,⟨1,[],[],[],[]⟩]⟩⟩,⟨[],[109,117,108],⟨8,[],[],[],[⟨1,[],[],[],[]⟩,⟨1,[],[],[],[]⟩,⟨1,[],[],[],[]⟩]⟩⟩,⟨[],[108,101,115,115],⟨8,[],[],[],[⟨1,[],[],[],[]⟩,⟨1,[],[],[],[]⟩,⟨2,[],[],[],[]⟩]⟩⟩,⟨[],[115,97,109,101],⟨8,[],[],[],[⟨1,[],[],[],[]⟩,⟨1,[],[],[],[]⟩,⟨2,[],[],[],[]⟩]⟩⟩,⟨[],[110,111,116],⟨8,[],[],[],[⟨2,[],[],[],[]⟩,⟨2,[],[],[],[]⟩]⟩⟩,⟨[],[98,111,116,104],⟨8,[],[],[],[⟨2,[],[],[],[]⟩,⟨2,[],[],[],[]⟩,⟨2,[],[],[],[]⟩]⟩⟩,⟨[],[99,97,116],⟨8,[],[],[],[⟨3,[],[],[],[]⟩,⟨3,[],[],[],[]⟩,⟨3,[],[],[],[]⟩]⟩⟩,⟨[],[115,105,122,101],⟨8,[],[],[],[⟨3,[],[],[],[]⟩,⟨1,[],[],[],[]⟩]⟩⟩,⟨[],[115,104,111,119],⟨8,[],[],[],[⟨1,[],[],[],[]⟩,⟨3,[],[],[],[]⟩]⟩⟩]
variable [Tabs] [SeatLaid]
theorem run1:aB Tryz.prog 12 [.str FN] [] (.ret FP):=kz (n:=100) mixed pT mj kB (by kernel_rfl:FM 12 [.str FN] []=some ⟨none,none,FP,[]⟩)
theorem run2:aB Tryz.prog 12 [.str FO] [] (.ret FQ):=kz (n:=100) mixed pT mj kB (by kernel_rfl:FM 12 [.str FO] []=some ⟨none,none,FQ,[]⟩)
theorem run3:aB Tryz.prog 13 [] [] (.ret (.lst (.st .bind) DQ none)):=kz (n:=100) mixed pT mj kB (by kernel_rfl:FM 13 [] []=some ⟨none,none,.lst (.st .bind) DQ none,[]⟩)
def F5:List (Nat × Pat):=(12,wC [.str FN] FP) ::(12,wC [.str FO] FQ) ::(13,wC [] (.lst (.st .bind) DQ none)) ::DO
theorem DR:bY Tryz.prog (gZ F5):=sc (u9 (ee Tryz.func12) run1) (sc (u9 (ee Tryz.func12) run2) (sc (u9 (ee Tryz.func13) run3) mj))
abbrev G7:=BS tbl yU F4 F2 5000 (gZ F5) 100
end Go.AL.Seat
end
noncomputable section
namespace Go.AL.Seat
open Go Go.AL Go.Proofs Go.Pd
set_option maxRecDepth 1000000
variable [Tabs] [SeatLaid]
theorem run5:aB Tryz.prog 6 [] [] (.ret (.bool true)):=kz (n:=100) mixed pT DR kB (by kernel_rfl:G7 6 [] []=some ⟨none,none,.bool true,[]⟩)
theorem wF:aj Tryz.prog 6 (p0 (.ret (.bool true))):=EZ (ee Tryz.func6) run5
end Go.AL.Seat
end
section
namespace Go.Proofs.YtpngcclngehaiaaGreatDoor.JSynthWeaker
open Go.AL Go.AL.Seat Go.Pd Go.ChangeShapes Go.WideShapes Go.RowKit Go.Proofs.YtpngcclngehaiaaGreatDoor.Join
set_option maxRecDepth 1000000
theorem par:Tryz.f3.params=#[26,29,23]:=by kernel_rfl
theorem res:Tryz.f3.resultTypes=#[4]:=by kernel_rfl
theorem spec {H:Type} (ds:List (DataW H)) (hd:ds.length=3):Rows.synthWeakerSpec.fn H ds={results:=[.lit (.bool true)],args:=ds}:=by
 match ds,hd with
 | [d0,d1,d2],_=>rfl
theorem DS (H:Type) (enc:TypeId × Value→H) (W:World) (base:Nat) (args:Array Value) (ds gs:List (DataW H)) (before:List MemPlace)
  (hval:∀(j:Nat) t v,Tryz.f3.params[j]?=some t→args[j]?=some v→Value.okWide Tryz.prog W .any base t v)
  (hW:DataW.Whole enc Tryz.prog Tryz.f3.params.toList Rows.synthWeakerSpec.vars false W args.toList ds gs before) (hwt:(DataW.weightsEach Tryz.prog (Tryz.f3.params.toList++(OpenSpec.ofChange Rows.synthWeakerSpec).bare.plain.varTypes Tryz.prog) (ds++gs)).all (·<=reachBytes)=true) (hL:laidMet Tryz.prog laid W) (hsh:W.ShapedOpen Tryz.prog) :
  Calls Tryz.prog 3 args W fun e W'=>∃v,e=.returned v/\Rows.synthWeakerSpec.post enc Tryz.prog Tryz.f3 false true false false W args v W':=by
 letI:Tabs:=pD W
 haveI:SeatLaid:=CJ hL hsh
 have hW':=hW
 obtain ⟨p,q,hA,hV,_,_,_⟩:=hW
 rw [par] at hA hval
 obtain ⟨v0,vs0,d0,ds0,p0,q0,hargs0,rfl,rfl,h0,r0⟩:=trodAll_cons hA
 obtain ⟨v1,vs1,d1,ds1,p1,q1,hargs1,rfl,rfl,h1,r1⟩:=trodAll_cons r0
 obtain ⟨v2,vs2,d2,ds2,p2,q2,hargs2,rfl,rfl,h2,r2⟩:=trodAll_cons r1
 obtain ⟨rfl,rfl,rfl⟩:=trodAll_nil r2
 subst hargs1
 subst hargs2
 obtain rfl:args=#[v0,v1,v2]:=by
  have:=congrArg List.toArray hargs0
  simpa using this
 obtain ⟨x0,hx0,hq0⟩:=Az (xD Tryz.prog) Fw (hval 0 26 v0 rfl rfl) h0 (fun n hn=>Xo (List.all_eq_true.1 hwt n (jh (i:=0) (t:=26) (by rw [par];rfl) rfl n hn)))
 obtain ⟨x1,hx1⟩:=Cv FZ (hval 1 29 v1 rfl rfl) h1
 obtain ⟨fu2,hf2⟩:=h2
 obtain ⟨x2,hx2⟩:=CM G4 tv (hval 2 23 v2 rfl rfl) hf2
 refine (Aj (kE bK (sz (bK x0 x1).1) x0 x1 x2 ⟨_,_,hx0⟩ ⟨_,_,hx1⟩ ⟨_,_,hx2⟩ (rG _ x0 (Nat.le_refl _) hq0) (Nat.le_refl _) xR xW BO wF) (fun b o v h=>h.2) (fun b x h=>h.2) (VL.cons hx0 (VL.cons hx1 (VL.cons hx2 .nil)))).mono fun e W' ⟨he,hb⟩=>?_
 subst he
 refine ⟨_,rfl,Ct (tb:=4) Em (fun t ht=>?_) rfl (fun ds hd=>spec ds ?_) res undB hW' hb⟩
 ·rw [par] at ht
  have ht:t∈[26,29,23]:=ht
  simp only [List.mem_cons,List.not_mem_nil,or_false] at ht
  rcases ht with rfl | rfl | rfl
  ·exact ⟨G5,Nat.lt_trans (by decide) dJ⟩
  ·exact ⟨G0,Nat.lt_trans (by decide) dJ⟩
  ·exact ⟨Fx,Nat.lt_trans (by decide) dJ⟩
 ·rw [par] at hd
  exact hd
theorem reads (os:Os) {H:Type} (enc:TypeId × Value→H):(DataW.whole enc Tryz.prog ((kq os).forCall (fun _ _=>0) ⟨#[],#[.agg #[.int .i64 0,.string ⟨#[]⟩,.string ⟨#[]⟩,.int .i64 0,.slice none 0 0,.slice none 0 0,.slice none 0 0,.slice none 0 0,.int .i64 0],.agg #[.string ⟨#[]⟩,.slice none 0 0,.slice none 0 0,.slice none 0 0],.slice none 0 0],[]⟩).memory Tryz.f3.params.toList Rows.synthWeakerSpec.vars false [Value.agg #[.int .i64 0,.string ⟨#[]⟩,.string ⟨#[]⟩,.int .i64 0,.slice none 0 0,.slice none 0 0,.slice none 0 0,.slice none 0 0,.int .i64 0],Value.agg #[.string ⟨#[]⟩,.slice none 0 0,.slice none 0 0,.slice none 0 0],Value.slice none 0 0] 8).map (fun x=>(x.1,x.2.1))=some ([.agg [.lit (.int .i64 0),.lit (.string []),.lit (.string []),.lit (.int .i64 0),.nil,.nil,.nil,.nil,.lit (.int .i64 0)],.agg [.lit (.string []),.nil,.nil,.nil],.nil],[]):=by kernel_rfl
theorem FR (os:Os) (started:os.Started) (H:Type) (enc:TypeId × Value→H) (F:Stop.Interp) :
  ReturnsInHanded {} Tryz.checked os 3 .any ((OpenSpec.ofChange Rows.synthWeakerSpec).preRow enc Tryz.prog Tryz.f3 Rows.synthWeakerRow.domain false Rows.synthWeakerRow.laid) (((OpenSpec.ofChange Rows.synthWeakerSpec).at F).post enc Tryz.prog Tryz.f3 false true false false):=by
 obtain ⟨⟨y1,y2,y3⟩,hx,hy⟩:=Option.map_eq_some_iff.1 (reads os enc)
 simp only [Prod.mk.injEq] at hy
 obtain ⟨rfl,rfl⟩:=hy
 refine returnsInHanded_of_row (C:=Tryz.checked) (s:=OpenSpec.ofChange Rows.synthWeakerSpec) own started (by kernel_rfl) Tryz.func3
  (witness_row_atRef (enc:=enc) (C:=Tryz.checked) false (kq os) #[.agg #[.int .i64 0,.string ⟨#[]⟩,.string ⟨#[]⟩,.int .i64 0,.slice none 0 0,.slice none 0 0,.slice none 0 0,.slice none 0 0,.int .i64 0],.agg #[.string ⟨#[]⟩,.slice none 0 0,.slice none 0 0,.slice none 0 0],.slice none 0 0] rfl (by kernel_rfl) (by kernel_rfl) (by kernel_rfl)
   (OpenSpec.preRow_of_cond 8 hx (by kernel_rfl) (fun k hk=>by cases hk) (by kernel_rfl) (CK os _))) ?_
 intro W base args ds gs before hval hW _ _ hwt hL hsh _
 exact DS H enc W base args ds gs before hval hW hwt hL hsh
theorem c1:(Rows.synthWeakerRow.inPlace ==Tryz.prog.inPlace 3)=true:=by kernel_rfl
theorem c2:(Rows.synthWeakerRow.unfollowed ==Tryz.prog.unfollowed 3)=true:=by kernel_rfl
theorem c3:(Rows.synthWeakerRow.recurses ==Tryz.prog.recurses 3)=true:=by kernel_rfl
theorem c4:(Rows.synthWeakerRow.named ==Tryz.prog.varsNamed 3)=true:=by kernel_rfl
theorem FT:joinedFacts Tryz.prog 3 Tryz.f3 (OpenSpec.ofChange Rows.synthWeakerSpec).bare Rows.synthWeakerRow=true:=by
 unfold joinedFacts
 rw [c1,c2,c3,c4]
 kernel_rfl
theorem said:Rows.SynthWeakerSaid:=
 OpenClaim.holds_of_cond 3 Tryz.f3 rfl rfl rfl rfl rfl rfl rfl ⟨rfl,rfl,rfl,rfl,rfl⟩ rfl rfl rfl rfl rfl (by kernel_rfl) Tryz.func3 FT
  (Xo (by kernel_rfl)) (by unfold Func.isWrapper;first | (rw [if_pos (by decide+kernel)];kernel_rfl) | (rw [if_neg (by decide+kernel)];exact ⟨rfl,rfl⟩))
  (fun os started H enc _ F=>by rw [OpenClaim.pre_eq_preRow];exact FR os started H enc F)
theorem plain (f:FuncId) (fn:Func) (hf:Tryz.pinned.checked.prog.funcNamed "pandect/pandectlaw14.SynthWeaker"=some f) (hfn:Tryz.pinned.checked.prog.funcs[f]?=some fn) :
  true=Tryz.pinned.checked.prog.looks []/\∀(j:Nat) t,fn.params[j]?=some t→Tryz.pinned.checked.prog.wantsStandIn t=false:=by
 obtain rfl:f=3:=Option.some.inj ((show Tryz.prog.funcNamed "pandect/pandectlaw14.SynthWeaker"=some 3 by kernel_rfl).symm.trans hf) |>.symm
 obtain rfl:fn=Tryz.f3:=(Option.some.inj (Tryz.func3.symm.trans hfn)).symm
 refine ⟨by kernel_rfl,fun j t ht=>?_⟩
 rw [par] at ht
 have ht:=Array.mem_of_getElem? ht
 simp only [List.mem_toArray,List.mem_cons,List.not_mem_nil,or_false] at ht
 rcases ht with rfl | rfl | rfl
 ·exact (show Tryz.prog.wantsStandIn 26=false by kernel_rfl)
 ·exact (show Tryz.prog.wantsStandIn 29=false by kernel_rfl)
 ·exact (show Tryz.prog.wantsStandIn 23=false by kernel_rfl)
theorem card:Rows.SynthWeakerCardSaid:=
 Claim7.holds_tied_plain_at .later [] _ _ _ _ said (fun _ h=>by cases h) (by kernel_rfl) (fun _ h=>by cases h) synthWeaker_row_tie rfl ⟨rfl,rfl⟩ (by kernel_rfl) rfl plain (by kernel_rfl)
end Go.Proofs.YtpngcclngehaiaaGreatDoor.JSynthWeaker
end
